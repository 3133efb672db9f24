/-
  Records: Decode's inner function.
-/
import Derived.Test.YtpkmnihiepbmcaaRec6
namespace Go.Proofs.Ytpkmnihiepbmcaa
open Go.RowKit
open PRec (Rec Drt Atx)
def zR : Array Value := #[.int .u8 0, .int .u64 0, .int .u64 0, .int .u32 0, .int .u16 0, .int .u64 0, .int .u64 0, .string ⟨#[]⟩, .slice none 0 0, .slice none 0 0, .int .u64 0, .int .u64 0]
/-- what stands while bytes are read: the bytes, the result, where, whether all was there -/
def St (w0 : World) (s : ByteArray) (W : World) (p : Nat) (b : Bool) : Prop := Below w0.heap.size w0 W ∧ W.heap[w0.heap.size]? = some (.cells #[.string s] 9 (0, 0)) ∧ W.heap[w0.heap.size + 1]? = some (.cells zR 32 (0, 0)) ∧
  W.heap[w0.heap.size + 1 + 1]? = some (.cells #[.int .i64 p] 3 (0, 0)) ∧ W.heap[w0.heap.size + 1 + 1 + 1]? = some (.cells #[.bool b] 4 (0, 0))
/-- all but two blocks are as they were -/
def Nx (n : Nat) (w w' : World) : Prop := w'.os = w.os ∧ w'.tape = w.tape ∧ w'.output = w.output ∧ w.heap.size ≤ w'.heap.size ∧ ∀ i, i < w.heap.size → i ≠ n + 1 + 1 → i ≠ n + 1 + 1 + 1 → w'.heap[i]? = w.heap[i]?
theorem Nx.refl (n : Nat) (w : World) : Nx n w w := ⟨rfl, rfl, rfl, Nat.le_refl _, fun _ _ _ _ => rfl⟩
theorem Nx.trans {n : Nat} {a b c : World} (h : Nx n a b) (k : Nx n b c) : Nx n a c :=
  ⟨k.1.trans h.1, k.2.1.trans h.2.1, k.2.2.1.trans h.2.2.1, Nat.le_trans h.2.2.2.1 k.2.2.2.1, fun i hi h1 h2 => (k.2.2.2.2 i (Nat.lt_of_lt_of_le hi h.2.2.2.1) h1 h2).trans (h.2.2.2.2 i hi h1 h2)⟩
theorem Nx.of_below {n : Nat} {a b : World} (h : Below a.heap.size a b) : Nx n a b := ⟨h.os, h.tape, h.output, h.size, fun i hi _ _ => h.block i hi⟩
theorem setRow_ne (w : World) (g : Nat) (cs : Array Value) (i : Nat) (h : i ≠ g) : (w.setRow g cs).heap[i]? = w.heap[i]? := by
  unfold World.setRow
  simp only [Array.getElem?_modify]
  rw [if_neg (by omega)]
theorem size_setRow (w : World) (g : Nat) (cs : Array Value) : (w.setRow g cs).heap.size = w.heap.size := by
  unfold World.setRow; simp
theorem one_cell {W : World} {g : Nat} {v : Value} {t : TypeId} {fz : Nat × Nat} (h : W.heap[g]? = some (.cells #[v] t fz)) : W.cell? ⟨g, 0, none⟩ = some v := by simp [World.cell?, h]
theorem one_free {W : World} {g : Nat} {v : Value} {t : TypeId} (h : W.heap[g]? = some (.cells #[v] t (0, 0))) : W.frozen? ⟨g, 0, none⟩ = false := by simp [World.frozen?, h]
theorem one_set {W : World} {g : Nat} {v u : Value} {t : TypeId} {fz : Nat × Nat} (h : W.heap[g]? = some (.cells #[v] t fz)) : (W.setCell ⟨g, 0, none⟩ u).heap[g]? = some (.cells #[u] t fz) := by
  rw [setCell_eq_setRow W g 0 #[v] t fz u h]
  exact setRow_heap W g _ _ t fz h
theorem St.after {w0 : World} {s : ByteArray} {W w1 : World} {p p' : Nat} {b b' : Bool} (h : St w0 s W p b) (hb : Below W.heap.size W w1) :
    St w0 s ((w1.setCell ⟨w0.heap.size + 1 + 1 + 1, 0, none⟩ (.bool b')).setCell ⟨w0.heap.size + 1 + 1, 0, none⟩ (.int .i64 p')) p' b' ∧ Nx w0.heap.size W ((w1.setCell ⟨w0.heap.size + 1 + 1 + 1, 0, none⟩ (.bool b')).setCell ⟨w0.heap.size + 1 + 1, 0, none⟩ (.int .i64 p')) := by
  obtain ⟨h1, h2, h3, h4, h5⟩ := h
  have l2 := (Array.getElem?_eq_some_iff.1 h2).1
  have l3 := (Array.getElem?_eq_some_iff.1 h3).1
  have l4 := (Array.getElem?_eq_some_iff.1 h4).1
  have l5 := (Array.getElem?_eq_some_iff.1 h5).1
  have k2 := (hb.block _ l2).trans h2
  have k3 := (hb.block _ l3).trans h3
  have k4 := (hb.block _ l4).trans h4
  have k5 := (hb.block _ l5).trans h5
  refine ⟨⟨((h1.step hb).setCell (by simp; omega) _).setCell (by simp; omega) _, ?_, ?_, ?_, ?_⟩, ?_⟩
  · rw [Below.heap_setCell _ _ _ _ (by simp; omega), Below.heap_setCell _ _ _ _ (by simp; omega), k2]
  · rw [Below.heap_setCell _ _ _ _ (by simp), Below.heap_setCell _ _ _ _ (by simp), k3]
  · refine one_set ?_ (v := .int .i64 p)
    rw [Below.heap_setCell _ _ _ _ (by simp), k4]
  · rw [Below.heap_setCell _ _ _ _ (by simp)]
    exact one_set k5
  · refine ⟨hb.os, hb.tape, hb.output, by simpa [World.setCell] using hb.size, fun i hi e1 e2 => ?_⟩
    rw [Below.heap_setCell _ _ _ _ (by simpa using e1), Below.heap_setCell _ _ _ _ (by simpa using e2)]
    exact hb.block i hi
set_option maxHeartbeats 4000000 in
theorem next_any (w0 : World) (s : ByteArray) (hs : s.size ≤ maxLen) (p k : Nat) (hp : p ≤ 100000) (hk : k ≤ 8) (b : Bool) (W : World) (h : St w0 s W p b) :
    Calls Try.prog 28 #[.int .i64 k, .pointer (some ⟨w0.heap.size, 0, none⟩), .pointer (some ⟨w0.heap.size + 1 + 1, 0, none⟩), .pointer (some ⟨w0.heap.size + 1 + 1 + 1, 0, none⟩)] W fun e W' => e = .returned (.int .u64 (PRec.g s.data.toList p k)) ∧
      St w0 s W' (p + k) (b && (PWord.get s.data.toList p k).2) ∧ Nx w0.heap.size W W' := by
  have HS := Lib.hid h
  obtain ⟨h1, h2, h3, h4, h5⟩ := h
  have c2 := one_cell h2
  have c4 := one_cell h4
  have c5 := one_cell h5
  have HG := Lib.hid (fun W => get_any s p k hs W)
  have HGG : Hid (PRec.g s.data.toList p k = (PWord.get s.data.toList p k).1) := Lib.hid rfl
  generalize PWord.get s.data.toList p k = G at *
  obtain ⟨gn, gb⟩ := G
  dsimp only at HG HGG
  clear h1 h2 h3 hs
  have H4 := Lib.hid h4
  have H5 := Lib.hid h5
  clear h4 h5
  go_enter Try.func28, Try.ntmps28
  go_wp2_with fail
  refine (HG.out _).mono ?_
  rintro e w1 ⟨rfl, hb⟩
  have k4 := (hb.block _ (Array.getElem?_eq_some_iff.1 H4.out).1).trans H4.out
  have k5 := (hb.block _ (Array.getElem?_eq_some_iff.1 H5.out).1).trans H5.out
  have f4 := one_free k4
  have f5 := one_free k5
  replace c4 := one_cell k4
  replace c5 := one_cell k5
  have HB := Lib.hid hb
  have hwr : IntKind.i64.wrap ((p : Int) + k) = ((p + k : Nat) : Int) := by rw [IntKind.wrap_i64]; omega
  clear k4 k5 hb c2
  cases b
  · go_wp2
    go_ret
    have := St.after (p' := p + k) (b' := false) HS.out HB.out
    exact ⟨by rw [HGG.out]; rfl, this⟩
  · go_wp2
    go_ret
    have := St.after (p' := p + k) (b' := gb) HS.out HB.out
    exact ⟨by rw [HGG.out]; rfl, by simpa using this⟩
end Go.Proofs.Ytpkmnihiepbmcaa
