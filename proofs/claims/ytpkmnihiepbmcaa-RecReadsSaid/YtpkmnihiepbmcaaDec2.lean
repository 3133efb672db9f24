/-
  Records: Decode of the program: small laws.
-/
import Derived.Test.YtpkmnihiepbmcaaDec1
import Derived.Test.YtpkmnihiepbmcaaPDec
import Derived.Laws.ResultCell
namespace Go.Proofs.Ytpkmnihiepbmcaa
open Go.RowKit
open PRec (Rec Drt Atx)
def rc (r : Rec) (vd vt : Value) : Array Value := #[.int .u8 r.kind, .int .u64 r.tx, .int .u64 r.prev, .int .u32 r.page, .int .u16 r.slot, .int .u64 r.next, .int .u64 r.number, .string ⟨r.body.toArray⟩, vd, vt, .int .u64 r.ttx, .int .u64 r.tnum]
theorem box12d {W : World} {b : Nat} {v0 v1 v2 v3 v4 v5 v6 v7 v8 v9 v10 v11 : Value} {t : TypeId} {fz : Nat × Nat} (h : W.heap[b]? = some (.cells #[v0, v1, v2, v3, v4, v5, v6, v7, v8, v9, v10, v11] t fz)) :
    W.cell? ⟨b, 0, none⟩ = some v0 ∧ W.cell? ⟨b, 1, none⟩ = some v1 ∧ W.cell? ⟨b, 2, none⟩ = some v2 ∧ W.cell? ⟨b, 3, none⟩ = some v3 ∧ W.cell? ⟨b, 4, none⟩ = some v4 ∧ W.cell? ⟨b, 5, none⟩ = some v5 ∧ W.cell? ⟨b, 6, none⟩ = some v6 ∧ W.cell? ⟨b, 7, none⟩ = some v7 ∧ W.cell? ⟨b, 8, none⟩ = some v8 ∧ W.cell? ⟨b, 9, none⟩ = some v9 ∧ W.cell? ⟨b, 10, none⟩ = some v10 ∧ W.cell? ⟨b, 11, none⟩ = some v11 := by
  simp [World.cell?, h]
theorem load_rec (W : World) (h : Nat) (r : Rec) (vd vt : Value) (t : TypeId) (hW : W.heap[h]? = some (.cells (rc r vd vt) t (0, 0))) : (loadVar 32 ⟨h, 0, none⟩).run Try.prog W = .ok (rv r vd vt) W := by
  have hc := box12d hW
  refine run_loadVar_mid (P := Try.prog) W h 0 32 (rc r vd vt).toList _ ?_ Try.underlying32 rfl (by kernel_rfl)
  intro j v hv
  have hj : j < 12 := (List.getElem?_eq_some_iff.1 hv).1
  have : j = 0 ∨ j = 1 ∨ j = 2 ∨ j = 3 ∨ j = 4 ∨ j = 5 ∨ j = 6 ∨ j = 7 ∨ j = 8 ∨ j = 9 ∨ j = 10 ∨ j = 11 := by omega
  rcases this with rfl | rfl | rfl | rfl | rfl | rfl | rfl | rfl | rfl | rfl | rfl | rfl <;> simp [rc] at hv <;> subst hv <;> simp [hc]
theorem res_rec {fn : Func} {r : Rec} {vd vt : Value} {p u : Tmp} (hr : fn.results = #[.cell p 32, .tmp u]) (tmps : Array Value) (W : World) (h : Nat) {t : TypeId} {x : Value} (hp : tmps.getD p undef = .pointer (some ⟨h, 0, none⟩)) (hx : tmps.getD u undef = x) (hW : W.heap[h]? = some (.cells (rc r vd vt) t (0, 0))) :
    (results fn tmps).run Try.prog W = .ok (.tuple #[rv r vd vt, x]) W := by
  rw [results_cell_tmp hr, hp, hx]
  simp only [asAddr, Sem.run_pure, Result.andThen_ok, load_rec W h r vd vt t hW]
theorem st_start (w : World) (s : ByteArray) : St w s ((((w.alloc (.cells #[.string s] 9)).alloc (.cells zR 32)).alloc (.cells #[.int .i64 0] 3)).alloc (.cells #[.bool true] 4)) 0 true := by
  refine ⟨(((Below.refl w.heap.size w).alloc (Nat.le_refl _) _).alloc (by simp) _).alloc (by simp; omega) _ |>.alloc (by simp; omega) _, ?_, ?_, ?_, ?_⟩
  · rw [Below.heap_alloc _ _ _ (by simp; omega), Below.heap_alloc _ _ _ (by simp; omega), Below.heap_alloc _ _ _ (by simp)]
    exact heap_alloc_new w _
  · rw [Below.heap_alloc _ _ _ (by simp), Below.heap_alloc _ _ _ (by simp)]
    have := heap_alloc_new (w.alloc (.cells #[.string s] 9)) (.cells zR 32)
    simpa using this
  · rw [Below.heap_alloc _ _ _ (by simp)]
    have := heap_alloc_new ((w.alloc (.cells #[.string s] 9)).alloc (.cells zR 32)) (.cells #[.int .i64 0] 3)
    simpa using this
  · have := heap_alloc_new (((w.alloc (.cells #[.string s] 9)).alloc (.cells zR 32)).alloc (.cells #[.int .i64 0] 3)) (.cells #[.bool true] 4)
    simpa using this
/-- .. and it is said by the place alone whether all was there -/
def Sx (w0 : World) (s : ByteArray) (W : World) (p : Nat) : Prop := St w0 s W p (decide (p ≤ s.size))
theorem len_l (s : ByteArray) : s.data.toList.length = s.size := rfl
theorem next_dec (w0 : World) (s : ByteArray) (hs : s.size ≤ maxLen) (p k : Nat) (hp : p ≤ 100000) (h1 : 1 ≤ k) (hk : k ≤ 8) (W : World) (h : Sx w0 s W p) :
    Calls Try.prog 28 #[.int .i64 k, .pointer (some ⟨w0.heap.size, 0, none⟩), .pointer (some ⟨w0.heap.size + 1 + 1, 0, none⟩), .pointer (some ⟨w0.heap.size + 1 + 1 + 1, 0, none⟩)] W fun e W' => e = .returned (.int .u64 (PRec.g s.data.toList p k)) ∧
      Sx w0 s W' (p + k) ∧ Nx w0.heap.size W W' := by
  refine (next_any w0 s hs p k hp hk _ W h).mono ?_
  rintro e W' ⟨he, h2, h3⟩
  refine ⟨he, ?_, h3⟩
  rw [PRec.ins_iff _ _ _ h1 hk, len_l] at h2
  have : (decide (p ≤ s.size) && decide (p + k ≤ s.size)) = decide (p + k ≤ s.size) := by rw [Bool.eq_iff_iff]; simp; omega
  rw [this] at h2
  exact h2
theorem next1 (w0 : World) (s : ByteArray) (hs : s.size ≤ maxLen) (p : Nat) (hp : p ≤ 100000) (W : World) (h : Sx w0 s W p) :
    Calls Try.prog 28 #[.int .i64 1, .pointer (some ⟨w0.heap.size, 0, none⟩), .pointer (some ⟨w0.heap.size + 1 + 1, 0, none⟩), .pointer (some ⟨w0.heap.size + 1 + 1 + 1, 0, none⟩)] W fun e W' => e = .returned (.int .u64 (PRec.g s.data.toList p 1)) ∧ Sx w0 s W' (p + 1) ∧ Nx w0.heap.size W W' := next_dec w0 s hs p 1 hp (by omega) (by omega) W h
theorem next2 (w0 : World) (s : ByteArray) (hs : s.size ≤ maxLen) (p : Nat) (hp : p ≤ 100000) (W : World) (h : Sx w0 s W p) :
    Calls Try.prog 28 #[.int .i64 2, .pointer (some ⟨w0.heap.size, 0, none⟩), .pointer (some ⟨w0.heap.size + 1 + 1, 0, none⟩), .pointer (some ⟨w0.heap.size + 1 + 1 + 1, 0, none⟩)] W fun e W' => e = .returned (.int .u64 (PRec.g s.data.toList p 2)) ∧ Sx w0 s W' (p + 2) ∧ Nx w0.heap.size W W' := next_dec w0 s hs p 2 hp (by omega) (by omega) W h
theorem next4 (w0 : World) (s : ByteArray) (hs : s.size ≤ maxLen) (p : Nat) (hp : p ≤ 100000) (W : World) (h : Sx w0 s W p) :
    Calls Try.prog 28 #[.int .i64 4, .pointer (some ⟨w0.heap.size, 0, none⟩), .pointer (some ⟨w0.heap.size + 1 + 1, 0, none⟩), .pointer (some ⟨w0.heap.size + 1 + 1 + 1, 0, none⟩)] W fun e W' => e = .returned (.int .u64 (PRec.g s.data.toList p 4)) ∧ Sx w0 s W' (p + 4) ∧ Nx w0.heap.size W W' := next_dec w0 s hs p 4 hp (by omega) (by omega) W h
theorem next8 (w0 : World) (s : ByteArray) (hs : s.size ≤ maxLen) (p : Nat) (hp : p ≤ 100000) (W : World) (h : Sx w0 s W p) :
    Calls Try.prog 28 #[.int .i64 8, .pointer (some ⟨w0.heap.size, 0, none⟩), .pointer (some ⟨w0.heap.size + 1 + 1, 0, none⟩), .pointer (some ⟨w0.heap.size + 1 + 1 + 1, 0, none⟩)] W fun e W' => e = .returned (.int .u64 (PRec.g s.data.toList p 8)) ∧ Sx w0 s W' (p + 8) ∧ Nx w0.heap.size W W' := next_dec w0 s hs p 8 hp (by omega) (by omega) W h
theorem sx_start (w : World) (s : ByteArray) : Sx w s ((((w.alloc (.cells #[.string s] 9)).alloc (.cells zR 32)).alloc (.cells #[.int .i64 0] 3)).alloc (.cells #[.bool true] 4)) 0 := by
  have := st_start w s
  unfold Sx
  rwa [show decide (0 ≤ s.size) = true by simp]
theorem St.set {w0 : World} {s : ByteArray} {W : World} {p : Nat} {b : Bool} (h : St w0 s W p b) {g j : Nat} (hg : w0.heap.size + 1 + 1 + 1 < g) (v : Value) : St w0 s (W.setCell ⟨g, j, none⟩ v) p b := by
  obtain ⟨h1, h2, h3, h4, h5⟩ := h
  refine ⟨h1.setCell (by simp; omega) _, ?_, ?_, ?_, ?_⟩
  · rw [Below.heap_setCell _ _ _ _ (by simp; omega)]; exact h2
  · rw [Below.heap_setCell _ _ _ _ (by simp; omega)]; exact h3
  · rw [Below.heap_setCell _ _ _ _ (by simp; omega)]; exact h4
  · rw [Below.heap_setCell _ _ _ _ (by simp; omega)]; exact h5
theorem St.below {w0 : World} {s : ByteArray} {W W' : World} {p : Nat} {b : Bool} (h : St w0 s W p b) (hb : Below W.heap.size W W') : St w0 s W' p b := by
  obtain ⟨h1, h2, h3, h4, h5⟩ := h
  exact ⟨h1.step hb, (hb.block _ (Array.getElem?_eq_some_iff.1 h2).1).trans h2, (hb.block _ (Array.getElem?_eq_some_iff.1 h3).1).trans h3, (hb.block _ (Array.getElem?_eq_some_iff.1 h4).1).trans h4, (hb.block _ (Array.getElem?_eq_some_iff.1 h5).1).trans h5⟩
theorem St.grown {w0 : World} {s : ByteArray} {W W' : World} {p : Nat} {b : Bool} (h : St w0 s W p b) {row : Option Nat} (hg : W.grownBy W' row) (hr : ∀ k, row = some k → w0.heap.size + 1 + 1 + 1 < k) : St w0 s W' p b := by
  obtain ⟨h1, h2, h3, h4, h5⟩ := h
  have key : ∀ i, i < W.heap.size → i ≤ w0.heap.size + 1 + 1 + 1 → W'.heap[i]? = W.heap[i]? := fun i hi hl => hg.block i hi (fun e => by have := hr i e.symm; omega)
  refine ⟨h1.grown hg h1.size (fun k e => by have := hr k e; omega), ?_, ?_, ?_, ?_⟩
  · exact (key _ (Array.getElem?_eq_some_iff.1 h2).1 (by omega)).trans h2
  · exact (key _ (Array.getElem?_eq_some_iff.1 h3).1 (by omega)).trans h3
  · exact (key _ (Array.getElem?_eq_some_iff.1 h4).1 (by omega)).trans h4
  · exact (key _ (Array.getElem?_eq_some_iff.1 h5).1 (by omega)).trans h5
theorem Nx.block {n : Nat} {W W' : World} (h : Nx n W W') {g : Nat} (hg : n + 1 + 1 + 1 < g) {o : Obj} (hW : W.heap[g]? = some o) : W'.heap[g]? = some o :=
  (h.2.2.2.2 g (Array.getElem?_eq_some_iff.1 hW).1 (by omega) (by omega)).trans hW
theorem frozen12 {W : World} {g j : Nat} {A : Array Value} {t : TypeId} (h : W.heap[g]? = some (.cells A t (0, 0))) : W.frozen? ⟨g, j, none⟩ = false := by simp [World.frozen?, h]
theorem set12 {W : World} {g j : Nat} {A : Array Value} {t : TypeId} (h : W.heap[g]? = some (.cells A t (0, 0))) (v : Value) : (W.setCell ⟨g, j, none⟩ v).heap[g]? = some (.cells (A.setIfInBounds j v) t (0, 0)) := by
  rw [setCell_eq_setRow W g j A t (0, 0) v h]
  exact setRow_heap W g _ _ t (0, 0) h
end Go.Proofs.Ytpkmnihiepbmcaa
