/-
  Twin: pages as values; the calls of a mark.
-/
import Derived.Test.YtdkhmhlphhammaaTwC
import Derived.Deep.DeepCutAuto
import Derived.Deep.CutBlock
namespace Go.Proofs.Ytdkhmhlphhammaa
open Go.RowKit
open PTwin (Hm)
def homesV (l : List Hm) : List Value := l.flatMap fun h => [.int .u32 h.page, .string ⟨h.bytes.toArray⟩]
theorem homesV_length (l : List Hm) : (homesV l).length = l.length * 2 := by
  induction l with
  | nil => rfl
  | cons h l ih => unfold homesV at ih ⊢; rw [List.flatMap_cons, List.length_append, ih, List.length_cons]; simp; omega
theorem homesV_snoc (l : List Hm) (h : Hm) : homesV (l ++ [h]) = homesV l ++ [.int .u32 h.page, .string ⟨h.bytes.toArray⟩] := by simp [homesV]
theorem homesV_at : ∀ (l : List Hm) (i : Nat) (h : i < l.length), (homesV l)[i * 2]? = some (.int .u32 l[i].page) ∧ (homesV l)[i * 2 + 1]? = some (.string ⟨l[i].bytes.toArray⟩)
  | x :: l, 0, _ => by simp [homesV]
  | x :: l, i + 1, h => by
    have e : homesV (x :: l) = .int .u32 x.page :: .string ⟨x.bytes.toArray⟩ :: homesV l := rfl
    rw [e, show (i + 1) * 2 = i * 2 + 1 + 1 by omega]
    simpa using homesV_at l i (by simpa using h)
def HomeIn (w : World) (v : Value) (l : List Hm) : Prop := RdS w 2 v l.length (homesV l)
theorem home_cells {w : World} {p : Option Addr} {c : Nat} {l : List Hm} (h : HomeIn w (.slice p l.length c) l) {i : Nat} (hi : i < l.length) :
    ∃ g off, p = some ⟨g, off, none⟩ ∧ g < w.heap.size ∧ w.cell? ⟨g, off + i * 2, none⟩ = some (.int .u32 l[i].page) ∧ w.cell? ⟨g, off + i * 2 + 1, none⟩ = some (.string ⟨l[i].bytes.toArray⟩) := by
  obtain ⟨g, off, rfl, hg, hc⟩ := RdS.at h (by omega)
  obtain ⟨h0, h1⟩ := homesV_at l i hi
  obtain ⟨l0, e0⟩ := List.getElem?_eq_some_iff.1 h0
  obtain ⟨l1, e1⟩ := List.getElem?_eq_some_iff.1 h1
  exact ⟨g, off, rfl, hg, by rw [hc _ l0, e0], by rw [Nat.add_assoc, hc _ l1, e1]⟩
theorem Sl.of_built (w : World) (base : Nat) (hb : base ≤ w.heap.size) (e : TypeId) (size n : Nat) (vs : List Value) (hn : vs.length = n * size) (hm : n ≤ maxLen) :
    Sl (w.alloc (.cells vs.toArray e)) base e size (.slice (some ⟨w.heap.size, 0, none⟩) n n) n vs := by
  have h := Sl.of_block (w := w.alloc (.cells vs.toArray e)) (base := base) (e := e) (size := size) (n := n) (g := w.heap.size) (off := 0) (cap := n) (cur := vs.toArray) (fz := (0, 0)) hb (heap_alloc_new w _) (Free.none _) (Nat.le_refl _) hm (by simp [hn])
  have e2 : ((vs.toArray.toList.drop 0).take (n * size)) = vs := by simp [← hn]
  rw [e2] at h
  exact h
/-! ### marks -/
theorem marks_any (w : World) (b k : Nat) (s : ByteArray) (hs : s.size = 128) (hk : k ≤ 100000000000) :
    Calls Try.prog 40 #[.pointer (some ⟨b, 0, none⟩), .int .i64 k, .string s] w fun e w' => ∃ v xs, e = .returned v ∧ Sl w' w.heap.size 37 1 v 2 xs ∧ Clos w' b (fun g => w.heap.size ≤ g ∧ g < w'.heap.size ∧ v.ownBlock ≠ some g) xs (PTwin.marks k s.data.toList) ∧ Below w.heap.size w w' := by
  have hmf : ∀ (fn : Fn) (first cap : Array Value) (w : World), (Instr.makeFunc fn first cap).run Try.prog w = .ok (.func fn first cap) w := fun _ _ _ _ => rfl
  obtain ⟨W, hW, B1, B2, B3, hsz, hbl⟩ := boxes3 w (.pointer (some ⟨b, 0, none⟩)) (.int .i64 k) (.string s) 25 3 9
  have HB1 := Lib.hid B1
  have HB2 := Lib.hid B2
  have HB3 := Lib.hid B3
  have HBL := Lib.hid hbl
  have HSZ := Lib.hid hsz
  have HSS := Lib.hid hs
  have HKK := Lib.hid hk
  have c3 : W.cell? ⟨w.heap.size, 0, none⟩ = some (.pointer (some ⟨b, 0, none⟩)) := B1.cell
  clear B1 B2 B3 hbl hsz hs hk
  go_enter Try.func40, Try.ntmps40
  go_wp2
  go_ret
  have hz := HSZ.out
  refine ⟨_, [.func (.func 51) #[] #[.pointer (some ⟨w.heap.size, 0, none⟩), .pointer (some ⟨w.heap.size + 1, 0, none⟩), .pointer (some ⟨w.heap.size + 1 + 1, 0, none⟩)], .func (.func 11) #[.pointer (some ⟨b, 0, none⟩)] #[]], rfl, Sl.of_built W w.heap.size (by omega) 37 1 2 _ rfl (by unfold maxLen; omega), ?_, HBL.out.alloc (by omega) _⟩
  rw [World.size_alloc]
  refine (Clos.one (.inr (.inl ⟨w.heap.size, w.heap.size + 1, w.heap.size + 1 + 1, k, s, rfl, ⟨by omega, by omega, by simp [Value.ownBlock]; omega⟩, ⟨by omega, by omega, by simp [Value.ownBlock]; omega⟩, ⟨by omega, by omega, by simp [Value.ownBlock]; omega⟩, (HB1.out.alloc _).cell, (HB2.out.alloc _).cell, (HB3.out.alloc _).cell, HSS.out, HKK.out, rfl⟩))).append (Clos.one (.inr (.inr ⟨rfl, rfl⟩)))
end Go.Proofs.Ytdkhmhlphhammaa
