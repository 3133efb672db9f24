/-
  MasterKeeps: the disk and two masters in boxes beside it.
-/
import Derived.Test.YtmbialiledjigaaPMKeep
import Derived.Test.YtmbialiledjigaaMst9
import Derived.Test.YtmbialiledjigaaMOpen
namespace Go.Proofs.Ytmbialiledjigaa
open Go.RowKit
open PMst (Mst)
def KM (w W : World) (b : Nat) (D : PDsk.Dsk) (own : List Nat) (pw pn : Nat) (A B : Mst) : Prop :=
  IsDisk W b D own ∧ (∀ k ∈ own, w.heap.size ≤ k) ∧ pw ∉ own ∧ pn ∉ own ∧ pw ≠ pn ∧ w.heap.size ≤ pw ∧ w.heap.size ≤ pn ∧ W.heap[pw]? = some (.cells (five A) 24 (0, 0)) ∧ W.heap[pn]? = some (.cells (five B) 24 (0, 0)) ∧ Below w.heap.size w W
section
variable {w W W' : World} {b : Nat} {D D' : PDsk.Dsk} {own own' : List Nat} {pw pn : Nat} {A B C : Mst}
theorem KM.below (h : KM w W b D own pw pn A B) (hb : Below W.heap.size W W') : KM w W' b D own pw pn A B := by
  obtain ⟨h1, h2, h3, h4, h5, h6, h7, h8, h9, h10⟩ := h
  exact ⟨h1.below hb, h2, h3, h4, h5, h6, h7, (hb.block _ (Array.getElem?_eq_some_iff.1 h8).1).trans h8, (hb.block _ (Array.getElem?_eq_some_iff.1 h9).1).trans h9, h10.step hb⟩
theorem KM.disk (h : KM w W b D own pw pn A B) (hd : IsDisk W' b D' own') (hs : Stepped W W' own own') : KM w W' b D' own' pw pn A B := by
  obtain ⟨h1, h2, h3, h4, h5, h6, h7, h8, h9, h10⟩ := h
  have l8 := (Array.getElem?_eq_some_iff.1 h8).1
  have l9 := (Array.getElem?_eq_some_iff.1 h9).1
  have hb := Stepped.below h10 (Nat.le_refl _) h2 hs
  refine ⟨hd, hb.2, fun hm => ?_, fun hm => ?_, h5, h6, h7, (hs.1.block _ l8 h3).trans h8, (hs.1.block _ l9 h4).trans h9, hb.1⟩
  · rcases hs.2 _ hm with h | h
    · exact h3 h
    · omega
  · rcases hs.2 _ hm with h | h
    · exact h4 h
    · omega
theorem KM.putW (h : KM w W b D own pw pn A B) (C : Mst) : KM w (W.setRow pw (five C)) b D own pw pn C B := by
  obtain ⟨h1, h2, h3, h4, h5, h6, h7, h8, h9, h10⟩ := h
  refine ⟨h1.turns (bs := [pw]) ⟨rfl, rfl, rfl, by simp, fun k hk hn => setRow_other _ _ _ _ (by simpa using hn)⟩ (fun k hk hm => h3 (by rw [List.mem_singleton.1 hm] at hk; exact hk)), h2, h3, h4, h5, h6, h7, setRow_heap _ _ _ _ _ _ h8, (setRow_other _ _ _ _ (fun e => h5 e.symm)).trans h9, below_setRow h10 h6 _⟩
theorem KM.putN (h : KM w W b D own pw pn A B) (C : Mst) : KM w (W.setRow pn (five C)) b D own pw pn A C := by
  obtain ⟨h1, h2, h3, h4, h5, h6, h7, h8, h9, h10⟩ := h
  refine ⟨h1.turns (bs := [pn]) ⟨rfl, rfl, rfl, by simp, fun k hk hn => setRow_other _ _ _ _ (by simpa using hn)⟩ (fun k hk hm => h4 (by rw [List.mem_singleton.1 hm] at hk; exact hk)), h2, h3, h4, h5, h6, h7, (setRow_other _ _ _ _ h5).trans h8, setRow_heap _ _ _ _ _ _ h9, below_setRow h10 h7 _⟩
/-- a further box -/
theorem KM.box (h : KM w W b D own pw pn A B) (o : Obj) : KM w (W.alloc o) b D own pw pn A B := h.below ((Below.refl _ _).alloc (Nat.le_refl _) o)
theorem KM.new (h1 : IsDisk W b D own) (h2 : ∀ k ∈ own, w.heap.size ≤ k) (h3 : Below w.heap.size w W) (A B : Mst) :
    KM w (((W.alloc (.cells (five A) 24)).alloc (.cells (five B) 24)).drew) b D own W.heap.size (W.heap.size + 1) A B ∧ KM w (((W.alloc (.cells (five A) 24)).alloc (.cells (five B) 24)).drew) b D own (W.heap.size + 1) W.heap.size B A := by
  obtain ⟨m1, m2, m3⟩ := made2 W (five A) (five B) 24 24
  have hlt := h1.lt
  have hsz := h3.size
  have hn1 : W.heap.size ∉ own := fun hm => by have := hlt _ hm; omega
  have hn2 : W.heap.size + 1 ∉ own := fun hm => by have := hlt _ hm; omega
  exact ⟨⟨h1.below m3.drew, h2, hn1, hn2, by omega, by omega, by omega, m1, m2, h3.step m3.drew⟩, ⟨h1.below m3.drew, h2, hn2, hn1, by omega, by omega, by omega, m2, m1, h3.step m3.drew⟩⟩
end
end Go.Proofs.Ytmbialiledjigaa
