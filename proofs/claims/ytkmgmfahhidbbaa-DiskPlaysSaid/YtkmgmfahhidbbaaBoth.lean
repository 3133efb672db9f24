/-
  The program's disk and the document's, beside each other.
-/
import Derived.Test.YtkmgmfahhidbbaaRef04g
import Derived.Test.YtkmgmfahhidbbaaText
namespace Go.Proofs.Ytkmgmfahhidbbaa
open Go.RowKit
def Both (w : World) (B b : Nat) (D : PDsk.Dsk) (own : List Nat) (bx : Nat) (Dx : PDsk.Dsk) (ownx : List Nat) : Prop := IsDisk w b D own ∧ IsRef w bx Dx ownx ∧ (∀ k ∈ own, k ∉ ownx) ∧ (∀ k ∈ own, B ≤ k) ∧ (∀ k ∈ ownx, B ≤ k)
section
variable {w w' : World} {B b bx : Nat} {D Dx D' : PDsk.Dsk} {own ownx own' : List Nat}
theorem Both.below (h : Both w B b D own bx Dx ownx) (hb : Below w.heap.size w w') : Both w' B b D own bx Dx ownx :=
  ⟨h.1.below hb, h.2.1.below hb, h.2.2⟩
theorem Both.disk (h : Both w B b D own bx Dx ownx) (hB : B ≤ w.heap.size) (hd : IsDisk w' b D' own') (s : Stepped w w' own own') : Both w' B b D' own' bx Dx ownx := by
  obtain ⟨h1, h2, h3, h4, h5⟩ := h
  refine ⟨hd, h2.turns s.1 (fun k hk hm => h3 k hm hk), fun k hk hm => ?_, fun k hk => ?_, h5⟩
  · rcases s.2 k hk with h | h
    · exact h3 k h hm
    · have := h2.lt k hm; omega
  · rcases s.2 k hk with h | h
    · exact h4 k h
    · omega
theorem Both.ref (h : Both w B b D own bx Dx ownx) (hB : B ≤ w.heap.size) (hd : IsRef w' bx D' own') (s : Stepped w w' ownx own') : Both w' B b D own bx D' own' := by
  obtain ⟨h1, h2, h3, h4, h5⟩ := h
  refine ⟨h1.turns s.1 (fun k hk hm => h3 k hk hm), hd, fun k hk hm => ?_, h4, fun k hk => ?_⟩
  · rcases s.2 k hm with h | h
    · exact h3 k hk h
    · have := h1.lt k hk; omega
  · rcases s.2 k hk with h | h
    · exact h5 k h
    · omega
theorem Both.below_disk (h : Both w B b D own bx Dx ownx) {w0 : World} (h0 : Below B w0 w) (hB : B ≤ w0.heap.size) (s : Stepped w w' own own') : Below B w0 w' := (Stepped.below h0 hB h.2.2.2.1 s).1
theorem Both.below_ref (h : Both w B b D own bx Dx ownx) {w0 : World} (h0 : Below B w0 w) (hB : B ≤ w0.heap.size) (s : Stepped w w' ownx own') : Below B w0 w' := (Stepped.below h0 hB h.2.2.2.2 s).1
/-- Another disk takes the place of the first. -/
theorem Both.swap (h : Both w B b D own bx Dx ownx) {b2 : Nat} {D2 : PDsk.Dsk} {own2 : List Nat} (hd : IsDisk w b2 D2 own2) (hx : ∀ k ∈ own2, k ∉ ownx) (hB : ∀ k ∈ own2, B ≤ k) : Both w B b2 D2 own2 bx Dx ownx := ⟨hd, h.2.1, hx, hB, h.2.2.2.2⟩
end
end Go.Proofs.Ytkmgmfahhidbbaa
