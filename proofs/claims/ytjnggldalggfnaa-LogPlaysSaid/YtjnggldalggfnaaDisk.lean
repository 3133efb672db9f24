/-
  A disk in memory, and what its small methods do.
-/
import Derived.Test.YtjnggldalggfnaaBase
import Derived.Test.YtjnggldalggfnaaPDisk
import Derived.Test.YtjnggldalggfnaaRange
import Derived.Test.YtjnggldalggfnaaRd
import Derived.Deep.MidRow
import Derived.Deep.RegionHeld3
import Derived.Deep.QuietTactic
import Derived.BigQuiet
namespace Go.Proofs.Ytjnggldalggfnaa
open Go.RowKit
def sureV (s : List (List UInt8)) : List Value := s.flatMap bytesV
def wrV (p : Nat × List UInt8) : List Value := .int .i64 p.1 :: bytesV p.2
def looseV (l : List (Nat × List UInt8)) : List Value := l.flatMap wrV
/-- The blocks that a value owns. -/
def ownsOf (v : Value) : List Nat := v.ownBlock.toList
/-- Block b is a disk that holds D; own: its three blocks (two, where nothing is loose). -/
def IsDisk (w : World) (b : Nat) (D : PDsk.Dsk) (own : List Nat) : Prop :=
  D.Ok ∧ ∃ gs os cs vl, w.heap[b]? = some (.cells #[.slice (some ⟨gs, os, none⟩) D.sure.length cs, vl, .int .i64 D.fuse] 77 (0, 0)) ∧
    Sl w 0 82 128 (.slice (some ⟨gs, os, none⟩) D.sure.length cs) D.sure.length (sureV D.sure) ∧ Sl w 0 84 129 vl D.loose.length (looseV D.loose) ∧
    gs ≠ b ∧ b ∉ ownsOf vl ∧ gs ∉ ownsOf vl ∧ own = b :: gs :: ownsOf vl
/-- What a method may do: own blocks turn, new ones are laid; the disk's own blocks stay its own, or are new. -/
def Stepped (w w' : World) (own own' : List Nat) : Prop := Turns own w w' ∧ ∀ k ∈ own', k ∈ own ∨ w.heap.size ≤ k
theorem Stepped.refl (w : World) (own : List Nat) : Stepped w w own own := ⟨Turns.refl _ _, fun _ h => .inl h⟩
theorem Turns.mono {bs cs : List Nat} {A B : World} (h : Turns bs A B) (hc : ∀ k ∈ bs, k ∈ cs) : Turns cs A B := ⟨h.os, h.tape, h.output, h.size, fun k hk hn => h.block k hk (fun hm => hn (hc k hm))⟩
theorem Stepped.trans {A B C : World} {o1 o2 o3 : List Nat} (h : Stepped A B o1 o2) (k : Stepped B C o2 o3) : Stepped A C o1 o3 := by
  refine ⟨⟨k.1.os.trans h.1.os, k.1.tape.trans h.1.tape, k.1.output.trans h.1.output, Nat.le_trans h.1.size k.1.size, fun i hi hn => ?_⟩, fun j hj => ?_⟩
  · refine (k.1.block i (Nat.lt_of_lt_of_le hi h.1.size) (fun hm => ?_)).trans (h.1.block i hi hn)
    rcases h.2 i hm with h1 | h1
    · exact hn h1
    · omega
  · rcases k.2 j hj with h1 | h1
    · exact h.2 j h1
    · exact .inr (Nat.le_trans h.1.size h1)
theorem Stepped.below {w0 : Nat} {w A B : World} {o1 o2 : List Nat} (h : Below w0 w A) (hn : w0 ≤ w.heap.size) (ho : ∀ k ∈ o1, w0 ≤ k) (s : Stepped A B o1 o2) : Below w0 w B ∧ ∀ k ∈ o2, w0 ≤ k :=
  ⟨below_turns h hn ho s.1, fun k hk => by
    rcases s.2 k hk with h1 | h1
    · exact ho k h1
    · have := h.size; omega⟩
theorem Stepped.of_below {A B : World} (h : Below A.heap.size A B) (own : List Nat) : Stepped A B own own := ⟨Turns.of_below h, fun _ h => .inl h⟩
section
variable {w : World} {b : Nat} {D : PDsk.Dsk} {own : List Nat}
theorem IsDisk.ok (h : IsDisk w b D own) : D.Ok := h.1
theorem IsDisk.lt (h : IsDisk w b D own) : ∀ k ∈ own, k < w.heap.size := by
  obtain ⟨_, gs, os, cs, vl, hb, hs, hl, _, _, _, rfl⟩ := h
  intro k hk
  simp only [List.mem_cons] at hk
  rcases hk with rfl | rfl | hk
  · exact (Array.getElem?_eq_some_iff.1 hb).1
  · exact (hs.lt _ rfl).2
  · refine (hl.lt k ?_).2
    unfold ownsOf at hk
    simpa using hk
/-- It abides whatever leaves its own blocks alone. -/
theorem IsDisk.turns {w' : World} {bs : List Nat} (h : IsDisk w b D own) (t : Turns bs w w') (hd : ∀ k ∈ own, k ∉ bs) : IsDisk w' b D own := by
  have hlt := h.lt
  obtain ⟨hk, gs, os, cs, vl, hb, hs, hl, h1, h2, h3, rfl⟩ := h
  refine ⟨hk, gs, os, cs, vl, (t.block b (hlt b (by simp)) (hd b (by simp))).trans hb, hs.keep fun k e => t.block k (hs.lt k e).2 (hd k ?_), hl.keep fun k e => t.block k (hl.lt k e).2 (hd k ?_), h1, h2, h3, rfl⟩
  · simp [Value.ownBlock] at e; subst e; simp
  · simp [ownsOf, e]
theorem IsDisk.below {w' : World} (h : IsDisk w b D own) (hb : Below w.heap.size w w') : IsDisk w' b D own := h.turns (bs := []) (Turns.of_below hb) (by simp)
end
/-! ### none, may, burns, Len, Loose, Fuse -/
theorem none_nil (w : World) : Calls Try.prog 42 #[.pointer none] w fun e w' => e = .returned (.bool true) ∧ w = w' := by
  go_enter Try.func42, Try.ntmps42
  go_wp2
  go_ret
  exact ⟨rfl, rfl⟩
theorem none_any {b : Nat} {D : PDsk.Dsk} {own : List Nat} (w : World) (h : IsDisk w b D own) : Calls Try.prog 42 #[.pointer (some ⟨b, 0, none⟩)] w fun e w' => e = .returned (.bool false) ∧ w = w' := by
  obtain ⟨hk, gs, os, cs, vl, hb, hs, hl, h1, h2, h3, rfl⟩ := h
  have hc0 : w.cell? ⟨b, 0, none⟩ = some (.slice (some ⟨gs, os, none⟩) D.sure.length cs) := by simp [World.cell?, hb]
  have hn := hk.1
  have hz : ((D.sure.length : Int) == 0) = false := by rw [beq_eq_false_iff_ne]; omega
  clear hb hs hl h1 h2 h3 hk
  go_enter Try.func42, Try.ntmps42
  go_wp2
  go_ret
  exact ⟨rfl, rfl⟩
theorem may_nil (w : World) : Calls Try.prog 43 #[.pointer none] w fun e w' => e = .returned (.int .i64 1) ∧ w = w' := by
  go_enter Try.func43, Try.ntmps43
  go_wp2_with fail
  refine (none_nil _).mono ?_; rintro e w1 ⟨rfl, rfl⟩
  go_wp2
  go_ret
  exact ⟨rfl, rfl⟩
theorem may_any {b : Nat} {D : PDsk.Dsk} {own : List Nat} (w : World) (h : IsDisk w b D own) : Calls Try.prog 43 #[.pointer (some ⟨b, 0, none⟩)] w fun e w' => e = .returned (.int .i64 (PDsk.may D)) ∧ w = w' := by
  have H := Lib.hid h
  obtain ⟨hk, gs, os, cs, vl, hb, hs, hl, h1, h2, h3, rfl⟩ := h
  have hc2 : w.cell? ⟨b, 2, none⟩ = some (.int .i64 D.fuse) := by simp [World.cell?, hb]
  clear hb hs hl h1 h2 h3 hk
  by_cases hf : D.fuse = 0
  · have hm : Hid (PDsk.may D = 40) := Lib.hid (by unfold PDsk.may; rw [if_pos hf])
    rw [hf] at hc2
    clear hf
    go_enter Try.func43, Try.ntmps43
    go_wp2_with fail
    refine (none_any _ H.out).mono ?_; rintro e w1 ⟨rfl, rfl⟩
    go_wp2
    go_ret
    rw [hm.out]
    exact ⟨rfl, rfl⟩
  · have hm : Hid (PDsk.may D = 0) := Lib.hid (by unfold PDsk.may; rw [if_neg hf])
    have hf' : (D.fuse == 0) = false := by rw [beq_eq_false_iff_ne]; exact hf
    clear hf
    go_enter Try.func43, Try.ntmps43
    go_wp2_with fail
    refine (none_any _ H.out).mono ?_; rintro e w1 ⟨rfl, rfl⟩
    go_wp2
    go_ret
    rw [hm.out]
    exact ⟨rfl, rfl⟩
end Go.Proofs.Ytjnggldalggfnaa
