/-
  A call, of both disks, whatever it is; a disk, its copy, and the document's.
-/
import Derived.Test.YtkmgmfahhidbbaaDoes3
import Derived.Test.YtkmgmfahhidbbaaLoad
import Derived.Deep.QuietTactic
import Derived.BigQuiet
namespace Go.Proofs.Ytkmgmfahhidbbaa
open Go.RowKit
theorem lowN (w : World) (n : Nat) : Below w.heap.size w (w.drewN n) := ⟨rfl, rfl, rfl, Nat.le_refl _, fun _ _ => rfl⟩
theorem quiet_eq {P : Program} {f : FuncId} {args : Array Value} {w : World} {n : Nat} {v : Value} (h : Calls P f args (w.drewN n) fun e w' => e = .returned v ∧ w.drewN n = w') : Calls P f args (w.drewN n) fun e w'' => e = .returned v ∧ ∃ m, w'' = w.drewN m :=
  Calls.quiet_of_same (h.mono fun _ _ ⟨a, b⟩ => ⟨a, b.symm⟩)
def doD (D : PDsk.Dsk) (x : CallM) : PDsk.Dsk :=
  if x.dO % 8 = 3 then (PDsk.sync D).1 else if x.dO % 8 = 4 then D else if x.dO % 8 = 5 then (PDsk.setFuse D x.n).1 else if x.dO % 8 = 6 then PDsk.crash D x.keep else (PDsk.write D x.k x.text.data.toList).1
theorem doD_loose (D : PDsk.Dsk) (x : CallM) : (doD D x).loose.length ≤ D.loose.length + 1 := by
  unfold doD
  split
  · unfold PDsk.sync; split
    · simp
    · simp [PDsk.synced]
  split
  · omega
  split
  · unfold PDsk.setFuse; split <;> simp
  split
  · simp [PDsk.crash]
  · unfold PDsk.write
    split
    · simp
    split
    · simp
    · simp
theorem does_any {b bx : Nat} {D : PDsk.Dsk} {own ownx : List Nat} (w0 w : World) (x : CallM) (hr : Rd w0 x.kv (x.keep.map Value.bool)) (hx : x.Ok) (h : Both w w0.heap.size b D own bx D ownx) (h0 : Below w0.heap.size w0 w) (hll : D.loose.length ≤ 1000000) :
    Calls Try.prog 23 #[.pointer (some ⟨b, 0, none⟩), .pointer (some ⟨bx, 0, none⟩), x.val] w (DoesPost w0.heap.size w0 b bx (doD D x)) := by
  have hk : ∃ p n c, x.kv = .slice p n c := by
    obtain ⟨p, c, e, _⟩ := hr
    exact ⟨_, _, _, e⟩
  unfold doD
  by_cases h3 : x.dO % 8 = 3
  · rw [if_pos h3]; exact does_sync w0 w x hk hx h3 h h0 (Nat.le_refl _)
  rw [if_neg h3]
  by_cases h4 : x.dO % 8 = 4
  · rw [if_pos h4]; exact does_read w0 w x hk hx h4 h h0 (Nat.le_refl _)
  rw [if_neg h4]
  by_cases h5 : x.dO % 8 = 5
  · rw [if_pos h5]; exact does_fuse w0 w x hk hx h5 h h0 (Nat.le_refl _)
  rw [if_neg h5]
  by_cases h6 : x.dO % 8 = 6
  · rw [if_pos h6]; exact does_crash w0 w x hr hx h6 h h0
  rw [if_neg h6]
  exact does_write w0 w x hk hx ⟨h3, h4, h5, h6⟩ h h0 (Nat.le_refl _) hll
/-- both, and a copy of the first -/
def Two (w : World) (B b : Nat) (D : PDsk.Dsk) (own : List Nat) (bx : Nat) (Dx : PDsk.Dsk) (ownx : List Nat) (b2 : Nat) (own2 : List Nat) : Prop :=
  Both w B b D own bx Dx ownx ∧ IsDisk w b2 Dx own2 ∧ ∀ k ∈ own2, k ∉ own ∧ k ∉ ownx ∧ B ≤ k
section
variable {w w' : World} {B b bx b2 : Nat} {D Dx D' : PDsk.Dsk} {own ownx own' own2 : List Nat}
theorem Two.mk' (h : Both w B b Dx own bx Dx ownx) (hB : B ≤ w.heap.size) (hb : Below w.heap.size w w') (hd : IsDisk w' b2 Dx own2) (ho : ∀ k ∈ own2, w.heap.size ≤ k) : Two w' B b Dx own bx Dx ownx b2 own2 :=
  ⟨h.below hb, hd, fun k hk => ⟨fun hm => by have := h.1.lt k hm; have := ho k hk; omega, fun hm => by have := h.2.1.lt k hm; have := ho k hk; omega, by have := ho k hk; omega⟩⟩
theorem Two.below (h : Two w B b D own bx Dx ownx b2 own2) (hb : Below w.heap.size w w') : Two w' B b D own bx Dx ownx b2 own2 := ⟨h.1.below hb, h.2.1.below hb, h.2.2⟩
theorem Two.disk (h : Two w B b D own bx Dx ownx b2 own2) (hB : B ≤ w.heap.size) (hd : IsDisk w' b D' own') (s : Stepped w w' own own') : Two w' B b D' own' bx Dx ownx b2 own2 := by
  refine ⟨h.1.disk hB hd s, h.2.1.turns s.1 (fun k hk => (h.2.2 k hk).1), fun k hk => ⟨fun hm => ?_, (h.2.2 k hk).2⟩⟩
  rcases s.2 k hm with h1 | h1
  · exact (h.2.2 k hk).1 h1
  · have := h.2.1.lt k hk; omega
theorem Two.swap (h : Two w B b D own bx Dx ownx b2 own2) : Both w B b2 Dx own2 bx Dx ownx := h.1.swap h.2.1 (fun k hk => (h.2.2 k hk).2.1) (fun k hk => (h.2.2 k hk).2.2)
end
theorem new_form {n : Int} {w : World} {e : Ending} {w' : World} (h : NewPost n w e w') : ∃ p c, e = .returned (.tuple #[.pointer p, .int .i64 c]) ∧ Below w.heap.size w w' := by
  obtain ⟨hb, (⟨_, rfl⟩ | ⟨_, _, b, own, rfl, _⟩)⟩ := h
  · exact ⟨_, _, rfl, hb⟩
  · exact ⟨_, _, rfl, hb⟩
theorem rnew_form {n : Int} {w : World} {e : Ending} {w' : World} (h : RNewPost n w e w') : ∃ p, e = .returned (.pointer p) ∧ Below w.heap.size w w' := by
  obtain ⟨hb, (⟨_, rfl⟩ | ⟨_, _, b, own, rfl, _⟩)⟩ := h
  · exact ⟨_, rfl, hb⟩
  · exact ⟨_, rfl, hb⟩
/-- what both have been made of -/
def MadePost (w0 : World) (e1 e2 : Ending) (w' : World) : Prop := Below w0.heap.size w0 w' ∧
  ((e1 = .returned (.tuple #[.pointer none, .int .i64 2]) ∧ e2 = .returned (.pointer none)) ∨
   ∃ b bx D own ownx, e1 = .returned (.tuple #[.pointer (some ⟨b, 0, none⟩), .int .i64 0]) ∧ e2 = .returned (.pointer (some ⟨bx, 0, none⟩)) ∧ D.loose = [] ∧ Both w' w0.heap.size b D own bx D ownx)
theorem made_new {n : Int} {w0 w w1 w2 : World} {e1 e2 : Ending} (h0 : Below w0.heap.size w0 w) (h1 : NewPost n w e1 w1) (h2 : RNewPost n w1 e2 w2) : MadePost w0 e1 e2 w2 := by
  obtain ⟨b1, h1⟩ := h1
  obtain ⟨b2, h2⟩ := h2
  refine ⟨(h0.trans (b1.mono h0.size)).trans (b2.mono (Nat.le_trans h0.size b1.size)), ?_⟩
  rcases h1 with ⟨g1, rfl⟩ | ⟨g1, g2, b, own, rfl, hd, ho⟩
  · rcases h2 with ⟨g3, rfl⟩ | ⟨g3, g4, _⟩
    · exact .inl ⟨rfl, rfl⟩
    · exact absurd ⟨g3, g4⟩ g1
  · rcases h2 with ⟨g3, rfl⟩ | ⟨g3, g4, bx, ownx, rfl, hx, hox⟩
    · exact absurd ⟨g1, g2⟩ g3
    · refine .inr ⟨b, bx, _, own, ownx, rfl, rfl, rfl, hd.below b2, hx, fun k hk hm => ?_, fun k hk => ?_, fun k hk => ?_⟩
      · have := hd.lt k hk; have := hox k hm; omega
      · have := ho k hk; have := h0.size; omega
      · have := hox k hk; have := h0.size; have := b1.size; omega
theorem made_load {s : ByteArray} {w0 w w1 w2 : World} {e1 e2 : Ending} (h0 : Below w0.heap.size w0 w) (h1 : LoadPost s w e1 w1) (h2 : RLoadPost s w1 e2 w2) : MadePost w0 e1 e2 w2 := by
  obtain ⟨b1, h1⟩ := h1
  obtain ⟨b2, h2⟩ := h2
  refine ⟨(h0.trans (b1.mono h0.size)).trans (b2.mono (Nat.le_trans h0.size b1.size)), ?_⟩
  rcases h1 with ⟨g1, rfl⟩ | ⟨g1, g2, g2', b, own, rfl, hd, ho⟩
  · rcases h2 with ⟨g3, rfl⟩ | ⟨g3, g4, g4', _⟩
    · exact .inl ⟨rfl, rfl⟩
    · exact absurd ⟨g3, g4, g4'⟩ g1
  · rcases h2 with ⟨g3, rfl⟩ | ⟨g3, g4, g4', bx, ownx, rfl, hx, hox⟩
    · exact absurd ⟨g1, g2, g2'⟩ g3
    · refine .inr ⟨b, bx, _, own, ownx, rfl, rfl, rfl, hd.below b2, hx, fun k hk hm => ?_, fun k hk => ?_, fun k hk => ?_⟩
      · have := hd.lt k hk; have := hox k hm; omega
      · have := ho k hk; have := h0.size; omega
      · have := hox k hk; have := h0.size; have := b1.size; omega
def MadeV (w0 : World) (p : Option Addr) (c : Int) (q : Option Addr) (w' : World) : Prop := Below w0.heap.size w0 w' ∧
  ((p = none ∧ c = 2 ∧ q = none) ∨ ∃ b bx D own ownx, p = some ⟨b, 0, none⟩ ∧ c = 0 ∧ q = some ⟨bx, 0, none⟩ ∧ D.loose = [] ∧ Both w' w0.heap.size b D own bx D ownx)
theorem MadePost.v {w0 : World} {p : Option Addr} {c : Int} {q : Option Addr} {w' : World} (h : MadePost w0 (.returned (.tuple #[.pointer p, .int .i64 c])) (.returned (.pointer q)) w') : MadeV w0 p c q w' := by
  obtain ⟨hb, (⟨h1, h2⟩ | ⟨b, bx, D, own, ownx, h1, h2, h3⟩)⟩ := h
  · simp at h1 h2
    exact ⟨hb, .inl ⟨h1.1, h1.2, h2⟩⟩
  · simp at h1 h2
    exact ⟨hb, .inr ⟨b, bx, D, own, ownx, h1.1, h1.2, h2, h3⟩⟩
theorem load_form {s : ByteArray} {w : World} {e : Ending} {w' : World} (h : LoadPost s w e w') : ∃ p c, e = .returned (.tuple #[.pointer p, .int .i64 c]) ∧ LoadPost s w (.returned (.tuple #[.pointer p, .int .i64 c])) w' := by
  have h' := h
  obtain ⟨hb, (⟨_, rfl⟩ | ⟨_, _, _, b, own, rfl, _⟩)⟩ := h
  · exact ⟨_, _, rfl, h'⟩
  · exact ⟨_, _, rfl, h'⟩
theorem rload_form {s : ByteArray} {w : World} {e : Ending} {w' : World} (h : RLoadPost s w e w') : ∃ p, e = .returned (.pointer p) ∧ RLoadPost s w (.returned (.pointer p)) w' := by
  have h' := h
  obtain ⟨hb, (⟨_, rfl⟩ | ⟨_, _, _, b, own, rfl, _⟩)⟩ := h
  · exact ⟨_, rfl, h'⟩
  · exact ⟨_, rfl, h'⟩
theorem new_form2 {n : Int} {w : World} {e : Ending} {w' : World} (h : NewPost n w e w') : ∃ p c, e = .returned (.tuple #[.pointer p, .int .i64 c]) ∧ NewPost n w (.returned (.tuple #[.pointer p, .int .i64 c])) w' := by
  obtain ⟨p, c, rfl, _⟩ := new_form h
  exact ⟨p, c, rfl, h⟩
theorem rnew_form2 {n : Int} {w : World} {e : Ending} {w' : World} (h : RNewPost n w e w') : ∃ p, e = .returned (.pointer p) ∧ RNewPost n w (.returned (.pointer p)) w' := by
  obtain ⟨p, rfl, _⟩ := rnew_form h
  exact ⟨p, rfl, h⟩
end Go.Proofs.Ytkmgmfahhidbbaa
