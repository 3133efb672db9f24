/-
  A range over a function whose iterator keeps state of its own in cells (blocks bs): the statement's law, out of the kit's base law.
-/
import Derived.RangeFuncNested
import Derived.RangeFuncBound
import Derived.RangeFuncCalls
import Derived.RangeFuncLeaves
import Derived.Below
import Derived.Test.YtjnggldalggfnaaProg
namespace Go.Proofs.Ytjnggldalggfnaa
open Go.RowKit
/-- What an iterator does by itself: the blocks bs may turn, and new ones be laid. -/
structure Turns (bs : List Nat) (A B : World) : Prop where
  os : B.os = A.os
  tape : B.tape = A.tape
  output : B.output = A.output
  size : A.heap.size ≤ B.heap.size
  block : ∀ k, k < A.heap.size → k ∉ bs → B.heap[k]? = A.heap[k]?
theorem Turns.refl (bs : List Nat) (A : World) : Turns bs A A := ⟨rfl, rfl, rfl, Nat.le_refl _, fun _ _ _ => rfl⟩
theorem Turns.trans {bs : List Nat} {A B C : World} (h : Turns bs A B) (k : Turns bs B C) : Turns bs A C :=
  ⟨k.os.trans h.os, k.tape.trans h.tape, k.output.trans h.output, Nat.le_trans h.size k.size, fun i hi hn => (k.block i (Nat.lt_of_lt_of_le hi h.size) hn).trans (h.block i hi hn)⟩
theorem Turns.drew {bs : List Nat} {A B : World} (h : Turns bs A B) : Turns bs A B.drew := ⟨h.os, h.tape, h.output, h.size, h.block⟩
theorem Turns.of_below {bs : List Nat} {A B : World} (h : Below A.heap.size A B) : Turns bs A B := ⟨h.os, h.tape, h.output, h.size, fun k hk _ => h.block k hk⟩
theorem Turns.set {bs : List Nat} {A B : World} (h : Turns bs A B) {b off : Nat} (hb : b ∈ bs) (v : Value) : Turns bs A (B.setCell ⟨b, off, none⟩ v) :=
  ⟨h.os, h.tape, h.output, by have := h.size; simpa using this, fun k hk hn => (Below.heap_setCell B ⟨b, off, none⟩ v k (fun e => hn (by subst e; exact hb))).trans (h.block k hk hn)⟩
/-- Below n₀ abides it, where all of bs lie at or beyond n₀. -/
theorem below_turns {n₀ : Nat} {bs : List Nat} {w A B : World} (h : Below n₀ w A) (hn : n₀ ≤ w.heap.size) (hbs : ∀ b ∈ bs, n₀ ≤ b) (t : Turns bs A B) : Below n₀ w B :=
  ⟨t.os.trans h.os, t.tape.trans h.tape, t.output.trans h.output, Nat.le_trans h.size t.size,
   fun k hk => (t.block k (by have := h.size; omega) (fun hm => by have := hbs k hm; omega)).trans (h.block k hk)⟩
/-- The iterator's contract. -/
def Seq {α : Type} (F : Fence) (n : Nat) (P : Program) (g : Nat) (lb : Array Value) (encs : α → Array Value) (Pn : List α → α → Prop) (bs : List Nat) (Kp : World → World → Prop) (S Sp : List α → Prop) (N : Nat) (w : World) : Prop :=
  ∀ (l : Nat) (J Jx : List α → World → Prop) (W : World), Below w.heap.size w W → (∀ s A B, J s A → Turns bs A B → J s B) → (∀ s A B, Jx s A → Turns bs A B → Jx s B) →
    (∀ pre x W1, J pre W1 → pre.length < N → Pn pre x → YieldAt F (n - 1) P l (encs x) W1 fun e W' =>
      (e = .returned (.bool true) ∧ J (pre ++ [x]) W' ∧ Kp W1 W') ∨ (e = .returned (.bool false) ∧ Jx (pre ++ [x]) W')) →
    J [] W →
    CallsIn F n P g (#[.func (.yield l) #[] #[]] ++ lb) W fun e W' => (∃ v, e = .returned v) ∧ ((∃ xs, S xs ∧ J xs W') ∨ (∃ pre, Sp pre ∧ Jx pre W'))
/-- The caller's invariant abides the iterator's steps and the book-keeping of the loop. -/
structure Stays {α : Type} (B : Nat) (bs : List Nat) (I : List α → World → Prop) : Prop where
  turn : ∀ s A C, I s A → Turns bs A C → I s C
  book : ∀ s A l o o', I s A → B ≤ l → A.heap[l]? = some o → o.isCells = false → I s (A.putObj l o')
theorem Stays.and {α : Type} {B : Nat} {bs : List Nat} {I I' : List α → World → Prop} (h : Stays B bs I) (h' : Stays B bs I') : Stays B bs (fun s W => I s W ∧ I' s W) :=
  ⟨fun s A C hs t => ⟨h.turn s A C hs.1 t, h'.turn s A C hs.2 t⟩, fun s A l o o' hs hl ho hc => ⟨h.book s A l o o' hs.1 hl ho hc, h'.book s A l o o' hs.2 hl ho hc⟩⟩
theorem stays_below {α : Type} {n₀ B : Nat} {bs : List Nat} {w : World} (hn : n₀ ≤ w.heap.size) (hB : n₀ ≤ B) (hbs : ∀ b ∈ bs, n₀ ≤ b) : Stays B bs (fun (_ : List α) W => Below n₀ w W) :=
  ⟨fun _ _ _ h t => below_turns h hn hbs t, fun _ A l o o' h hl ho _ => h.grown (grownBy_putObj' A l o') (Nat.le_trans hn h.size) (fun k e => by cases e; omega)⟩
theorem stays_pure {α : Type} (B : Nat) (bs : List Nat) (p : List α → Prop) : Stays B bs (fun s (_ : World) => p s) := ⟨fun _ _ _ h _ => h, fun _ _ _ _ _ h _ _ _ => h⟩

variable {F : Fence} {n : Nat} {P : Program}
/-- The statement. -/
theorem range_seq {α : Type} {g : Operand} {ps : Array Tmp} {assign body : Code} {Q : Exit → Act → World → Prop} {a : Act} {w : World}
    (hro : F.round = none) (h1 : 1 ≤ n) {gf : Nat} {lb : Array Value} (hg : a.eval g = .func (.func gf) #[] lb) (hFg : F.fn gf) (eg : ∀ args w, (callFunc gf args).run P w = .ok (.enter gf args) w)
    {encs : α → Array Value} {Pn : List α → α → Prop} {bs : List Nat} {Kp : World → World → Prop} {S Sp : List α → Prop} {N : Nat} {w0 : World} (hseq : Seq F (n - 1) P gf lb encs Pn bs Kp S Sp N w0) (hbs : ∀ b ∈ bs, b < w.heap.size)
    (hKt : ∀ {A B C : World}, Kp A B → Kp B C → Kp A C) (hKb : ∀ (W : World) (l : Nat) (o o' : Obj), w.heap.size ≤ l → W.heap[l]? = some o → o.isCells = false → o.isWalk = false → Kp W (W.putObj l o')) (hb0 : Below w0.heap.size w0 w) (hps : ∀ x, (encs x).size = ps.size)
    (I : List α → World → Prop) (Ix : Code → List α → World → Prop) (hI : Stays w.heap.size bs I) (hIx : ∀ c, Stays w.heap.size bs (Ix c)) (h0 : I [] w) (a₁ : α → Act)
    (hassign : ∀ (l : Nat) (x : α) (W : World) (K : Act → World → Prop), K (a₁ x) W →
      assign.wpIn (F.inRound l) (n - 1 - 1) P (Exit.then K (fun _ _ _ => False)) { tmps := (ps.zip (encs x)).foldl (fun t (p, v) => t.setIfInBounds p v) a.tmps, defers := [] } W)
    (hbody : ∀ (l : Nat) (pre : List α) (x : α) (W : World), I pre W → pre.length < N → Pn pre x → body.wpIn (F.inRound l) (n - 1 - 1) P (ownPostK Kp I Ix (pre ++ [x]) W) (a₁ x) W)
    (hdone : ∀ (D : Nat) (xs : List α) (W : World), w.heap.size ≤ D → S xs → I xs W → W.heap[D]? = some (.deferred (some [])) → Q .normal { a with defers := { target := .collected D, args := #[] } :: a.defers } W)
    (hstop : ∀ (D : Nat) (c : Code) (pre : List α) (W : World), w.heap.size ≤ D → Sp pre → Ix c pre W → W.heap[D]? = some (.deferred (some [])) → c.wpIn F n P Q { a with defers := { target := .collected D, args := #[] } :: a.defers } W) :
    (Code.rangeFunc g ps assign body).wpIn F n P Q a w := by
  refine wpIn_rangeFunc fun fn hfn => ?_
  rw [hro]
  let B := w.heap.size
  obtain ⟨mk, hmk⟩ : ∃ mk : LoopState → Option Code → Loop, mk = fun st pe => { state := st, pending := pe, fn, tmps := a.tmps, params := ps, assign, body, defers := w.heap.size } := ⟨_, rfl⟩
  let L (st : LoopState) (pe : Option Code) : Obj := .loop (mk st pe)
  let D : Obj := .deferred (some [])
  -- the two blocks of the statement
  let Bk (o : Obj) (W : World) : Prop := W.heap[w.heap.size + 1]? = some o ∧ W.heap[w.heap.size]? = some D
  let W1 : World := (w.alloc D).alloc (L .ready none)
  have hT1 : Turns bs w W1 := .of_below (((Below.refl _ w).alloc (Nat.le_refl _) _).alloc (by simp) _)
  have hBk1 : Bk (L .ready none) W1 := by
    refine ⟨?_, ?_⟩
    · have := World.alloc_heap_new (w.alloc D) (L .ready none); rwa [World.size_alloc] at this
    · exact (Below.heap_alloc _ _ _ (by simp)).trans (World.alloc_heap_new w _)
  have turnBk : ∀ {o : Obj} {A C : World}, Bk o A → Turns bs A C → Bk o C := by
    intro o A C h t
    have l1 := (Array.getElem?_eq_some_iff.1 h.1).1
    have l2 := (Array.getElem?_eq_some_iff.1 h.2).1
    exact ⟨(t.block _ l1 (fun hm => by have := hbs _ hm; omega)).trans h.1, (t.block _ l2 (fun hm => by have := hbs _ hm; omega)).trans h.2⟩
  refine ⟨w.heap.size + 1, [{ target := .collected w.heap.size, args := #[] }], W1, { target := .fn (.func gf) lb, args := #[.func (.yield (w.heap.size + 1)) #[] #[]] }, W1, gf,
    #[.func (.yield (w.heap.size + 1)) #[] #[]] ++ lb, W1, by simp only [W1, L, D, hmk]; exact run_enterLoop_outer _ _ _ _ _, by simp only [resolve, hg]; simp [go_sem], ?_, by simp [invoke, go_sem, eg], fun _ => h1, ?_⟩
  · intro f' hf'; simp [Target.leads] at hf'; subst hf'; exact hFg
  refine (hseq (w.heap.size + 1) (fun pre W => I pre W ∧ Bk (L .ready none) W) (fun pre W => ∃ c, Ix c pre W ∧ Bk (L .done (some c)) W) W1
    (hb0.trans ((((Below.refl _ w).alloc (Nat.le_refl _) _).alloc (by simp) _).mono hb0.size))
    (fun s A C h t => ⟨hI.turn s A C h.1 t, turnBk h.2 t⟩) (fun s A C h t => by obtain ⟨c, hc, hb⟩ := h; exact ⟨c, (hIx c).turn s A C hc t, turnBk hb t⟩) ?_ ⟨hI.turn _ _ _ h0 hT1, hBk1⟩).mono ?_
  · rintro pre x W ⟨hi, hl, hk⟩ hlen hpn
    have hlt := (Array.getElem?_eq_some_iff.1 hl).1
    have hy := run_yield (P := P) (args := encs x) (r := mk .ready none) hl (by rw [hmk]; exact hps x)
    rw [hmk] at hy
    refine ⟨fn, _, assign, body, hy, roundIn_of_wpIn hfn (hassign _ x W _ ⟨_, run_beginRound hl (by rw [hmk]), ?_⟩)⟩
    have hbusy : ({ mk .ready none with state := .busy } : Loop) = mk .busy none := by rw [hmk]
    rw [hbusy]
    have b2 : Bk (L .busy none) (W.putObj (w.heap.size + 1) (L .busy none)) := ⟨World.putObj_heap_same hlt, (World.putObj_heap_other (by omega)).trans hk⟩
    have k2 : Kp W (W.putObj (w.heap.size + 1) (L .busy none)) := hKb _ _ _ _ (by omega) hl rfl rfl
    have fin : ∀ (jump : Option Code) (W3 : World), KeepsOthers (W.putObj (w.heap.size + 1) (L .busy none)) W3 →
        (Instr.endRound (w.heap.size + 1) jump).run P W3 = .ok (.bool jump.isNone) (W3.putObj (w.heap.size + 1) (L (if jump.isNone then .ready else .done) jump)) ∧
        W3.heap[w.heap.size + 1]? = some (L .busy none) ∧ Bk (L (if jump.isNone then .ready else .done) jump) (W3.putObj (w.heap.size + 1) (L (if jump.isNone then .ready else .done) jump)) := by
      intro jump W3 k3
      have h3 := k3.same _ _ b2.1 rfl
      have h4 := k3.same _ _ b2.2 rfl
      have r := run_endRound (P := P) (r := mk .busy none) jump h3
      refine ⟨?_, h3, World.putObj_heap_same (Array.getElem?_eq_some_iff.1 h3).1, (World.putObj_heap_other (by omega)).trans h4⟩
      simp only [L, hmk] at r ⊢
      exact r
    refine wpIn_mono (hbody _ pre x _ (hI.book _ _ _ _ _ hi (by omega) hl rfl) hlen hpn) ?_
    rintro e a3 W3 hp
    cases e with
    | normal =>
      obtain ⟨k3, kp3, i3⟩ := hp
      obtain ⟨r, h3, b4⟩ := fin none W3 k3
      exact ⟨_, _, r, .inl ⟨rfl, ⟨hI.book _ _ _ _ _ i3 (by omega) h3 rfl, b4⟩, hKt (hKt k2 kp3) (hKb _ _ _ _ (by omega) h3 rfl rfl)⟩⟩
    | ret =>
      obtain ⟨k3, i3⟩ := hp
      obtain ⟨r, h3, b4⟩ := fin (some .ret) W3 k3
      exact ⟨_, _, r, .inr ⟨rfl, .ret, (hIx _).book _ _ _ _ _ i3 (by omega) h3 rfl, b4⟩⟩
    | exit id =>
      obtain ⟨k3, i3⟩ := hp
      obtain ⟨r, h3, b4⟩ := fin (some (.exit id)) W3 k3
      exact ⟨_, _, r, .inr ⟨rfl, .exit id, (hIx _).book _ _ _ _ _ i3 (by omega) h3 rfl, b4⟩⟩
    | goto t =>
      obtain ⟨k3, i3⟩ := hp
      obtain ⟨r, h3, b4⟩ := fin (some (.goto t)) W3 k3
      exact ⟨_, _, r, .inr ⟨rfl, .goto t, (hIx _).book _ _ _ _ _ i3 (by omega) h3 rfl, b4⟩⟩
    | panic ch => exact hp.elim
    | outgrown => exact hp.elim
  · rintro e W2 ⟨⟨v, rfl⟩, (⟨xs, hS, hi, hl, hk⟩ | ⟨pre, hSp, c, hi, hl, hk⟩)⟩
    · have r := run_endLoop (P := P) (r := mk .ready none) hl (by rw [hmk]; simp)
      rw [show (mk .ready none).pending = none by rw [hmk]] at r
      exact ⟨none, _, r, hdone _ xs _ (Nat.le_refl _) hS (hI.book _ _ _ _ _ hi (by omega) hl rfl) ((World.putObj_heap_other (by omega)).trans hk)⟩
    · have r := run_endLoop (P := P) (r := mk .done (some c)) hl (by rw [hmk]; simp)
      rw [show (mk .done (some c)).pending = some c by rw [hmk]] at r
      exact ⟨some c, _, r, hstop _ c pre _ (Nat.le_refl _) hSp ((hIx c).book _ _ _ _ _ hi (by omega) hl rfl) ((World.putObj_heap_other (by omega)).trans hk)⟩
end Go.Proofs.Ytjnggldalggfnaa
