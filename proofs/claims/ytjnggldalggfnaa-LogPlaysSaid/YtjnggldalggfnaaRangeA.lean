/-
  A range over a function whose loop variables lie in boxes.
-/
import Derived.Test.YtjnggldalggfnaaRange
namespace Go.Proofs.Ytjnggldalggfnaa
open Go.RowKit
variable {F : Fence} {n : Nat} {P : Program}
/-- The statement, where the loop's variables lie in boxes: the assignment lays them anew in every round. -/
theorem range_seqA {α : Type} {g : Operand} {ps : Array Tmp} {assign body : Code} {Q : Exit → Act → World → Prop} {a : Act} {w : World}
    (hro : F.round = none) (h1 : 1 ≤ n) {gf : Nat} {lb : Array Value} (hg : a.eval g = .func (.func gf) #[] lb) (hFg : F.fn gf) (eg : ∀ args w, (callFunc gf args).run P w = .ok (.enter gf args) w)
    {encs : α → Array Value} {Pn : List α → α → Prop} {bs : List Nat} {Kp : World → World → Prop} {S Sp : List α → Prop} {N : Nat} {w0 : World} (hseq : Seq F (n - 1) P gf lb encs Pn bs Kp S Sp N w0) (hbs : ∀ b ∈ bs, b < w.heap.size)
    (hKt : ∀ {A B C : World}, Kp A B → Kp B C → Kp A C) (hKb : ∀ (W : World) (l : Nat) (o o' : Obj), w.heap.size ≤ l → W.heap[l]? = some o → o.isCells = false → o.isWalk = false → Kp W (W.putObj l o')) (hb0 : Below w0.heap.size w0 w) (hps : ∀ x, (encs x).size = ps.size)
    (I : List α → World → Prop) (Ix : Code → List α → World → Prop) (hI : Stays w.heap.size bs I) (hIx : ∀ c, Stays w.heap.size bs (Ix c)) (h0 : I [] w) (Ax : List α → α → Act → World → Prop)
    (hAx : ∀ pre x a A l o o', Ax pre x a A → w.heap.size ≤ l → A.heap[l]? = some o → o.isCells = false → Ax pre x a (A.putObj l o'))
    (hassign : ∀ (l : Nat) (pre : List α) (x : α) (W : World) (K : Act → World → Prop), I pre W → pre.length < N → Pn pre x → (∀ a' W', Ax pre x a' W' → KeepsOthers W W' → Kp W W' → K a' W') →
      assign.wpIn (F.inRound l) (n - 1 - 1) P (Exit.then K (fun _ _ _ => False)) { tmps := (ps.zip (encs x)).foldl (fun t (p, v) => t.setIfInBounds p v) a.tmps, defers := [] } W)
    (hbody : ∀ (l : Nat) (pre : List α) (x : α) (a' : Act) (W : World), Ax pre x a' W → pre.length < N → Pn pre x → body.wpIn (F.inRound l) (n - 1 - 1) P (ownPostK Kp I Ix (pre ++ [x]) W) a' W)
    (hdone : ∀ (D : Nat) (xs : List α) (W : World), w.heap.size ≤ D → S xs → I xs W → W.heap[D]? = some (.deferred (some [])) → Q .normal { a with defers := { target := .collected D, args := #[] } :: a.defers } W)
    (hstop : ∀ (D : Nat) (c : Code) (pre : List α) (W : World), w.heap.size ≤ D → Sp pre → Ix c pre W → W.heap[D]? = some (.deferred (some [])) → c.wpIn F n P Q { a with defers := { target := .collected D, args := #[] } :: a.defers } W) :
    (Code.rangeFunc g ps assign body).wpIn F n P Q a w := by
  refine wpIn_rangeFunc fun fn hfn => ?_
  rw [hro]
  let B := w.heap.size
  obtain ⟨mk, hmk⟩ : ∃ mk : LoopState → Option Code → Loop, mk = fun st pe => { state := st, pending := pe, fn, tmps := a.tmps, params := ps, assign, body, defers := w.heap.size } := ⟨_, rfl⟩
  let L (st : LoopState) (pe : Option Code) : Obj := .loop (mk st pe)
  let D : Obj := .deferred (some [])
  -- the two blocks of the statement
  let Bk (o : Obj) (W : World) : Prop := W.heap[w.heap.size + 1]? = some o ∧ W.heap[w.heap.size]? = some D
  let W1 : World := (w.alloc D).alloc (L .ready none)
  have hT1 : Turns bs w W1 := .of_below (((Below.refl _ w).alloc (Nat.le_refl _) _).alloc (by simp) _)
  have hBk1 : Bk (L .ready none) W1 := by
    refine ⟨?_, ?_⟩
    · have := World.alloc_heap_new (w.alloc D) (L .ready none); rwa [World.size_alloc] at this
    · exact (Below.heap_alloc _ _ _ (by simp)).trans (World.alloc_heap_new w _)
  have turnBk : ∀ {o : Obj} {A C : World}, Bk o A → Turns bs A C → Bk o C := by
    intro o A C h t
    have l1 := (Array.getElem?_eq_some_iff.1 h.1).1
    have l2 := (Array.getElem?_eq_some_iff.1 h.2).1
    exact ⟨(t.block _ l1 (fun hm => by have := hbs _ hm; omega)).trans h.1, (t.block _ l2 (fun hm => by have := hbs _ hm; omega)).trans h.2⟩
  refine ⟨w.heap.size + 1, [{ target := .collected w.heap.size, args := #[] }], W1, { target := .fn (.func gf) lb, args := #[.func (.yield (w.heap.size + 1)) #[] #[]] }, W1, gf,
    #[.func (.yield (w.heap.size + 1)) #[] #[]] ++ lb, W1, by simp only [W1, L, D, hmk]; exact run_enterLoop_outer _ _ _ _ _, by simp only [resolve, hg]; simp [go_sem], ?_, by simp [invoke, go_sem, eg], fun _ => h1, ?_⟩
  · intro f' hf'; simp [Target.leads] at hf'; subst hf'; exact hFg
  refine (hseq (w.heap.size + 1) (fun pre W => I pre W ∧ Bk (L .ready none) W) (fun pre W => ∃ c, Ix c pre W ∧ Bk (L .done (some c)) W) W1
    (hb0.trans ((((Below.refl _ w).alloc (Nat.le_refl _) _).alloc (by simp) _).mono hb0.size))
    (fun s A C h t => ⟨hI.turn s A C h.1 t, turnBk h.2 t⟩) (fun s A C h t => by obtain ⟨c, hc, hb⟩ := h; exact ⟨c, (hIx c).turn s A C hc t, turnBk hb t⟩) ?_ ⟨hI.turn _ _ _ h0 hT1, hBk1⟩).mono ?_
  · rintro pre x W ⟨hi, hl, hk⟩ hlen hpn
    have hlt := (Array.getElem?_eq_some_iff.1 hl).1
    have hy := run_yield (P := P) (args := encs x) (r := mk .ready none) hl (by rw [hmk]; exact hps x)
    rw [hmk] at hy
    refine ⟨fn, _, assign, body, hy, roundIn_of_wpIn hfn (hassign _ pre x W _ hi hlen hpn fun a' Wa hax hko hkp => ?_)⟩
    have hla := hko.same _ _ hl rfl
    have hka := hko.same _ _ hk rfl
    refine ⟨_, run_beginRound hla (by rw [hmk]), ?_⟩
    have hbusy : ({ mk .ready none with state := .busy } : Loop) = mk .busy none := by rw [hmk]
    rw [hbusy]
    have hlta := (Array.getElem?_eq_some_iff.1 hla).1
    have b2 : Bk (L .busy none) (Wa.putObj (w.heap.size + 1) (L .busy none)) := ⟨World.putObj_heap_same hlta, (World.putObj_heap_other (by omega)).trans hka⟩
    have k2 : Kp W (Wa.putObj (w.heap.size + 1) (L .busy none)) := hKt hkp (hKb _ _ _ _ (by omega) hla rfl rfl)
    have fin : ∀ (jump : Option Code) (W3 : World), KeepsOthers (Wa.putObj (w.heap.size + 1) (L .busy none)) W3 →
        (Instr.endRound (w.heap.size + 1) jump).run P W3 = .ok (.bool jump.isNone) (W3.putObj (w.heap.size + 1) (L (if jump.isNone then .ready else .done) jump)) ∧
        W3.heap[w.heap.size + 1]? = some (L .busy none) ∧ Bk (L (if jump.isNone then .ready else .done) jump) (W3.putObj (w.heap.size + 1) (L (if jump.isNone then .ready else .done) jump)) := by
      intro jump W3 k3
      have h3 := k3.same _ _ b2.1 rfl
      have h4 := k3.same _ _ b2.2 rfl
      have r := run_endRound (P := P) (r := mk .busy none) jump h3
      refine ⟨?_, h3, World.putObj_heap_same (Array.getElem?_eq_some_iff.1 h3).1, (World.putObj_heap_other (by omega)).trans h4⟩
      simp only [L, hmk] at r ⊢
      exact r
    refine wpIn_mono (hbody _ pre x _ _ (hAx _ _ _ _ _ _ _ hax (by omega) hla rfl) hlen hpn) ?_
    rintro e a3 W3 hp
    cases e with
    | normal =>
      obtain ⟨k3, kp3, i3⟩ := hp
      obtain ⟨r, h3, b4⟩ := fin none W3 k3
      exact ⟨_, _, r, .inl ⟨rfl, ⟨hI.book _ _ _ _ _ i3 (by omega) h3 rfl, b4⟩, hKt (hKt k2 kp3) (hKb _ _ _ _ (by omega) h3 rfl rfl)⟩⟩
    | ret =>
      obtain ⟨k3, i3⟩ := hp
      obtain ⟨r, h3, b4⟩ := fin (some .ret) W3 k3
      exact ⟨_, _, r, .inr ⟨rfl, .ret, (hIx _).book _ _ _ _ _ i3 (by omega) h3 rfl, b4⟩⟩
    | exit id =>
      obtain ⟨k3, i3⟩ := hp
      obtain ⟨r, h3, b4⟩ := fin (some (.exit id)) W3 k3
      exact ⟨_, _, r, .inr ⟨rfl, .exit id, (hIx _).book _ _ _ _ _ i3 (by omega) h3 rfl, b4⟩⟩
    | goto t =>
      obtain ⟨k3, i3⟩ := hp
      obtain ⟨r, h3, b4⟩ := fin (some (.goto t)) W3 k3
      exact ⟨_, _, r, .inr ⟨rfl, .goto t, (hIx _).book _ _ _ _ _ i3 (by omega) h3 rfl, b4⟩⟩
    | panic ch => exact hp.elim
    | outgrown => exact hp.elim
  · rintro e W2 ⟨⟨v, rfl⟩, (⟨xs, hS, hi, hl, hk⟩ | ⟨pre, hSp, c, hi, hl, hk⟩)⟩
    · have r := run_endLoop (P := P) (r := mk .ready none) hl (by rw [hmk]; simp)
      rw [show (mk .ready none).pending = none by rw [hmk]] at r
      exact ⟨none, _, r, hdone _ xs _ (Nat.le_refl _) hS (hI.book _ _ _ _ _ hi (by omega) hl rfl) ((World.putObj_heap_other (by omega)).trans hk)⟩
    · have r := run_endLoop (P := P) (r := mk .done (some c)) hl (by rw [hmk]; simp)
      rw [show (mk .done (some c)).pending = some c by rw [hmk]] at r
      exact ⟨some c, _, r, hstop _ c pre _ (Nat.le_refl _) hSp ((hIx c).book _ _ _ _ _ hi (by omega) hl rfl) ((World.putObj_heap_other (by omega)).trans hk)⟩
end Go.Proofs.Ytjnggldalggfnaa
