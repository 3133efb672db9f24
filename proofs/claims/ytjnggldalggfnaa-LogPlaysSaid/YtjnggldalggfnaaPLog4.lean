/-
  Log, plain: a ring that nothing is written outside of.
-/
import Derived.Test.YtjnggldalggfnaaPLog3
import Derived.Test.YtjnggldalggfnaaLog12
namespace PLog
open PDsk
/-- the state of a log that was always forced whole, its disk one without loose writes -/
structure Rg (pl n : Nat) (L : Lg) (D : Dsk) : Prop where
  ok : L.Ok
  plE : L.pl = pl
  nE : L.n = n
  dok : D.Ok
  fuse : D.fuse = -1
  loose : D.loose = []
  len : pl + n + 5 = D.sure.length
  out : ∀ i, i < D.sure.length → (i < pl ∨ pl + n ≤ i) → D.sure[i]? = some zero
  at_ : ∃ j, j ≤ L.texts.length ∧ L.forced = endOf L.first (L.texts.take j)
theorem Rg.now {pl n : Nat} {L : Lg} {D : Dsk} (h : Rg pl n L D) {i : Nat} (hi : i < D.sure.length) (ho : i < pl ∨ pl + n ≤ i) : now D i = zero := by
  unfold PDsk.now
  rw [h.loose]
  show D.sure.getD i [] = zero
  rw [List.getD_eq_getElem?_getD, h.out i hi ho]
  rfl
theorem fold_out {l : List (Nat × List UInt8)} {i : Nat} : ∀ {s : List (List UInt8)}, (∀ p ∈ l, p.1 ≠ i) → (l.foldl PDsk.keep s)[i]? = s[i]? := by
  induction l with
  | nil => intro s _; rfl
  | cons p l ih =>
    intro s h
    rw [List.foldl_cons, ih (fun q hq => h q (by simp [hq]))]
    unfold PDsk.keep
    rw [List.getElem?_set_ne (h p (by simp))]
theorem wsteps_plain {S : List (List UInt8)} : ∀ (l Z : List (Nat × List UInt8)), (∀ p ∈ l, p.1 < S.length ∧ p.2.length = 128) → wsteps ⟨S, Z, -1⟩ l = (⟨S, Z ++ l, -1⟩, 0)
  | [], Z, _ => by simp [wsteps]
  | p :: l, Z, h => by
    have hp := h p (by simp)
    have hw : PDsk.write ⟨S, Z, -1⟩ p.1 p.2 = (⟨S, Z ++ [p], -1⟩, 0) := by
      unfold PDsk.write
      rw [if_neg (by show ¬ ((-1 : Int) = 0); decide), if_neg (by simp only; omega)]
      simp [burn]
    unfold wsteps
    rw [hw, if_pos rfl, wsteps_plain l (Z ++ [p]) (fun q hq => h q (by simp [hq])), List.append_assoc]
    rfl
theorem outs_in {L : Lg} (hk : L.Ok) {m : Nat} : ∀ p ∈ outs L m, L.pl ≤ p.1 ∧ p.1 < L.pl + L.n ∧ p.2.length = 128 := by
  intro p hp
  unfold outs at hp
  obtain ⟨i, _, rfl⟩ := List.mem_map.1 hp
  have hs := sec_lt (pl := L.pl) (x := begin L.forced + 110 * i) (show 0 < L.n by have := hk.n4; omega)
  exact ⟨hs.1, hs.2, image_length (part_le _ _)⟩
theorem forced_all {L : Lg} (hk : L.Ok) : ({ L with forced := L.next } : Lg).Ok :=
  ⟨hk.n4, hk.n5, hk.place, hk.life, hk.life5, hk.first, hk.head, hk.texts, (by have := L.first_next; exact this), Nat.le_refl _, hk.next5, hk.ring⟩
theorem end_next (L : Lg) : L.next = endOf L.first (L.texts.take L.texts.length) := by rw [List.take_length]; rfl
/-- Force of Next: all is forced -/
theorem Rg.force {pl n : Nat} {L : Lg} {D : Dsk} (h : Rg pl n L D) : (force L D L.next).2.2 = 0 ∧ (force L D L.next).1 = { L with forced := L.next } ∧ Rg pl n (force L D L.next).1 (force L D L.next).2.1 := by
  have hk := h.ok
  have hf5 := hk.forced5
  by_cases he : L.forced = L.next
  · have e : PLog.force L D L.next = (L, D, 0) := by unfold PLog.force; rw [if_neg (by omega), if_pos (.inr he)]
    rw [e]
    refine ⟨rfl, ?_, h⟩
    show L = _
    rw [← he]
  · have hin := outs_in (m := stretches L) hk
    have hD : D = ⟨D.sure, [], -1⟩ := by rw [← h.loose, ← h.fuse]
    have hw : wsteps D (outs L (stretches L)) = (⟨D.sure, outs L (stretches L), -1⟩, 0) := by
      rw [hD, wsteps_plain _ _ (fun p hp => ⟨by have := hin p hp; have := h.len; rw [h.plE, h.nE] at *; show p.1 < D.sure.length; omega, (hin p hp).2.2⟩), List.nil_append]
    have hs : PDsk.sync ⟨D.sure, outs L (stretches L), -1⟩ = (⟨(outs L (stretches L)).foldl PDsk.keep D.sure, [], -1⟩, 0) := by
      unfold PDsk.sync
      rw [if_neg (by show ¬ ((-1 : Int) = 0); decide)]
      rfl
    have e : PLog.force L D L.next = ({ L with forced := L.next }, ⟨(outs L (stretches L)).foldl PDsk.keep D.sure, [], -1⟩, 0) := by
      unfold PLog.force
      rw [if_neg (by omega), if_neg (by omega), hw]
      simp only
      rw [hs]
      simp
    rw [e]
    refine ⟨rfl, rfl, forced_all hk, h.plE, h.nE, ?_, rfl, rfl, ?_, ?_, ⟨L.texts.length, Nat.le_refl _, end_next L⟩⟩
    · obtain ⟨h1, h2, h3, h4, h5, h6⟩ := h.dok
      exact ⟨by show 1 ≤ (List.foldl PDsk.keep D.sure _).length; rw [fold_length]; exact h1, by show (List.foldl PDsk.keep D.sure _).length ≤ _; rw [fold_length]; exact h2, fold_128 _ _ h3 (fun p hp => (hin p hp).2.2), by simp, (by show (-1 : Int) ≤ -1; decide), (by show (-1 : Int) ≤ 9223372036854775807; decide)⟩
    · show pl + n + 5 = (List.foldl PDsk.keep D.sure _).length
      rw [fold_length]; exact h.len
    · intro i hi ho
      show ((outs L (stretches L)).foldl PDsk.keep D.sure)[i]? = _
      rw [fold_out (fun p hp => by have := hin p hp; rw [h.plE, h.nE] at this; omega)]
      exact h.out i (by have : (List.foldl PDsk.keep D.sure (outs L (stretches L))).length = D.sure.length := fold_length _ _; show i < D.sure.length; rw [← this]; exact hi) ho
theorem room_forced (L : Lg) : ({ L with forced := L.next } : Lg).room = L.room := rfl
theorem Rg.append {pl n : Nat} {L : Lg} {D : Dsk} (h : Rg pl n L D) (s : List UInt8) (hn : L.next ≤ 8900000000000000000) :
    Rg pl n (append L s).1 D ∧ (((append L s).2.2 = 0 ∧ (append L s).1.room = L.room - (s.length + 14) ∧ s.length + 14 ≤ L.room ∧ (append L s).1.next = L.next + (s.length + 14)) ∨ ((append L s).2.2 = 2 ∧ (append L s).1 = L) ∨ ((append L s).2.2 = 4 ∧ (append L s).1 = L ∧ L.room < s.length + 14)) := by
  have hok := append_ok h.ok s hn
  by_cases h1 : s.length < 1 ∨ 4096 < s.length
  · have e : PLog.append L s = (L, 0, 2) := by unfold PLog.append; rw [if_pos h1]
    rw [e]
    exact ⟨h, .inr (.inl ⟨rfl, rfl⟩)⟩
  by_cases h2 : L.room < s.length + 14
  · have e : PLog.append L s = (L, 0, 4) := by unfold PLog.append; rw [if_neg h1, if_pos h2]
    rw [e]
    exact ⟨h, .inr (.inr ⟨rfl, rfl, h2⟩)⟩
  have e : PLog.append L s = ({ L with texts := L.texts ++ [s] }, L.next, 0) := by unfold PLog.append; rw [if_neg h1, if_neg h2]
  rw [e] at hok ⊢
  have hnx : ({ L with texts := L.texts ++ [s] } : Lg).next = L.next + (s.length + 14) := by
    show endOf L.first (L.texts ++ [s]) = endOf L.first L.texts + _
    rw [endOf_append]
    show endOf L.first L.texts + (14 + s.length) = _
    omega
  obtain ⟨j, hj, hfe⟩ := h.at_
  have hfn := L.first_next
  have hbl := begin_le L.first
  refine ⟨⟨hok, h.plE, h.nE, h.dok, h.fuse, h.loose, h.len, h.out, ⟨j, ?_, ?_⟩⟩, .inl ⟨rfl, ?_, by omega, hnx⟩⟩
  · show j ≤ (L.texts ++ [s]).length
    rw [List.length_append]; omega
  · show L.forced = endOf L.first ((L.texts ++ [s]).take j)
    rw [List.take_append_of_le_length hj]; exact hfe
  · show L.n * 110 - (({ L with texts := L.texts ++ [s] } : Lg).next - begin L.first) - L.reserved = _
    rw [hnx]
    unfold Lg.room
    omega
/-- Keep of Forced -/
theorem Rg.keep {pl n : Nat} {L : Lg} {D : Dsk} (h : Rg pl n L D) : (keep L L.forced).2 = 0 ∧ (keep L L.forced).1.first = L.forced ∧ L.room ≤ (keep L L.forced).1.room ∧ (keep L L.forced).1.next = L.next ∧ (keep L L.forced).1.reserved = L.reserved ∧ Rg pl n (keep L L.forced).1 D := by
  have hk := h.ok
  obtain ⟨j, hj, hfe⟩ := h.at_
  have hat : isAt L L.forced = true ∨ L.forced = L.next := by
    rcases Nat.lt_or_ge j L.texts.length with e | e
    · exact .inl ((isAt_iff L _).2 ⟨j, e, hfe⟩)
    · right
      rw [hfe, show j = L.texts.length by omega]
      exact (end_next L).symm
  have hy := keep_yes hk.forced (Nat.le_refl _) hat
  obtain ⟨f1, f2, f3, f4, f5, f6, f7⟩ := kept_facts hk (keepAt_of hat) (Nat.le_refl _)
  rw [hy]
  have hbm := begin_mono hk.forced
  have hb1 := begin_le L.forced
  have hb2 := begin_le L.first
  refine ⟨rfl, rfl, ?_, f6, rfl, f7, h.plE, h.nE, h.dok, h.fuse, h.loose, h.len, h.out, ⟨0, Nat.zero_le _, rfl⟩⟩
  show L.room ≤ L.n * 110 - ((kept L L.forced).next - begin L.forced) - L.reserved
  rw [f6]
  unfold Lg.room
  omega
theorem Rg.reserve {pl n : Nat} {L : Lg} {D : Dsk} (h : Rg pl n L D) (x : Int) : Rg pl n (reserve L x).1 D ∧ (reserve L x).1.first = L.first ∧ (reserve L x).1.next = L.next ∧
    (((reserve L x).2 = 0 ∧ x ≤ L.room ∧ -(L.reserved : Int) ≤ x ∧ ((reserve L x).1.reserved : Int) = L.reserved + x) ∨ (((reserve L x).2 = 4 ∨ (reserve L x).2 = 2) ∧ ¬ (x ≤ L.room ∧ -(L.reserved : Int) ≤ x) ∧ (reserve L x).1.reserved = L.reserved)) := by
  have hok := reserve_ok h.ok x
  by_cases h1 : (L.room : Int) < x
  · have e : PLog.reserve L x = (L, 4) := by unfold PLog.reserve; rw [if_pos h1]
    rw [e]
    exact ⟨h, rfl, rfl, .inr ⟨.inl rfl, by omega, rfl⟩⟩
  by_cases h2 : x < -(L.reserved : Int)
  · have e : PLog.reserve L x = (L, 2) := by unfold PLog.reserve; rw [if_neg h1, if_pos h2]
    rw [e]
    exact ⟨h, rfl, rfl, .inr ⟨.inr rfl, by omega, rfl⟩⟩
  have e : PLog.reserve L x = ({ L with reserved := (L.reserved + x).toNat }, 0) := by unfold PLog.reserve; rw [if_neg h1, if_neg h2]
  rw [e] at hok ⊢
  exact ⟨⟨hok, h.plE, h.nE, h.dok, h.fuse, h.loose, h.len, h.out, h.at_⟩, rfl, rfl, .inl ⟨rfl, by omega, by omega, by show ((L.reserved + x).toNat : Int) = _; omega⟩⟩
theorem Rg.start {pl n : Nat} (h1 : 4 ≤ n) (h2 : n ≤ 100) (h3 : pl ≤ 100) : Rg pl n (fresh pl n 1) (new (pl + n + 5)) := by
  refine ⟨fresh_ok h1 (by omega) (by omega) (Nat.le_refl _) (by decide), rfl, rfl, new_ok _ (by omega) (by omega), rfl, rfl, ?_, ?_, ⟨0, Nat.le_refl _, rfl⟩⟩
  · show _ = (List.replicate _ _).length
    rw [List.length_replicate]
  · intro i hi _
    have hi' : i < pl + n + 5 := by
      have : (List.replicate (pl + n + 5) zero).length = pl + n + 5 := List.length_replicate
      have h : i < (List.replicate (pl + n + 5) zero).length := hi
      omega
    show (List.replicate (pl + n + 5) zero)[i]? = _
    rw [List.getElem?_replicate, if_pos hi']
end PLog
