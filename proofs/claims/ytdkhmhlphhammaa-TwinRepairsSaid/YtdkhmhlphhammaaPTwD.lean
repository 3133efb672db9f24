/-
  Plain: what is repaired of what a Write leaves. No program in sight.
-/
import Derived.Test.YtdkhmhlphhammaaPTwB
namespace PTwin
open PDsk
theorem now_sure (S : List (List UInt8)) (f : Int) (k : Nat) : now ⟨S, [], f⟩ k = sec S k := rfl
theorem mark_form (ps : List Nat) : ∃ R, mark ps = 1 :: UInt8.ofNat ps.length :: (ps.flatMap (PWord.be 4) ++ R) := by
  refine ⟨List.replicate (124 - (front ps).length) 0 ++ PSum.le4 (PSum.of (front ps ++ List.replicate (124 - (front ps).length) 0)), ?_⟩
  unfold mark PSum.sealL
  unfold front
  simp
theorem flat_four (R : List UInt8) : ∀ (ps : List Nat) (i : Nat) (h : i < ps.length), ((ps.flatMap (PWord.be 4) ++ R).drop (4 * i)).take 4 = PWord.be 4 ps[i]
  | p :: ps, 0, _ => by
    have : (PWord.be 4 p).length = 4 := PWord.be_length 4 p
    simp only [List.flatMap_cons, Nat.mul_zero, List.drop_zero, List.append_assoc, List.getElem_cons_zero]
    rw [List.take_append_of_le_length (by omega), List.take_of_length_le (by omega)]
  | p :: ps, i + 1, h => by
    have hl : (PWord.be 4 p).length = 4 := PWord.be_length 4 p
    rw [List.flatMap_cons, List.append_assoc, show 4 * (i + 1) = (PWord.be 4 p).length + 4 * i by omega, List.drop_append, List.getElem_cons_succ]
    have : (PWord.be 4 p).drop ((PWord.be 4 p).length + 4 * i) = [] := List.drop_eq_nil_iff.2 (by omega)
    rw [this, List.nil_append, Nat.add_sub_cancel_left]
    exact flat_four R ps i (by simpa using h)
theorem get_in (s : List UInt8) (p k : Nat) (h1 : 1 ≤ k) (h8 : k ≤ 8) (h : p + k ≤ s.length) : (PWord.get s p k).1 = PWord.val ((s.drop p).take k) := by
  unfold PWord.get PWord.inside
  rw [if_pos (by simp; omega)]
  simp
theorem count_mark {ps : List Nat} (h : ps.length ≤ 8) : count (mark ps) = ps.length := by
  have hl := mark_length h
  obtain ⟨R, hR⟩ := mark_form ps
  unfold count
  have := get_in (mark ps) 1 1 (by omega) (by omega) (by omega)
  show (PWord.get (mark ps) ((1 : Nat) : Int) ((1 : Nat) : Int)).1 = _
  rw [this, hR]
  simp only [List.drop_succ_cons, List.drop_zero, List.take_succ_cons, List.take_zero]
  show 256 * 0 + (UInt8.ofNat ps.length).toNat = _
  rw [UInt8.toNat_ofNat']
  omega
theorem name_mark {ps : List Nat} (h : ps.length ≤ 8) (hp : ∀ p ∈ ps, p < 4294967296) (i : Nat) (hi : i < ps.length) : (PWord.get (mark ps) (2 + 4 * (i : Nat) : Nat) 4).1 = ps[i] := by
  have hl := mark_length h
  obtain ⟨R, hR⟩ := mark_form ps
  have := get_in (mark ps) (2 + 4 * i) 4 (by omega) (by omega) (by omega)
  show (PWord.get (mark ps) ((2 + 4 * i : Nat) : Int) ((4 : Nat) : Int)).1 = _
  rw [this, hR, show 2 + 4 * i = 4 * i + 1 + 1 by omega, List.drop_succ_cons, List.drop_succ_cons, flat_four R ps i hi, PWord.val_be]
  exact Nat.mod_eq_of_lt (hp _ (List.getElem_mem hi))
theorem mark_ne (ps : List Nat) : mark ps ≠ clear := by
  obtain ⟨R, hR⟩ := mark_form ps
  rw [hR]
  intro e
  have := congrArg (fun l => l.head?) e
  simp [clear, List.replicate] at this
theorem pieces {B : List UInt8} (h : B.length = 512) : piece B 0 ++ piece B 1 ++ piece B 2 ++ piece B 3 = B := by
  unfold piece
  have e : ∀ (l : List UInt8) (m : Nat), l.take m ++ l.drop m = l := fun l m => List.take_append_drop m l
  have h3 : (B.drop 384).take 128 = B.drop 384 := List.take_of_length_le (by rw [List.length_drop]; omega)
  have h2 : (B.drop 256).take 128 ++ B.drop 384 = B.drop 256 := by
    have := e (B.drop 256) 128
    rwa [List.drop_drop] at this
  have h1 : (B.drop 128).take 128 ++ B.drop 256 = B.drop 128 := by
    have := e (B.drop 128) 128
    rwa [List.drop_drop] at this
  have h0 : B.take 128 ++ B.drop 128 = B := e B 128
  simp only [Nat.zero_mul, List.drop_zero, Nat.one_mul]
  show B.take 128 ++ (B.drop 128).take 128 ++ (B.drop 256).take 128 ++ (B.drop 384).take 128 = B
  rw [h3, List.append_assoc, h2, List.append_assoc, h1, h0]
section
variable {n a base : Nat} {b : List Hm}
theorem found_redo (g : Good n a base b) {S0 S : List (List UInt8)} (h : Redo n a base b S0 S) (f : Int) : found ⟨S, [], f⟩ a b.length = b := by
  have hb : (b.map (·.page)).length = b.length := List.length_map ..
  refine List.ext_getElem (by simp [found]) (fun i h1 h2 => ?_)
  simp only [found, List.getElem_map, List.getElem_range]
  rw [now_sure, h.mark]
  have e1 := name_mark (ps := b.map (·.page)) (by rw [hb]; exact g.len.2) (fun p hp => by obtain ⟨x, hx, rfl⟩ := List.mem_map.1 hp; exact g.page x hx) i (by rw [hb]; exact h2)
  rw [e1]
  have e2 : pageAt ⟨S, [], f⟩ (a + 1) i = b[i].bytes := by
    unfold pageAt
    simp only [now_sure]
    rw [h.area i h2 0 (by omega), h.area i h2 1 (by omega), h.area i h2 2 (by omega), h.area i h2 3 (by omega)]
    exact pieces (g.bytes _ (List.getElem_mem h2))
  rw [e2]
  simp
theorem rep_down {S : List (List UInt8)} : repair ⟨S, [], 0⟩ a base = (⟨S, [], 0⟩, 0, 40) := by unfold repair; rw [if_pos rfl]
theorem rep_clear {S : List (List UInt8)} {f : Int} (hf : f ≠ 0) (h : sec S a = clear) : repair ⟨S, [], f⟩ a base = (⟨S, [], f⟩, 0, 0) := by
  unfold repair
  rw [if_neg hf, now_sure, if_pos h]
theorem rep_redo (g : Good n a base b) (hm : may n a base b = true) {S0 S : List (List UInt8)} (h : Redo n a base b S0 S) {f : Int} (hf : f ≠ 0) :
    repair ⟨S, [], f⟩ a base = if (steps ⟨S, [], f⟩ (homes base b ++ marks a clear)).2 = 0 then ((steps ⟨S, [], f⟩ (homes base b ++ marks a clear)).1, b.length, 0) else ((steps ⟨S, [], f⟩ (homes base b ++ marks a clear)).1, 0, (steps ⟨S, [], f⟩ (homes base b ++ marks a clear)).2) := by
  have hb : (b.map (·.page)).length = b.length := List.length_map ..
  have hc : count (now ⟨S, [], f⟩ a) = b.length := by rw [now_sure, h.mark, count_mark (by rw [hb]; exact g.len.2), hb]
  unfold repair
  rw [if_neg hf, hc, found_redo g h f]
  rw [if_neg (by rw [now_sure, h.mark]; exact mark_ne _), if_neg (by have := g.len; omega)]
  rw [if_neg (by
    intro e
    have hl : (⟨S, [], f⟩ : Dsk).sure.length = n := h.kept.len
    rcases e with e | e | e
    · exact e (by rw [now_sure, h.mark])
    · have := g.base; omega
    · rw [hl, hm] at e; cases e)]
theorem New.not_redo {S0 S : List (List UInt8)} (h : New n a base b S0 S) (k : Redo n a base b S0 S) : False := mark_ne _ (k.mark.symm.trans h.mark)
/-- a Repair of what a Write has left -/
theorem repair_cases (g : Good n a base b) (hm : may n a base b = true) {S0 S : List (List UInt8)} (h : Any n a base b S0 S) (f : Int) (hf : -1 ≤ f) :
    (∃ S' f' k, repair ⟨S, [], f⟩ a base = (⟨S', [], f'⟩, k, 0) ∧ (Old n a base b S0 S' ∨ New n a base b S0 S') ∧ (New n a base b S0 S → New n a base b S0 S') ∧ -1 ≤ f' ∧ (f = -1 → f' = -1) ∧ f' ≤ f) ∨
    (f ≠ -1 ∧ (repair ⟨S, [], f⟩ a base).2.1 = 0 ∧ (repair ⟨S, [], f⟩ a base).2.2 = 40 ∧ ∀ ks, ∃ S', crash (repair ⟨S, [], f⟩ a base).1 ks = ⟨S', [], -1⟩ ∧ Any n a base b S0 S' ∧ (New n a base b S0 S → New n a base b S0 S')) := by
  by_cases h0 : f = 0
  · right
    subst h0
    rw [rep_down]
    exact ⟨by omega, rfl, rfl, fun ks => ⟨S, crash_nil _ _ _, h, fun k => k⟩⟩
  rcases h with h | h | h
  · left
    exact ⟨S, f, 0, rep_clear h0 h.mark, .inl h, fun k => k, hf, fun k => k, Int.le_refl _⟩
  · rw [rep_redo g hm h h0]
    rcases tail_cases g h f hf with ⟨t1, t2, t3⟩ | ⟨S', f3, t1, t2, t3, t4, t5⟩
    · right
      rw [if_neg (by rw [t1]; decide)]
      refine ⟨t2, rfl, t1, fun ks => ?_⟩
      obtain ⟨S', s1, s2⟩ := t3 ks
      exact ⟨S', s1, .inr s2, fun k => (k.not_redo h).elim⟩
    · left
      rw [t1]
      exact ⟨S', f3, b.length, rfl, .inr t2, fun _ => t2, t3, t4, t5⟩
  · left
    exact ⟨S, f, 0, rep_clear h0 h.mark, .inr h, fun k => k, hf, fun k => k, Int.le_refl _⟩
theorem pageAt_new (g : Good n a base b) {S0 S : List (List UInt8)} (h : New n a base b S0 S) (f : Int) {x : Hm} (hx : x ∈ b) : pageAt ⟨S, [], f⟩ base x.page = x.bytes := by
  unfold pageAt
  simp only [now_sure]
  rw [h.home x hx 0 (by omega), h.home x hx 1 (by omega), h.home x hx 2 (by omega), h.home x hx 3 (by omega)]
  exact pieces (g.bytes x hx)
theorem pageAt_old {S0 S : List (List UInt8)} (h : Old n a base b S0 S) (f f0 : Int) {x : Hm} (hx : x ∈ b) : pageAt ⟨S, [], f⟩ base x.page = pageAt ⟨S0, [], f0⟩ base x.page := by
  unfold pageAt
  simp only [now_sure]
  rw [h.home x hx 0 (by omega), h.home x hx 1 (by omega), h.home x hx 2 (by omega), h.home x hx 3 (by omega)]
end
end PTwin
