/-
  Plain: frames that were written one behind the other, and cut off anywhere.
-/
import Derived.Test.YtfejjjbcloiddaaPScan
namespace PFrm
open PSum PWord
/-- How many bytes the frames of these texts take. -/
def pre (l : List (List UInt8)) : Nat := (l.map (fun t => t.length + 14)).sum
def catF : Nat → List (List UInt8) → List UInt8
  | _, [] => []
  | lsn, t :: r => frame lsn t ++ catF (lsn + (t.length + 14)) r
def Fit (l : List (List UInt8)) : Prop := ∀ t ∈ l, 1 ≤ t.length ∧ t.length ≤ 300
theorem pre_cons (t : List UInt8) (l : List (List UInt8)) : pre (t :: l) = (t.length + 14) + pre l := by simp [pre]
theorem pre_snoc (l : List (List UInt8)) (t : List UInt8) : pre (l ++ [t]) = pre l + (t.length + 14) := by simp [pre]
theorem catF_length (l : List (List UInt8)) : ∀ lsn, (catF lsn l).length = pre l := by
  induction l with
  | nil => intro lsn; rfl
  | cons t l ih => intro lsn; rw [catF, List.length_append, frame_length, ih, pre_cons]
theorem catF_snoc (l : List (List UInt8)) (t : List UInt8) : ∀ lsn, catF lsn (l ++ [t]) = catF lsn l ++ frame (lsn + pre l) t := by
  induction l with
  | nil => intro lsn; simp [catF, pre]
  | cons u l ih => intro lsn; rw [List.cons_append, catF, ih, catF, pre_cons, List.append_assoc, Nat.add_assoc]
theorem pre_le (l : List (List UInt8)) (h : Fit l) : pre l ≤ 314 * l.length := by
  induction l with
  | nil => simp [pre]
  | cons t l ih =>
    have := ih (fun u hu => h u (by simp [hu]))
    have := h t (by simp)
    rw [pre_cons, List.length_cons]; omega
theorem used_acc (l : List (List UInt8)) (h : Fit l) : ∀ acc : Int, (l.map (fun t => size (t.length : Int))).foldl (· + ·) acc = acc + pre l := by
  induction l with
  | nil => intro acc; simp [pre]
  | cons t l ih =>
    intro acc
    have := h t (by simp)
    rw [List.map_cons, List.foldl_cons, ih (fun u hu => h u (by simp [hu])), pre_cons]
    unfold size
    rw [if_neg (by omega)]; omega
theorem used_pre (l : List (List UInt8)) (h : Fit l) : used l = pre l := by
  unfold used
  rw [used_acc l h]; omega
theorem Fit.take {l : List (List UInt8)} (h : Fit l) (k : Nat) : Fit (l.take k) := fun t ht => h t (List.mem_of_mem_take ht)
/-- A beginning of a frame is none. -/
theorem decode_short (lsn : Nat) (t : List UInt8) (h1 : 1 ≤ t.length) (h2 : t.length ≤ 300) (h3 : lsn ≠ 0) (hl : lsn < 18446744073709551616) (b : List UInt8) (k : Nat) (hk : k < t.length + 14) : decode ((frame lsn t ++ b).take k) lsn = ([], 0, 6) := by
  have hlen : ((frame lsn t ++ b).take k).length = k := by rw [List.length_take, List.length_append, frame_length]; omega
  unfold decode
  by_cases c1 : k < 14
  · rw [if_pos (by rw [hlen]; exact c1)]
  rw [if_neg (by rw [hlen]; exact c1)]
  have e2 : ((frame lsn t ++ b).take k).take 2 = be 2 t.length := by rw [List.take_take, Nat.min_eq_left (by omega), frame_take2]
  have e8 : (((frame lsn t ++ b).take k).drop 2).take 8 = be 8 lsn := by
    rw [List.drop_take, List.take_take, Nat.min_eq_left (by omega), frame_take8]
  rw [e2, e8, val_be2 _ (by omega), val_be8 _ hl, hlen, if_neg (by omega), if_pos (by omega)]
theorem items_cut (l : List (List UInt8)) (hf : Fit l) : ∀ (lsn k w f : Nat), lsn ≠ 0 → lsn + pre l < 18446744073709551616 → k ≤ pre l → w ≤ l.length → pre (l.take w) ≤ k → (w = l.length ∨ k < pre (l.take (w + 1))) → k < f →
    items f ((catF lsn l).take k) lsn = (l.take w).map (fun t => (t, (0 : Int))) ++ (if pre (l.take w) = k then [] else [([], 6)]) := by
  induction l with
  | nil =>
    intro lsn k w f _ _ hk hw _ _ _
    have hk0 : k = 0 := by simpa [pre] using hk
    subst hk0
    rw [items_zero _ _ _ (by simp)]
    simp [pre]
  | cons t l ih =>
    intro lsn k w f h0 hl hk hw h1 h2 hkf
    have ht := hf t (by simp)
    have hfl : Fit l := fun u hu => hf u (by simp [hu])
    rw [pre_cons] at hk hl
    obtain ⟨f, rfl⟩ : ∃ f', f = f' + 1 := ⟨f - 1, by omega⟩
    have hlen : ((catF lsn (t :: l)).take k).length = k := by rw [List.length_take, catF_length, pre_cons]; omega
    cases w with
    | zero =>
      have hk2 : k < t.length + 14 := by
        rcases h2 with h2 | h2
        · simp at h2
        · simpa [pre] using h2
      rw [List.take_zero]
      by_cases hk0 : k = 0
      · subst hk0
        rw [items_zero _ _ _ hlen]
        simp [pre]
      · have hd := decode_short lsn t ht.1 ht.2 h0 (by omega) (catF (lsn + (t.length + 14)) l) k hk2
        rw [catF] at *
        rw [items_bad _ _ _ (by omega) (by rw [hd]; decide), hd]
        have : ¬ pre [] = k := by simp [pre]; omega
        rw [if_neg this]
        rfl
    | succ w =>
      rw [List.take_succ_cons] at h1 ⊢
      rw [pre_cons] at h1 ⊢
      have h2' : w = l.length ∨ k < (t.length + 14) + pre (l.take (w + 1)) := by
        rcases h2 with h2 | h2
        · left; simpa using h2
        · right; rw [List.take_succ_cons, pre_cons] at h2; exact h2
      have ecut : (catF lsn (t :: l)).take k = frame lsn t ++ (catF (lsn + (t.length + 14)) l).take (k - (t.length + 14)) := by
        rw [catF, List.take_append, frame_length, List.take_of_length_le (by rw [frame_length]; omega)]
      have hd := decode_frame lsn lsn t ((catF (lsn + (t.length + 14)) l).take (k - (t.length + 14))) ((may_iff _ _).2 ⟨ht.1, by omega, h0⟩) (by omega)
      rw [if_pos rfl] at hd
      rw [items_ok _ _ _ (by omega) (by rw [ecut, hd]), ecut, hd]
      dsimp only
      rw [show (14 + (t.length : Int)).toNat = t.length + 14 by omega, List.drop_left' (frame_length _ _), Nat.mod_eq_of_lt (by omega)]
      rw [ih hfl (lsn + (t.length + 14)) (k - (t.length + 14)) w f (by omega) (by omega) (by omega) (by simpa using hw) (by omega) (by rcases h2' with h | h; exact .inl h; right; omega) (by omega)]
      rw [List.map_cons, List.cons_append]
      congr 2
      by_cases e : pre (l.take w) = k - (t.length + 14)
      · rw [if_pos e, if_pos (by omega)]
      · rw [if_neg e, if_neg (by omega)]
theorem texts_cut (l : List (List UInt8)) (c : Prop) [Decidable c] : texts (l.map (fun t => (t, (0 : Int))) ++ (if c then [] else [([], 6)])) = l := by
  have h : ∀ l : List (List UInt8), (List.filter (fun x => x.2 == 0) (l.map (fun t => (t, (0 : Int))))).map (·.1) = l := by
    intro l
    rw [List.filter_eq_self.2 (by simp), List.map_map]; exact List.map_id' l
  unfold texts
  rw [List.filter_append, List.map_append, h]
  split <;> simp
theorem err_cut (l : List (List UInt8)) (c : Prop) [Decidable c] : err (l.map (fun t => (t, (0 : Int))) ++ (if c then [] else [([], 6)])) = if c then 0 else 6 := by
  by_cases hc : c
  · rw [if_pos hc, if_pos hc, List.append_nil]
    exact err_ok _ (by simp)
  · rw [if_neg hc, if_neg hc, err_stop]
end PFrm
