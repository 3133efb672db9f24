/-
  Plain: frames one behind the other: what comes of any bytes.
-/
import Derived.Test.YtjnggldalggfnaaPFrm
namespace PFrm
open PSum PWord
/-- The records, each with no error, or the first error. -/
def items : Nat → List UInt8 → Nat → List (List UInt8 × Int)
  | 0, _, _ => []
  | f + 1, s, lsn =>
    if s.length = 0 then [] else
    if (decode s lsn).2.2 = 0 then ((decode s lsn).1, 0) :: items f (s.drop (decode s lsn).2.1.toNat) ((lsn + (decode s lsn).2.1.toNat) % 18446744073709551616)
    else [((decode s lsn).1, (decode s lsn).2.2)]
theorem decode_ok (s : List UInt8) (lsn : Nat) (h : (decode s lsn).2.2 = 0) : ∃ k : Nat, (decode s lsn).2.1 = ((14 + k : Nat) : Int) ∧ (decode s lsn).1.length = k ∧ 1 ≤ k ∧ k ≤ 4096 ∧ 14 + k ≤ s.length ∧ lsn ≠ 0 := by
  unfold decode at h ⊢
  by_cases c1 : s.length < 14
  · rw [if_pos c1] at h; simp at h
  rw [if_neg c1] at h ⊢
  by_cases c2 : val (s.take 2) < 1 ∨ val (s.take 2) > 4096 ∨ val ((s.drop 2).take 8) ≠ lsn ∨ lsn = 0
  · rw [if_pos c2] at h; simp at h
  rw [if_neg c2] at h ⊢
  by_cases c3 : s.length < 14 + val (s.take 2)
  · rw [if_pos c3] at h; simp at h
  rw [if_neg c3] at h ⊢
  by_cases c4 : tail4 (s.take 10) ((s.drop 14).take (val (s.take 2))) ≠ (s.drop 10).take 4
  · rw [if_pos c4] at h; simp at h
  rw [if_neg c4]
  refine ⟨val (s.take 2), by push_cast; rfl, ?_, by omega, by omega, by omega, by omega⟩
  simp; omega
theorem decode_err (s : List UInt8) (lsn : Nat) : (decode s lsn).2.2 = 0 ∨ (decode s lsn).2.2 = 6 ∨ (decode s lsn).2.2 = 7 ∨ (decode s lsn).2.2 = 100 := by
  unfold decode
  split
  · simp
  split
  · simp
  split
  · simp
  split <;> simp
theorem decode_bad (s : List UInt8) (lsn : Nat) (h : (decode s lsn).2.2 ≠ 0) : (decode s lsn).1 = [] ∧ (decode s lsn).2.1 = 0 := by
  unfold decode at h ⊢
  by_cases c1 : s.length < 14
  · rw [if_pos c1]; exact ⟨rfl, rfl⟩
  rw [if_neg c1] at h ⊢
  by_cases c2 : val (s.take 2) < 1 ∨ val (s.take 2) > 4096 ∨ val ((s.drop 2).take 8) ≠ lsn ∨ lsn = 0
  · rw [if_pos c2]; exact ⟨rfl, rfl⟩
  rw [if_neg c2] at h ⊢
  by_cases c3 : s.length < 14 + val (s.take 2)
  · rw [if_pos c3]; exact ⟨rfl, rfl⟩
  rw [if_neg c3] at h ⊢
  by_cases c4 : tail4 (s.take 10) ((s.drop 14).take (val (s.take 2))) ≠ (s.drop 10).take 4
  · rw [if_pos c4]; exact ⟨rfl, rfl⟩
  rw [if_neg c4] at h
  exact absurd rfl h
/-- What Scan answers: the texts, how many bytes they take, the first error. -/
def texts (l : List (List UInt8 × Int)) : List (List UInt8) := (l.filter (fun x => x.2 == 0)).map (·.1)
def used (l : List (List UInt8)) : Int := (l.map (fun t => size (t.length : Int))).foldl (· + ·) 0
def err (l : List (List UInt8 × Int)) : Int := match l.getLast? with | some x => x.2 | none => 0
theorem used_snoc (l : List (List UInt8)) (t : List UInt8) : used (l ++ [t]) = used l + size (t.length : Int) := by simp [used, List.foldl_append]
theorem size_bounds (n : Int) : 0 ≤ size n ∧ size n ≤ 4110 := by unfold size; split <;> omega
theorem fold_bounds (l : List (List UInt8)) : ∀ acc : Int, acc ≤ (l.map (fun t => size (t.length : Int))).foldl (· + ·) acc ∧ (l.map (fun t => size (t.length : Int))).foldl (· + ·) acc ≤ acc + 4110 * l.length := by
  induction l with
  | nil => intro acc; simp
  | cons t l ih =>
    intro acc
    have h := size_bounds (t.length : Int)
    have h2 := ih (acc + size (t.length : Int))
    rw [List.map_cons, List.foldl_cons, List.length_cons]
    push_cast
    omega
theorem used_bounds (l : List (List UInt8)) : 0 ≤ used l ∧ used l ≤ 4110 * l.length := by
  have := fold_bounds l 0
  unfold used
  omega
theorem items_zero (f : Nat) (s : List UInt8) (lsn : Nat) (h : s.length = 0) : items f s lsn = [] := by
  cases f
  · rfl
  · simp [items, h]
theorem items_ok (f : Nat) (s : List UInt8) (lsn : Nat) (h : s.length ≠ 0) (h0 : (decode s lsn).2.2 = 0) :
    items (f + 1) s lsn = ((decode s lsn).1, 0) :: items f (s.drop (decode s lsn).2.1.toNat) ((lsn + (decode s lsn).2.1.toNat) % 18446744073709551616) := by
  rw [items, if_neg h, if_pos h0]
theorem items_bad (f : Nat) (s : List UInt8) (lsn : Nat) (h : s.length ≠ 0) (h0 : (decode s lsn).2.2 ≠ 0) :
    items (f + 1) s lsn = [((decode s lsn).1, (decode s lsn).2.2)] := by
  rw [items, if_neg h, if_neg h0]
theorem texts_ok (l : List (List UInt8 × Int)) (h : ∀ x ∈ l, x.2 = 0) : texts l = l.map (·.1) := by
  unfold texts
  rw [List.filter_eq_self.2 (fun x hx => by simp [h x hx])]
theorem err_ok (l : List (List UInt8 × Int)) (h : ∀ x ∈ l, x.2 = 0) : err l = 0 := by
  unfold err
  cases hl : l.getLast? with
  | none => rfl
  | some x => exact h x (List.mem_of_getLast? hl)
theorem texts_stop (p : List (List UInt8 × Int)) (t : List UInt8) (e : Int) (he : e ≠ 0) (h : ∀ x ∈ p, x.2 = 0) : texts (p ++ [(t, e)]) = p.map (·.1) := by
  have := texts_ok p h
  unfold texts at this ⊢
  rw [List.filter_append, List.map_append, this]
  simp [he]
theorem err_stop (p : List (List UInt8 × Int)) (t : List UInt8) (e : Int) : err (p ++ [(t, e)]) = e := by simp [err]
theorem items_stop (f : Nat) : ∀ (s : List UInt8) (m : Nat) (p : List (List UInt8 × Int)) (t : List UInt8) (e : Int), (p ++ [(t, e)]) <+: items f s m → e ≠ 0 → items f s m = p ++ [(t, e)] := by
  induction f with
  | zero => intro s m p t e h; obtain ⟨r, hr⟩ := h; simp [items] at hr
  | succ f ih =>
    intro s m p t e h he
    by_cases hz : s.length = 0
    · rw [items_zero _ _ _ hz] at h; obtain ⟨r, hr⟩ := h; simp at hr
    by_cases h0 : (decode s m).2.2 = 0
    · rw [items_ok _ _ _ hz h0] at h ⊢
      cases p with
      | nil =>
        obtain ⟨r, hr⟩ := h
        simp at hr
        exact absurd hr.1.2 he
      | cons x p =>
        rw [List.cons_append] at h ⊢
        obtain ⟨h1, h2⟩ := List.cons_prefix_cons.1 h
        rw [ih _ _ _ _ _ h2 he, h1]
    · rw [items_bad _ _ _ hz h0] at h ⊢
      obtain ⟨r, hr⟩ := h
      cases p with
      | nil => simp at hr; simp [hr.1]
      | cons x p => simp at hr
end PFrm
