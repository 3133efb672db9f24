/-
  Log, plain: what Open makes of a disk.
-/
import Derived.Test.YtjnggldalggfnaaPLog
namespace PLog
open PDsk PSum PWord
/-- a frame that is read is the frame of what is read -/
theorem decode_back (s : List UInt8) (lsn : Nat) (h : (PFrm.decode s lsn).2.2 = 0) : (PFrm.decode s lsn).2.1 = ((14 + (PFrm.decode s lsn).1.length : Nat) : Int) ∧ s.take (14 + (PFrm.decode s lsn).1.length) = PFrm.frame lsn (PFrm.decode s lsn).1 ∧ 1 ≤ (PFrm.decode s lsn).1.length ∧ (PFrm.decode s lsn).1.length ≤ 4096 ∧ 14 + (PFrm.decode s lsn).1.length ≤ s.length := by
  unfold PFrm.decode at h ⊢
  by_cases c1 : s.length < 14
  · rw [if_pos c1] at h; simp at h
  rw [if_neg c1] at h ⊢
  by_cases c2 : val (s.take 2) < 1 ∨ val (s.take 2) > 4096 ∨ val ((s.drop 2).take 8) ≠ lsn ∨ lsn = 0
  · rw [if_pos c2] at h; simp at h
  rw [if_neg c2] at h ⊢
  by_cases c3 : s.length < 14 + val (s.take 2)
  · rw [if_pos c3] at h; simp at h
  rw [if_neg c3] at h ⊢
  by_cases c4 : PFrm.tail4 (s.take 10) ((s.drop 14).take (val (s.take 2))) ≠ (s.drop 10).take 4
  · rw [if_pos c4] at h; simp at h
  rw [if_neg c4]
  obtain ⟨v, hv⟩ : ∃ v, val (s.take 2) = v := ⟨_, rfl⟩
  rw [hv] at c2 c3 c4 ⊢
  have hlen : ((s.drop 14).take v).length = v := by rw [List.length_take, List.length_drop]; omega
  refine ⟨by rw [hlen]; push_cast; rfl, ?_, by rw [hlen]; omega, by rw [hlen]; omega, by rw [hlen]; omega⟩
  show s.take (14 + ((s.drop 14).take v).length) = PFrm.frame lsn ((s.drop 14).take v)
  rw [hlen]
  have e4 : PFrm.tail4 (s.take 10) ((s.drop 14).take v) = (s.drop 10).take 4 := Classical.byContradiction c4
  have el : val ((s.drop 2).take 8) = lsn := by
    apply Classical.byContradiction
    intro hne
    exact c2 (.inr (.inr (.inl hne)))
  have e2 : be 2 v = s.take 2 := by rw [← hv]; exact be_val 2 (s.take 2) (by rw [List.length_take]; omega)
  have e8 : be 8 lsn = (s.drop 2).take 8 := by rw [← el]; exact be_val 8 ((s.drop 2).take 8) (by rw [List.length_take, List.length_drop]; omega)
  have e10 : s.take 10 = s.take 2 ++ (s.drop 2).take 8 := by rw [← List.take_add]
  have hh : PFrm.head lsn ((s.drop 14).take v) = s.take 10 := by
    unfold PFrm.head
    rw [hlen, e2, e8, e10]
  unfold PFrm.frame
  rw [hh, e4]
  have e14 : s.take 14 = s.take 10 ++ (s.drop 10).take 4 := by rw [← List.take_add]
  rw [← e14, ← List.take_add]
theorem items_texts : ∀ (f : Nat) (s : List UInt8) (x : Nat), x + s.length < 18446744073709551616 → s.length < f →
    (∀ t ∈ PFrm.texts (PFrm.items f s x), 1 ≤ t.length ∧ t.length ≤ 4096) ∧ framesOf x (PFrm.texts (PFrm.items f s x)) <+: s := by
  intro f
  induction f with
  | zero => intro s x _ h; omega
  | succ f ih =>
    intro s x hx hf
    by_cases hz : s.length = 0
    · rw [PFrm.items_zero _ _ _ hz]
      exact ⟨fun t ht => by simp [PFrm.texts] at ht, by simp [PFrm.texts, framesOf]⟩
    by_cases h0 : (PFrm.decode s x).2.2 = 0
    · obtain ⟨d1, d2, d3, d4, d5⟩ := decode_back s x h0
      rw [PFrm.items_ok _ _ _ hz h0]
      obtain ⟨t, ht⟩ : ∃ t, (PFrm.decode s x).1 = t := ⟨_, rfl⟩
      rw [ht] at d1 d2 d3 d4 d5 ⊢
      rw [d1, Int.toNat_natCast, Nat.mod_eq_of_lt (by omega)]
      have i := ih (s.drop (14 + t.length)) (x + (14 + t.length)) (by rw [List.length_drop]; omega) (by rw [List.length_drop]; omega)
      have et : PFrm.texts ((t, 0) :: PFrm.items f (s.drop (14 + t.length)) (x + (14 + t.length))) = t :: PFrm.texts (PFrm.items f (s.drop (14 + t.length)) (x + (14 + t.length))) := by simp [PFrm.texts]
      rw [et]
      refine ⟨fun u hu => ?_, ?_⟩
      · rcases List.mem_cons.1 hu with rfl | hu
        · exact ⟨d3, d4⟩
        · exact i.1 u hu
      · obtain ⟨r, hr⟩ := i.2
        refine ⟨r, ?_⟩
        show PFrm.frame x t ++ framesOf _ _ ++ r = s
        rw [List.append_assoc, hr, ← d2, List.take_append_drop]
    · rw [PFrm.items_bad _ _ _ hz h0]
      have et : PFrm.texts [((PFrm.decode s x).1, (PFrm.decode s x).2.2)] = [] := by simp [PFrm.texts, h0]
      rw [et]
      exact ⟨fun t ht => by simp at ht, by simp [framesOf]⟩
theorem used_end : ∀ (l : List (List UInt8)) (x : Nat), (∀ t ∈ l, 1 ≤ t.length ∧ t.length ≤ 4096) → ∀ acc : Int, (l.map (fun t => PFrm.size (t.length : Int))).foldl (· + ·) acc = acc + ((endOf x l : Nat) - (x : Int))
  | [], x, _, acc => by simp [endOf]
  | t :: l, x, h, acc => by
    have ht := h t (by simp)
    have e : PFrm.size (t.length : Int) = 14 + t.length := by unfold PFrm.size; rw [if_neg (by omega)]
    rw [List.map_cons, List.foldl_cons, used_end l (x + (14 + t.length)) (fun u hu => h u (by simp [hu])) _, e]
    show _ = acc + ((endOf (x + (14 + t.length)) l : Nat) - (x : Int))
    push_cast
    omega
/-- what is found in a stream -/
def found (s : List UInt8) (x : Nat) : List (List UInt8) := PFrm.texts (PFrm.items (s.length + 1) s x)
theorem found_ok (s : List UInt8) (x : Nat) (hx : x + s.length < 18446744073709551616) : (∀ t ∈ found s x, 1 ≤ t.length ∧ t.length ≤ 4096) ∧ framesOf x (found s x) <+: s :=
  items_texts (s.length + 1) s x hx (by omega)
theorem found_used (s : List UInt8) (x : Nat) (hx : x + s.length < 18446744073709551616) : PFrm.used (found s x) = ((endOf x (found s x) - x : Nat) : Int) := by
  have h := used_end (found s x) x (found_ok s x hx).1 0
  have := endOf_le (found s x) x
  unfold PFrm.used
  omega
theorem found_end (s : List UInt8) (x : Nat) (hx : x + s.length < 18446744073709551616) : endOf x (found s x) ≤ x + s.length := by
  have h := (found_ok s x hx).2.length_le
  have := framesOf_length (found s x) x
  omega
/-- the log that Open finds, if its stream reaches to First -/
def opened (D : Dsk) (pl n life first : Nat) : Lg :=
  ⟨n, pl, life, (stream D pl n life n (begin first) 0).take (first - begin first), found ((stream D pl n life n (begin first) 0).drop (first - begin first)) first, first,
    endOf first (found ((stream D pl n life n (begin first) 0).drop (first - begin first)) first), 0⟩
structure Opens (D : Dsk) (pl n life first : Nat) : Prop where
  n4 : 4 ≤ n
  n5 : n ≤ 4096
  place : pl + n ≤ D.sure.length
  size : D.sure.length ≤ 16384
  life1 : 1 ≤ life
  life5 : life ≤ 9000000000000000000
  first1 : 110 ≤ first
  first5 : first ≤ 4611686018427387904
  ahead : first - begin first ≤ (stream D pl n life n (begin first) 0).length
theorem opened_facts {D : Dsk} {pl n life first : Nat} (h : Opens D pl n life first) :
    (opened D pl n life first).Ok ∧ (opened D pl n life first).bytes = (stream D pl n life n (begin first) 0).take (first - begin first + ((opened D pl n life first).next - first)) ∧
    first - begin first + ((opened D pl n life first).next - first) ≤ (stream D pl n life n (begin first) 0).length := by
  obtain ⟨s, hs⟩ : ∃ s, stream D pl n life n (begin first) 0 = s := ⟨_, rfl⟩
  have hl := stream_le D pl n life n (begin first) 0
  have ha := h.ahead
  have hb := begin_le first
  have h1 := h.first5
  have hn5 := h.n5
  rw [hs] at hl ha
  have hx : first + (s.drop (first - begin first)).length < 18446744073709551616 := by rw [List.length_drop]; omega
  have ho : opened D pl n life first = ⟨n, pl, life, s.take (first - begin first), found (s.drop (first - begin first)) first, first, endOf first (found (s.drop (first - begin first)) first), 0⟩ := by unfold opened; rw [hs]
  rw [ho, hs]
  obtain ⟨f1, f2⟩ := found_ok _ _ hx
  have fe := found_end _ _ hx
  have fl := endOf_le (found (s.drop (first - begin first)) first) first
  rw [List.length_drop] at fe
  obtain ⟨F, hF⟩ : ∃ F, found (s.drop (first - begin first)) first = F := ⟨_, rfl⟩
  rw [hF] at f1 f2 fe fl ⊢
  have hnx : (⟨n, pl, life, s.take (first - begin first), F, first, endOf first F, 0⟩ : Lg).next = endOf first F := rfl
  refine ⟨⟨h.n4, h.n5, (by have := h.place; have := h.size; show pl + n ≤ 16384; omega), h.life1, h.life5, h.first1, ?_, f1, ?_, ?_, ?_, ?_⟩, ?_, ?_⟩
  · show begin first + (s.take (first - begin first)).length = first
    rw [List.length_take]; omega
  · show first ≤ endOf first F; omega
  · exact Nat.le_refl _
  · show endOf first F ≤ _; omega
  · show endOf first F - begin first + 0 ≤ n * 110; omega
  · rw [hnx]
    show s.take (first - begin first) ++ framesOf first F = _
    have hfl := framesOf_length F first
    obtain ⟨r, hr⟩ := f2
    have e : framesOf first F = (s.drop (first - begin first)).take (endOf first F - first) := by rw [← hr, List.take_left' (by omega)]
    rw [e, ← List.take_add]
  · rw [hnx]; omega
end PLog
