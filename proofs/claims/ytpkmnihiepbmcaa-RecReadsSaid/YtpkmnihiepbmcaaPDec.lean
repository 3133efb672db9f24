/-
  Plain: what bytes that are read as a record would have: sizes, where they end. No program in sight.
-/
import Derived.Test.YtpkmnihiepbmcaaPRec
namespace PRec
theorem ins_iff (l : List UInt8) (p k : Nat) (h1 : 1 ≤ k) (h8 : k ≤ 8) : (PWord.get l p k).2 = decide (p + k ≤ l.length) := by
  unfold PWord.get PWord.inside
  by_cases h : p + k ≤ l.length
  · have : (decide (0 ≤ (p : Int)) && decide (0 ≤ (k : Int)) && decide ((p : Int) + (k : Int) ≤ (l.length : Int)) && decide (1 ≤ (k : Int)) && decide ((k : Int) ≤ 8)) = true := by simp; omega
    rw [this]; simp [h]
  · have : (decide (0 ≤ (p : Int)) && decide (0 ≤ (k : Int)) && decide ((p : Int) + (k : Int) ≤ (l.length : Int)) && decide (1 ≤ (k : Int)) && decide ((k : Int) ≤ 8)) = false := by
      rw [Bool.eq_false_iff]; intro hh; simp at hh; omega
    rw [this]; simp [h]
theorem g_lt (l : List UInt8) (p k : Nat) : g l p k < 256 ^ k := by
  unfold g PWord.get
  split
  · refine Nat.lt_of_lt_of_le (PWord.val_lt _ _ rfl) (Nat.pow_le_pow_right (by omega) ?_)
    simp; omega
  · exact Nat.pow_pos (by omega)
theorem getD_length (l : List UInt8) : ∀ n p, (getD l n p).length = n
  | 0, _ => rfl
  | n + 1, p => by rw [getD, List.length_cons, getD_length l n]
theorem getT_length (l : List UInt8) : ∀ n p, (getT l n p).length = n
  | 0, _ => rfl
  | n + 1, p => by rw [getT, List.length_cons, getT_length l n]
theorem getD_snoc (l : List UInt8) : ∀ n p, getD l (n + 1) p = getD l n p ++ [⟨g l (p + 12 * n) 4, g l (p + 12 * n + 4) 8⟩]
  | 0, p => by simp [getD]
  | n + 1, p => by
    rw [getD, getD_snoc l n (p + 12)]
    conv => rhs; rw [getD]
    rw [List.cons_append, show p + 12 + 12 * n = p + 12 * (n + 1) by omega]
theorem getT_snoc (l : List UInt8) : ∀ n p, getT l (n + 1) p = getT l n p ++ [⟨g l (p + 32 * n) 8, g l (p + 32 * n + 8) 8, g l (p + 32 * n + 16) 8, g l (p + 32 * n + 24) 8⟩]
  | 0, p => by simp [getT]
  | n + 1, p => by
    rw [getT, getT_snoc l n (p + 32)]
    conv => rhs; rw [getT]
    rw [List.cons_append, show p + 32 + 32 * n = p + 32 * (n + 1) by omega]
theorem getD_ok (l : List UInt8) : ∀ n p, ∀ d ∈ getD l n p, d.Ok
  | 0, _, _, h => by cases h
  | n + 1, p, d, h => by
    rw [getD, List.mem_cons] at h
    rcases h with rfl | h
    · exact ⟨g_lt l p 4, g_lt l (p + 4) 8⟩
    · exact getD_ok l n _ d h
theorem getT_ok (l : List UInt8) : ∀ n p, ∀ d ∈ getT l n p, d.Ok
  | 0, _, _, h => by cases h
  | n + 1, p, d, h => by
    rw [getT, List.mem_cons] at h
    rcases h with rfl | h
    · exact ⟨g_lt l p 8, g_lt l (p + 8) 8, g_lt l (p + 16) 8, g_lt l (p + 24) 8⟩
    · exact getT_ok l n _ d h
theorem parse_kind (l : List UInt8) : (parse l).kind = g l 0 1 ∧ (parse l).tx = g l 1 8 ∧ (parse l).prev = g l 9 8 := by
  unfold parse
  dsimp only
  split
  · exact ⟨rfl, rfl, rfl⟩
  split
  · exact ⟨rfl, rfl, rfl⟩
  split
  · exact ⟨rfl, rfl, rfl⟩
  split
  · exact ⟨rfl, rfl, rfl⟩
  split
  · exact ⟨rfl, rfl, rfl⟩
  · exact ⟨rfl, rfl, rfl⟩
theorem parse_ok (l : List UInt8) : (parse l).Ok := by
  have a1 := g_lt l 0 1
  have a2 := g_lt l 1 8
  have a3 := g_lt l 9 8
  have b1 := g_lt l 17 4
  have b2 := g_lt l 21 2
  have b3 := g_lt l 17 8
  have b4 := g_lt l 25 8
  have e8 : (256 : Nat) ^ 8 = 18446744073709551616 := by decide
  have e4 : (256 : Nat) ^ 4 = 4294967296 := by decide
  have e2 : (256 : Nat) ^ 2 = 65536 := by decide
  rw [e8] at a2 a3 b3 b4
  rw [e4] at b1
  rw [e2] at b2
  have z8 : (0 : Nat) < 18446744073709551616 := by decide
  have z4 : (0 : Nat) < 4294967296 := by decide
  have z2 : (0 : Nat) < 65536 := by decide
  have nD : ∀ d ∈ ([] : List Drt), d.Ok := fun _ h => by cases h
  have nT : ∀ d ∈ ([] : List Atx), d.Ok := fun _ h => by cases h
  unfold parse
  dsimp only
  split
  · exact ⟨a1, a2, a3, b1, b2, z8, z8, nD, nT, z8, z8⟩
  split
  · exact ⟨a1, a2, a3, z4, z2, z8, z8, nD, nT, z8, z8⟩
  split
  · exact ⟨a1, a2, a3, z4, z2, b3, z8, nD, nT, z8, z8⟩
  split
  · exact ⟨a1, a2, a3, z4, z2, z8, b3, nD, nT, z8, z8⟩
  split
  · exact ⟨a1, a2, a3, z4, z2, z8, z8, getD_ok _ _ _, getT_ok _ _ _, b3, b4⟩
  · exact ⟨a1, a2, a3, z4, z2, z8, z8, nD, nT, z8, z8⟩
theorem parse_small (l : List UInt8) : (parse l).dirty.length ≤ 255 ∧ (parse l).txns.length ≤ 255 ∧ (parse l).body.length ≤ l.length := by
  have a1 := g_lt l 33 1
  have a2 := g_lt l (34 + 12 * g l 33 1) 1
  unfold parse
  dsimp only
  split
  · exact ⟨by simp, by simp, by simp [rest]⟩
  split
  · exact ⟨by simp, by simp, by simp [rest]⟩
  split
  · exact ⟨by simp, by simp, by simp [rest]⟩
  split
  · exact ⟨by simp, by simp, by simp [rest]⟩
  split
  · exact ⟨by rw [getD_length]; omega, by rw [getT_length]; omega, by simp⟩
  · exact ⟨by simp, by simp, by simp⟩
/-- where the last number ends -/
def endp (l : List UInt8) : Nat :=
  if g l 0 1 = 2 then 23 else if g l 0 1 = 6 then 17 else if g l 0 1 = 3 then 25 else if g l 0 1 = 4 then 25 else if g l 0 1 = 8 then 35 + 12 * g l 33 1 + 32 * g l (34 + 12 * g l 33 1) 1 else 17
theorem good_end (l : List UInt8) (h : good l = true) : endp l ≤ l.length := by
  unfold good at h
  simp only [Bool.and_eq_true, decide_eq_true_eq] at h
  obtain ⟨hm, he⟩ := h
  obtain ⟨hb, hr⟩ := may_parts hm
  obtain ⟨hw, hc⟩ := bytes_form hb
  have hl := head_length (parse l)
  have hk := (parse_kind l).1
  have hlen : l.length = (bytes (parse l)).1.length := by
    conv => lhs; rw [← he]
    unfold enc; rw [if_pos hm]
  unfold endp
  rw [← hk]
  rcases hc with ⟨k, e⟩ | ⟨k, e, ho⟩ | ⟨k, e, ho⟩ | ⟨k, e, ho⟩ | ⟨k, e, ho⟩ | ⟨k, e, ho⟩
  · rw [if_neg (by omega), if_neg (by omega), if_neg (by omega), if_neg (by omega), if_neg (by omega), hlen, e, hl]
    omega
  · rw [if_pos k, hlen, e]; simp [hl, PWord.be_length]; omega
  · rw [if_neg (by omega), if_pos k, hlen, e]; simp [hl]
  · rw [if_neg (by omega), if_neg (by omega), if_pos k, hlen, e]; simp [hl, PWord.be_length]; omega
  · rw [if_neg (by omega), if_neg (by omega), if_neg (by omega), if_pos k, hlen, e]; simp [hl, PWord.be_length]; omega
  · rw [if_neg (by omega), if_neg (by omega), if_neg (by omega), if_neg (by omega), if_pos k, hlen, e]
    have h1 := flat_length dirtyB 12 dirtyB_length (parse l).dirty
    have h2 := flat_length txnB 32 txnB_length (parse l).txns
    have hp : (parse l).dirty.length = g l 33 1 ∧ (parse l).txns.length = g l (34 + 12 * g l 33 1) 1 := by
      rw [hk] at k
      unfold parse
      dsimp only
      rw [if_neg (by omega), if_neg (by omega), if_neg (by omega), if_neg (by omega), if_pos k]
      exact ⟨getD_length _ _ _, getT_length _ _ _⟩
    unfold tabs; simp only [List.length_append, hl, PWord.be_length, h1, h2, hp.1, hp.2]; omega
theorem dec_far (l : List UInt8) (h : ¬ endp l ≤ l.length) : dec l = (zero, 7) := by
  have : good l = false := by
    cases hg : good l
    · rfl
    · exact absurd (good_end l hg) h
  unfold dec; rw [this]; rfl
end PRec
