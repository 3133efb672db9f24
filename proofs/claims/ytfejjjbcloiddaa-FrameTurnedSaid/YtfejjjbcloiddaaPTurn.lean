/-
  Bits of a frame that are turned: in its text (told by the sum, just if any was turned), in its LSN, in its sum. Plain lists.
-/
import Derived.Test.YtfejjjbcloiddaaPFrm
namespace PFrm
open PSum PWord
theorem flip_left (l z : List UInt8) (j : Nat) (h : j < 8 * l.length) : flip (l ++ z) j = flip l j ++ z := by
  have h' : j / 8 < l.length := by omega
  unfold PSum.flip
  have e : (l ++ z).getD (j / 8) 0 = l.getD (j / 8) 0 := by simp only [List.getD_eq_getElem?_getD, List.getElem?_append_left h']
  rw [List.set_append_left _ _ h', e]
theorem flip_right (a l : List UInt8) (j : Nat) : flip (a ++ l) (8 * a.length + j) = a ++ flip l j := by
  have h1 : (8 * a.length + j) / 8 = a.length + j / 8 := by omega
  have h2 : (8 * a.length + j) % 8 = j % 8 := by omega
  unfold PSum.flip
  have e : (a ++ l).getD (a.length + j / 8) 0 = l.getD (j / 8) 0 := by simp only [List.getD_eq_getElem?_getD]; rw [List.getElem?_append_right (by omega), Nat.add_sub_cancel_left]
  rw [h1, h2, List.set_append_right _ _ (by omega), e, Nat.add_sub_cancel_left]
theorem turned_left (l z : List UInt8) (k : Nat) (x : W) (i : Nat) (h : k + i ≤ 8 * l.length) : turned (l ++ z) k x i = turned l k x i ++ z := by
  induction i with
  | zero => rfl
  | succ i ih =>
    simp only [turned]
    rw [ih (by omega)]
    split
    · rw [flip_left _ _ _ (by rw [turned_length]; omega)]
    · rfl
theorem turned_right (a l : List UInt8) (k : Nat) (x : W) (i : Nat) : turned (a ++ l) (8 * a.length + k) x i = a ++ turned l k x i := by
  induction i with
  | zero => rfl
  | succ i ih =>
    simp only [turned]
    rw [ih]
    split
    · rw [Nat.add_assoc, flip_right]
    · rfl
theorem xor_right {a b c : W} : a ^^^ c = b ^^^ c ↔ a = b := by
  constructor
  · intro h
    have := congrArg (· ^^^ c) h
    simpa [BitVec.xor_assoc] using this
  · rintro rfl; rfl
theorem stepN_inj (n : Nat) {a b : W} : stepN n a = stepN n b ↔ a = b := by
  constructor
  · intro h
    have h2 : stepN n (a ^^^ b) = 0 := by rw [stepN_xor, h]; simp
    have := stepN_eq_zero n h2
    have h3 := congrArg (· ^^^ b) this
    simpa [BitVec.xor_assoc] using h3
  · rintro rfl; rfl
theorem run_turned_iff (c : W) (l : List UInt8) (k : Nat) (x : W) (m : Nat) (hm : m ≤ 32) (hk : k + m ≤ 8 * l.length) :
    run c (turned l k x m) = run c l ↔ lowBits x m = 0 := by
  have h := run_turned c (l ++ [0, 0, 0, 0]) k x m hm (by simp; omega) (by simp; omega)
  rw [turned_left _ _ _ _ _ hk, run_append, run_append, run4, run4] at h
  constructor
  · intro e
    rw [e] at h
    refine stepN_eq_zero (8 * (l ++ [0, 0, 0, 0]).length - k) ?_
    have := congrArg (· ^^^ stepN 32 (run c l ^^^ word4 0 0 0 0)) h
    simp only [BitVec.xor_self] at this
    rw [BitVec.xor_comm, ← BitVec.xor_assoc, BitVec.xor_self, BitVec.zero_xor] at this
    exact this.symm
  · intro e
    rw [e, stepN_zero, show ∀ y : W, y ^^^ 0 = y from fun y => BitVec.xor_zero, stepN_inj, xor_right] at h
    exact h
theorem flip_ne (l : List UInt8) (j : Nat) (hj : j < 8 * l.length) : flip l j ≠ l := by
  intro h
  have e := run_flip 0 l j hj
  rw [h] at e
  have : stepN (8 * l.length - j) 1#32 = 0 := by
    have := congrArg (run 0 l ^^^ ·) e
    simp only [BitVec.xor_self] at this
    rw [← BitVec.xor_assoc, BitVec.xor_self, BitVec.zero_xor] at this
    exact this.symm
  have := stepN_eq_zero _ this
  exact absurd this (by decide)
theorem le4_inj {c d : W} : le4 c = le4 d ↔ c = d := by
  constructor
  · intro h
    obtain ⟨a, b, e, f, h1, h2⟩ := word4_le4 c
    obtain ⟨a', b', e', f', h1', h2'⟩ := word4_le4 d
    rw [h1, h1'] at h
    simp only [List.cons.injEq, and_true] at h
    obtain ⟨rfl, rfl, rfl, rfl⟩ := h
    rw [← h2, h2']
  · rintro rfl; rfl
theorem tail4_turned (h s : List UInt8) (k : Nat) (x : W) (m : Nat) (hm : m ≤ 32) (hk : k + m ≤ 8 * s.length) :
    tail4 h (turned s k x m) = tail4 h s ↔ lowBits x m = 0 := by
  unfold tail4 PSum.of PSum.more
  rw [le4_inj, run_append, run_append]
  constructor
  · intro e
    have e2 := congrArg (~~~ ·) e
    simp only [BitVec.not_not] at e2
    exact (run_turned_iff _ s k x m hm hk).1 e2
  · intro e
    rw [(run_turned_iff _ s k x m hm hk).2 e]
theorem decode_parts (A t T : List UInt8) (l : Nat) (hA : A.length = 8) (ht : t.length = 4) (h1 : 1 ≤ T.length) (h2 : T.length ≤ 4096) (hl : l ≠ 0) :
    decode (be 2 T.length ++ A ++ t ++ T) l = if val A ≠ l then ([], 0, 7) else if tail4 (be 2 T.length ++ A) T ≠ t then ([], 0, 100) else (T, 14 + (T.length : Int), 0) := by
  have hb := be_length 2 T.length
  have e1 : (be 2 T.length ++ A ++ t ++ T).take 2 = be 2 T.length := by rw [List.append_assoc, List.append_assoc, List.take_left' hb]
  have e2 : ((be 2 T.length ++ A ++ t ++ T).drop 2).take 8 = A := by rw [List.append_assoc, List.append_assoc, List.drop_left' hb, List.take_left' hA]
  have e3 : (be 2 T.length ++ A ++ t ++ T).take 10 = be 2 T.length ++ A := by rw [List.append_assoc _ t T, List.take_left' (by simp [hb, hA])]
  have e4 : ((be 2 T.length ++ A ++ t ++ T).drop 10).take 4 = t := by rw [List.append_assoc _ t T, List.drop_left' (by simp [hb, hA]), List.take_left' ht]
  have e5 : (be 2 T.length ++ A ++ t ++ T).drop 14 = T := by rw [List.drop_left' (by simp [hb, hA, ht])]
  have hlen : (be 2 T.length ++ A ++ t ++ T).length = T.length + 14 := by simp [hb, hA, ht]; omega
  unfold decode
  rw [e1, e2, e3, e4, e5, val_be2 _ h2, hlen, if_neg (by omega)]
  by_cases e : val A = l
  · rw [if_neg (by omega), if_neg (by omega), if_neg (Decidable.not_not.2 e), List.take_length]
  · rw [if_pos (by omega), if_pos e]
theorem lowBits_zero (x m : Nat) (hx : x < 4294967296) : lowBits (BitVec.ofNat 32 x) m = 0 ↔ x % 2 ^ m = 0 := by
  unfold lowBits
  have h1 : (BitVec.ofNat 32 x).toNat = x := by rw [BitVec.toNat_ofNat]; exact Nat.mod_eq_of_lt hx
  rw [h1]
  have h2 : x % 2 ^ m < 4294967296 := Nat.lt_of_le_of_lt (Nat.mod_le _ _) hx
  constructor
  · intro h
    have := congrArg BitVec.toNat h
    rw [BitVec.toNat_ofNat, Nat.mod_eq_of_lt h2] at this
    exact this
  · intro h; rw [h]; rfl
/-- Bits of the text turned. -/
theorem decode_text (lsn : Nat) (s : List UInt8) (k x m : Nat) (hm : may lsn s = true) (hl : lsn < 18446744073709551616) (h32 : m ≤ 32) (hx : x < 4294967296) (hk : k + m ≤ 8 * s.length) :
    (decode (turned (frame lsn s) (112 + k) (BitVec.ofNat 32 x) m) lsn).2.2 = if x % 2 ^ m = 0 then 0 else 100 := by
  obtain ⟨h1, h2, h3⟩ := (may_iff lsn s).1 hm
  have hT := turned_length s k (BitVec.ofNat 32 x) m
  have e : turned (frame lsn s) (112 + k) (BitVec.ofNat 32 x) m = be 2 (turned s k (BitVec.ofNat 32 x) m).length ++ be 8 lsn ++ tail4 (head lsn s) s ++ turned s k (BitVec.ofNat 32 x) m := by
    rw [hT]
    have := turned_right (head lsn s ++ tail4 (head lsn s) s) s k (BitVec.ofNat 32 x) m
    rw [show (head lsn s ++ tail4 (head lsn s) s).length = 14 by simp [head_length, tail4_length]] at this
    unfold frame
    rw [show 112 + k = 8 * 14 + k by omega, this]
    unfold head; rfl
  rw [e, decode_parts _ _ _ _ (be_length 8 _) (tail4_length _ _) (by omega) (by omega) h3, if_neg (Decidable.not_not.2 (val_be8 _ hl)), hT]
  have := tail4_turned (head lsn s) s k (BitVec.ofNat 32 x) m h32 hk
  rw [lowBits_zero x m hx] at this
  rw [show be 2 s.length ++ be 8 lsn = head lsn s from rfl]
  by_cases c : x % 2 ^ m = 0
  · rw [if_pos c, if_neg (Decidable.not_not.2 (this.2 c))]
  · rw [if_neg c, if_pos (fun h => c (this.1 h))]
/-- A bit of the LSN, or of the sum, turned. -/
theorem decode_head (lsn : Nat) (s : List UInt8) (j : Nat) (hm : may lsn s = true) (hl : lsn < 18446744073709551616) (hj : j < 96) :
    (decode (flip (frame lsn s) (16 + j)) lsn).2.2 = if j < 64 then 7 else 100 := by
  obtain ⟨h1, h2, h3⟩ := (may_iff lsn s).1 hm
  have hb2 := be_length 2 s.length
  have hb8 := be_length 8 lsn
  by_cases c : j < 64
  · have hne := flip_ne (be 8 lsn) j (by omega)
    have e : flip (frame lsn s) (16 + j) = be 2 s.length ++ flip (be 8 lsn) j ++ tail4 (head lsn s) s ++ s := by
      have := flip_right (be 2 s.length) (be 8 lsn ++ (tail4 (head lsn s) s ++ s)) j
      rw [hb2, flip_left (be 8 lsn) _ _ (by omega)] at this
      unfold frame head
      rw [show 16 + j = 8 * 2 + j by omega]
      simp only [List.append_assoc] at this ⊢
      exact this
    rw [e, decode_parts _ _ _ _ (by rw [flip_length, hb8]) (tail4_length _ _) (by omega) (by omega) h3, if_pos c, if_pos]
    intro h
    apply hne
    rw [← be_val 8 (flip (be 8 lsn) j) (by rw [flip_length, hb8]), h]
  · have hne := flip_ne (tail4 (head lsn s) s) (j - 64) (by rw [tail4_length]; omega)
    have e : flip (frame lsn s) (16 + j) = be 2 s.length ++ be 8 lsn ++ flip (tail4 (head lsn s) s) (j - 64) ++ s := by
      have := flip_right (be 2 s.length ++ be 8 lsn) (tail4 (head lsn s) s ++ s) (j - 64)
      rw [List.length_append, hb2, hb8, flip_left (tail4 (head lsn s) s) _ _ (by rw [tail4_length]; omega)] at this
      unfold frame head at *
      rw [show 16 + j = 8 * (2 + 8) + (j - 64) by omega]
      simp only [List.append_assoc] at this ⊢
      exact this
    rw [e, decode_parts _ _ _ _ hb8 (by rw [flip_length, tail4_length]) (by omega) (by omega) h3, if_neg c, if_neg (Decidable.not_not.2 (val_be8 _ hl)), if_pos]
    intro h
    exact hne h.symm
end PFrm
