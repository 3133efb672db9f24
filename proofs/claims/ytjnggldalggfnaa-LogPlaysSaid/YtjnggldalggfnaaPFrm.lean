/-
  Plain: frames of records, no program in sight.
-/
import Derived.Test.YtjnggldalggfnaaPlain
namespace PFrm
open PSum PWord
def size (n : Int) : Int := if n < 1 ∨ n > 4096 then 0 else 14 + n
def tail4 (h s : List UInt8) : List UInt8 := le4 (PSum.of (h ++ s))
def may (lsn : Nat) (s : List UInt8) : Bool := decide (1 ≤ s.length) && decide (s.length ≤ 4096) && decide (lsn ≠ 0)
def head (lsn : Nat) (s : List UInt8) : List UInt8 := be 2 s.length ++ be 8 lsn
def frame (lsn : Nat) (s : List UInt8) : List UInt8 := head lsn s ++ tail4 (head lsn s) s ++ s
def encode (lsn : Nat) (s : List UInt8) : List UInt8 × Int := if may lsn s then (frame lsn s, 0) else ([], 2)
def decode (s : List UInt8) (lsn : Nat) : List UInt8 × Int × Int :=
  if s.length < 14 then ([], 0, 6)
  else if val (s.take 2) < 1 ∨ val (s.take 2) > 4096 ∨ val ((s.drop 2).take 8) ≠ lsn ∨ lsn = 0 then ([], 0, 7)
  else if s.length < 14 + val (s.take 2) then ([], 0, 6)
  else if tail4 (s.take 10) ((s.drop 14).take (val (s.take 2))) ≠ (s.drop 10).take 4 then ([], 0, 100)
  else ((s.drop 14).take (val (s.take 2)), 14 + (val (s.take 2) : Int), 0)
theorem tail4_length (h s : List UInt8) : (tail4 h s).length = 4 := rfl
theorem head_length (lsn : Nat) (s : List UInt8) : (head lsn s).length = 10 := by simp [head, be_length]
theorem frame_length (lsn : Nat) (s : List UInt8) : (frame lsn s).length = s.length + 14 := by
  simp [frame, head_length, tail4_length]; omega
theorem may_iff (lsn : Nat) (s : List UInt8) : may lsn s = true ↔ 1 ≤ s.length ∧ s.length ≤ 4096 ∧ lsn ≠ 0 := by simp [may, and_assoc]
theorem sealL_drop (h s : List UInt8) : (sealL (h ++ s)).drop ((sealL (h ++ s)).length - 4) = tail4 h s := by
  rw [seal_length]; unfold sealL tail4
  rw [List.drop_left' (by omega)]
/-- What stands at the head of a frame, whatever is behind it. -/
theorem frame_take2 (lsn : Nat) (s b : List UInt8) : (frame lsn s ++ b).take 2 = be 2 s.length := by
  unfold frame head
  simp only [List.append_assoc]
  rw [List.take_left' (be_length 2 _)]
theorem frame_take8 (lsn : Nat) (s b : List UInt8) : ((frame lsn s ++ b).drop 2).take 8 = be 8 lsn := by
  unfold frame head
  simp only [List.append_assoc]
  rw [List.drop_left' (be_length 2 _), List.take_left' (be_length 8 _)]
theorem frame_take10 (lsn : Nat) (s b : List UInt8) : (frame lsn s ++ b).take 10 = head lsn s := by
  unfold frame
  simp only [List.append_assoc]
  rw [List.take_left' (head_length _ _)]
theorem frame_sum (lsn : Nat) (s b : List UInt8) : ((frame lsn s ++ b).drop 10).take 4 = tail4 (head lsn s) s := by
  unfold frame
  simp only [List.append_assoc]
  rw [List.drop_left' (head_length _ _), List.take_left' (tail4_length _ _)]
theorem frame_drop14 (lsn : Nat) (s b : List UInt8) : (frame lsn s ++ b).drop 14 = s ++ b := by
  unfold frame
  rw [List.append_assoc, List.append_assoc, ← List.append_assoc, List.drop_left' (by simp [head_length, tail4_length])]
theorem val_be2 (n : Nat) (h : n ≤ 4096) : val (be 2 n) = n := by
  rw [val_be]; exact Nat.mod_eq_of_lt (by have : (256 : Nat) ^ 2 = 65536 := rfl; omega)
theorem val_be8 (n : Nat) (h : n < 18446744073709551616) : val (be 8 n) = n := by
  rw [val_be]; exact Nat.mod_eq_of_lt (by have : (256 : Nat) ^ 8 = 18446744073709551616 := rfl; omega)
/-- A frame is read, whatever stands behind it; at another LSN it is not. -/
theorem decode_frame (lsn l : Nat) (s b : List UInt8) (hm : may lsn s = true) (hl : lsn < 18446744073709551616) :
    decode (frame lsn s ++ b) l = if l = lsn then (s, 14 + (s.length : Int), 0) else ([], 0, 7) := by
  obtain ⟨h1, h2, h3⟩ := (may_iff lsn s).1 hm
  have hlen : (frame lsn s ++ b).length = s.length + 14 + b.length := by rw [List.length_append, frame_length]
  unfold decode
  rw [frame_take2, frame_take8, frame_take10, frame_sum, frame_drop14, val_be2 _ h2, val_be8 _ hl, hlen]
  rw [if_neg (by omega)]
  by_cases e : l = lsn
  · subst e
    rw [if_neg (by omega), if_neg (by omega), List.take_left' rfl, if_neg (by simp), if_pos rfl]
  · rw [if_pos (by omega), if_neg e]
theorem frame_inj (a b : Nat) (s t : List UInt8) (ha : may a s = true) (hb : may b t = true) (hla : a < 18446744073709551616) (hlb : b < 18446744073709551616) (h : frame a s = frame b t) : a = b ∧ s = t := by
  have h1 := decode_frame a a s [] ha hla
  have h2 := decode_frame b a t [] hb hlb
  rw [h, if_pos rfl] at h1
  rw [h1] at h2
  by_cases e : a = b
  · rw [if_pos e] at h2
    exact ⟨e, (Prod.mk.inj h2).1⟩
  · rw [if_neg e] at h2
    have := (Prod.mk.inj (Prod.mk.inj h2).2).2
    exact absurd this (by decide)
end PFrm
