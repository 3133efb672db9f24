/-
  FrameTells: the ways of bytes as they are.
-/
import Derived.Test.YtfejjjbcloiddaaTells
import Derived.Test.YtfejjjbcloiddaaWorks
import Derived.Test.YtfejjjbcloiddaaLaw10
namespace Go.Proofs.Ytfejjjbcloiddaa
open Go.RowKit
theorem mk_back' (S : ByteArray) : (⟨S.data.toList.toArray⟩ : ByteArray) = S := by simp
set_option maxRecDepth 100000 in
set_option maxHeartbeats 4000000 in
theorem frameTells_not (own : Bool) (lsn : Nat) (text s : ByteArray) (pa pt : Option Addr) (ca ct : Nat) (az tz : List Int) (n : Int) (hl : lsn < 18446744073709551616) (ht : text.size ≤ 8192) (hs : s.size ≤ 4096) (w : World) (hal : az.length ≤ 8) (htl : tz.length ≤ 8) (hn1 : -9223372036854775808 ≤ n) (hn2 : n ≤ 9223372036854775807) (hen0 : PFrm.encode lsn text.data.toList = ([], 2)) :
    Calls Try.prog 5 #[.int .u64 lsn, .string text, .string s, .bool own, .slice pa az.length ca, .slice pt tz.length ct, .int .i64 n] w fun e w' => e = .returned (.bool true) ∧ Below w.heap.size w w' := by
  have hen := Lib.hid hen0
  have htm : Hid (text.size ≤ maxLen) := Lib.hid (by unfold maxLen; omega)
  have hB := Below.refl w.heap.size w
  have hncase : (n < 1) ∨ (1 ≤ n ∧ 4096 < n) ∨ (1 ≤ n ∧ n ≤ 4096) := by omega
  clear hen0
  cases own
  · rcases hncase with hn | ⟨hn, hn'⟩ | ⟨hn, hn'⟩
    · have hsz : Hid (PFrm.size n = 0) := by unfold Hid PFrm.size; rw [if_pos (by omega)]
      go_enter Try.func5, Try.ntmps5
      go_wp2_with fail
      refine (encode_any lsn text hl htm.out _).mono ?_; rintro e w1 ⟨rfl, hb⟩; replace hB := hB.step hb; clear hb
      rw [hen.out]
      go_wp2_with fail
      refine (rencode_any lsn text hl htm.out _).mono ?_; rintro e w2 ⟨rfl, hb⟩; replace hB := hB.step hb; clear hb
      rw [hen.out]
      go_wp2_with fail
      refine (decode_any s lsn hl (by unfold maxLen; omega) _).mono ?_; rintro e w3 ⟨rfl, hb⟩; replace hB := hB.step hb; clear hb
      go_wp2_with fail
      refine (rdecode_any s lsn hl (by unfold maxLen; omega) _).mono ?_; rintro e w4 ⟨rfl, hb⟩; replace hB := hB.step hb; clear hb
      go_wp2_with fail
      refine (scan_any s lsn hl (by omega) _).mono ?_; rintro e w5 ⟨v1, rfl, hs1, hb⟩; replace hB := hB.step hb; clear hb
      go_wp2_with fail
      refine (rscan_any s lsn hl (by omega) _).mono ?_; rintro e w6 ⟨v2, rfl, hs2, hb⟩; replace hB := hB.step hb
      have hr1 := (Rd.of_sl hs1).below hb
      have hr2 := Rd.of_sl hs2
      clear hb hs1 hs2
      go_wp2_with fail
      refine (texts_same _ _ _ _ hr1 hr2).mono ?_; rintro e w7 ⟨rfl, hb⟩; replace hB := hB.step hb; clear hb hr1 hr2
      go_wp2_with fail
      refine (fsize_any n (by omega) (by omega) _).mono ?_; rintro e w8 ⟨rfl, rfl⟩
      rw [hsz.out]
      go_wp2_with fail
      refine (works10_any _).mono ?_; rintro e w9 ⟨rfl, hb⟩; replace hB := hB.step hb; clear hb
      go_wp2
      go_ret
      exact ⟨rfl, hB⟩
    · have hsz : Hid (PFrm.size n = 0) := by unfold Hid PFrm.size; rw [if_pos (by omega)]
      go_enter Try.func5, Try.ntmps5
      go_wp2_with fail
      refine (encode_any lsn text hl htm.out _).mono ?_; rintro e w1 ⟨rfl, hb⟩; replace hB := hB.step hb; clear hb
      rw [hen.out]
      go_wp2_with fail
      refine (rencode_any lsn text hl htm.out _).mono ?_; rintro e w2 ⟨rfl, hb⟩; replace hB := hB.step hb; clear hb
      rw [hen.out]
      go_wp2_with fail
      refine (decode_any s lsn hl (by unfold maxLen; omega) _).mono ?_; rintro e w3 ⟨rfl, hb⟩; replace hB := hB.step hb; clear hb
      go_wp2_with fail
      refine (rdecode_any s lsn hl (by unfold maxLen; omega) _).mono ?_; rintro e w4 ⟨rfl, hb⟩; replace hB := hB.step hb; clear hb
      go_wp2_with fail
      refine (scan_any s lsn hl (by omega) _).mono ?_; rintro e w5 ⟨v1, rfl, hs1, hb⟩; replace hB := hB.step hb; clear hb
      go_wp2_with fail
      refine (rscan_any s lsn hl (by omega) _).mono ?_; rintro e w6 ⟨v2, rfl, hs2, hb⟩; replace hB := hB.step hb
      have hr1 := (Rd.of_sl hs1).below hb
      have hr2 := Rd.of_sl hs2
      clear hb hs1 hs2
      go_wp2_with fail
      refine (texts_same _ _ _ _ hr1 hr2).mono ?_; rintro e w7 ⟨rfl, hb⟩; replace hB := hB.step hb; clear hb hr1 hr2
      go_wp2_with fail
      refine (fsize_any n (by omega) (by omega) _).mono ?_; rintro e w8 ⟨rfl, rfl⟩
      rw [hsz.out]
      go_wp2_with fail
      refine (works10_any _).mono ?_; rintro e w9 ⟨rfl, hb⟩; replace hB := hB.step hb; clear hb
      go_wp2
      go_ret
      exact ⟨rfl, hB⟩
    · have hsz : Hid (PFrm.size n = n + 14) := by unfold Hid PFrm.size; rw [if_neg (by omega)]; omega
      go_enter Try.func5, Try.ntmps5
      go_wp2_with fail
      refine (encode_any lsn text hl htm.out _).mono ?_; rintro e w1 ⟨rfl, hb⟩; replace hB := hB.step hb; clear hb
      rw [hen.out]
      go_wp2_with fail
      refine (rencode_any lsn text hl htm.out _).mono ?_; rintro e w2 ⟨rfl, hb⟩; replace hB := hB.step hb; clear hb
      rw [hen.out]
      go_wp2_with fail
      refine (decode_any s lsn hl (by unfold maxLen; omega) _).mono ?_; rintro e w3 ⟨rfl, hb⟩; replace hB := hB.step hb; clear hb
      go_wp2_with fail
      refine (rdecode_any s lsn hl (by unfold maxLen; omega) _).mono ?_; rintro e w4 ⟨rfl, hb⟩; replace hB := hB.step hb; clear hb
      go_wp2_with fail
      refine (scan_any s lsn hl (by omega) _).mono ?_; rintro e w5 ⟨v1, rfl, hs1, hb⟩; replace hB := hB.step hb; clear hb
      go_wp2_with fail
      refine (rscan_any s lsn hl (by omega) _).mono ?_; rintro e w6 ⟨v2, rfl, hs2, hb⟩; replace hB := hB.step hb
      have hr1 := (Rd.of_sl hs1).below hb
      have hr2 := Rd.of_sl hs2
      clear hb hs1 hs2
      go_wp2_with fail
      refine (texts_same _ _ _ _ hr1 hr2).mono ?_; rintro e w7 ⟨rfl, hb⟩; replace hB := hB.step hb; clear hb hr1 hr2
      go_wp2_with fail
      refine (fsize_any n (by omega) (by omega) _).mono ?_; rintro e w8 ⟨rfl, rfl⟩
      rw [hsz.out]
      go_wp2_with fail
      refine (works10_any _).mono ?_; rintro e w9 ⟨rfl, hb⟩; replace hB := hB.step hb; clear hb
      go_wp2
      go_ret
      exact ⟨rfl, hB⟩
  · rcases hncase with hn | ⟨hn, hn'⟩ | ⟨hn, hn'⟩
    · have hsz : Hid (PFrm.size n = 0) := by unfold Hid PFrm.size; rw [if_pos (by omega)]
      go_enter Try.func5, Try.ntmps5
      go_wp2_with fail
      refine (encode_any lsn text hl htm.out _).mono ?_; rintro e w1 ⟨rfl, hb⟩; replace hB := hB.step hb; clear hb
      rw [hen.out]
      go_wp2_with fail
      refine (rencode_any lsn text hl htm.out _).mono ?_; rintro e w2 ⟨rfl, hb⟩; replace hB := hB.step hb; clear hb
      rw [hen.out]
      go_wp2_with fail
      refine (decode_any s lsn hl (by unfold maxLen; omega) _).mono ?_; rintro e w3 ⟨rfl, hb⟩; replace hB := hB.step hb; clear hb
      go_wp2_with fail
      refine (rdecode_any s lsn hl (by unfold maxLen; omega) _).mono ?_; rintro e w4 ⟨rfl, hb⟩; replace hB := hB.step hb; clear hb
      go_wp2_with fail
      refine (scan_any s lsn hl (by omega) _).mono ?_; rintro e w5 ⟨v1, rfl, hs1, hb⟩; replace hB := hB.step hb; clear hb
      go_wp2_with fail
      refine (rscan_any s lsn hl (by omega) _).mono ?_; rintro e w6 ⟨v2, rfl, hs2, hb⟩; replace hB := hB.step hb
      have hr1 := (Rd.of_sl hs1).below hb
      have hr2 := Rd.of_sl hs2
      clear hb hs1 hs2
      go_wp2_with fail
      refine (texts_same _ _ _ _ hr1 hr2).mono ?_; rintro e w7 ⟨rfl, hb⟩; replace hB := hB.step hb; clear hb hr1 hr2
      go_wp2_with fail
      refine (fsize_any n (by omega) (by omega) _).mono ?_; rintro e w8 ⟨rfl, rfl⟩
      rw [hsz.out]
      go_wp2_with fail
      refine (works10_any _).mono ?_; rintro e w9 ⟨rfl, hb⟩; replace hB := hB.step hb; clear hb
      go_wp2
      go_ret
      exact ⟨rfl, hB⟩
    · have hsz : Hid (PFrm.size n = 0) := by unfold Hid PFrm.size; rw [if_pos (by omega)]
      go_enter Try.func5, Try.ntmps5
      go_wp2_with fail
      refine (encode_any lsn text hl htm.out _).mono ?_; rintro e w1 ⟨rfl, hb⟩; replace hB := hB.step hb; clear hb
      rw [hen.out]
      go_wp2_with fail
      refine (rencode_any lsn text hl htm.out _).mono ?_; rintro e w2 ⟨rfl, hb⟩; replace hB := hB.step hb; clear hb
      rw [hen.out]
      go_wp2_with fail
      refine (decode_any s lsn hl (by unfold maxLen; omega) _).mono ?_; rintro e w3 ⟨rfl, hb⟩; replace hB := hB.step hb; clear hb
      go_wp2_with fail
      refine (rdecode_any s lsn hl (by unfold maxLen; omega) _).mono ?_; rintro e w4 ⟨rfl, hb⟩; replace hB := hB.step hb; clear hb
      go_wp2_with fail
      refine (scan_any s lsn hl (by omega) _).mono ?_; rintro e w5 ⟨v1, rfl, hs1, hb⟩; replace hB := hB.step hb; clear hb
      go_wp2_with fail
      refine (rscan_any s lsn hl (by omega) _).mono ?_; rintro e w6 ⟨v2, rfl, hs2, hb⟩; replace hB := hB.step hb
      have hr1 := (Rd.of_sl hs1).below hb
      have hr2 := Rd.of_sl hs2
      clear hb hs1 hs2
      go_wp2_with fail
      refine (texts_same _ _ _ _ hr1 hr2).mono ?_; rintro e w7 ⟨rfl, hb⟩; replace hB := hB.step hb; clear hb hr1 hr2
      go_wp2_with fail
      refine (fsize_any n (by omega) (by omega) _).mono ?_; rintro e w8 ⟨rfl, rfl⟩
      rw [hsz.out]
      go_wp2_with fail
      refine (works10_any _).mono ?_; rintro e w9 ⟨rfl, hb⟩; replace hB := hB.step hb; clear hb
      go_wp2
      go_ret
      exact ⟨rfl, hB⟩
    · have hsz : Hid (PFrm.size n = n + 14) := by unfold Hid PFrm.size; rw [if_neg (by omega)]; omega
      go_enter Try.func5, Try.ntmps5
      go_wp2_with fail
      refine (encode_any lsn text hl htm.out _).mono ?_; rintro e w1 ⟨rfl, hb⟩; replace hB := hB.step hb; clear hb
      rw [hen.out]
      go_wp2_with fail
      refine (rencode_any lsn text hl htm.out _).mono ?_; rintro e w2 ⟨rfl, hb⟩; replace hB := hB.step hb; clear hb
      rw [hen.out]
      go_wp2_with fail
      refine (decode_any s lsn hl (by unfold maxLen; omega) _).mono ?_; rintro e w3 ⟨rfl, hb⟩; replace hB := hB.step hb; clear hb
      go_wp2_with fail
      refine (rdecode_any s lsn hl (by unfold maxLen; omega) _).mono ?_; rintro e w4 ⟨rfl, hb⟩; replace hB := hB.step hb; clear hb
      go_wp2_with fail
      refine (scan_any s lsn hl (by omega) _).mono ?_; rintro e w5 ⟨v1, rfl, hs1, hb⟩; replace hB := hB.step hb; clear hb
      go_wp2_with fail
      refine (rscan_any s lsn hl (by omega) _).mono ?_; rintro e w6 ⟨v2, rfl, hs2, hb⟩; replace hB := hB.step hb
      have hr1 := (Rd.of_sl hs1).below hb
      have hr2 := Rd.of_sl hs2
      clear hb hs1 hs2
      go_wp2_with fail
      refine (texts_same _ _ _ _ hr1 hr2).mono ?_; rintro e w7 ⟨rfl, hb⟩; replace hB := hB.step hb; clear hb hr1 hr2
      go_wp2_with fail
      refine (fsize_any n (by omega) (by omega) _).mono ?_; rintro e w8 ⟨rfl, rfl⟩
      rw [hsz.out]
      go_wp2_with fail
      refine (works10_any _).mono ?_; rintro e w9 ⟨rfl, hb⟩; replace hB := hB.step hb; clear hb
      go_wp2
      go_ret
      exact ⟨rfl, hB⟩
set_option maxRecDepth 100000 in
set_option maxHeartbeats 4000000 in
theorem frameTells_by (lsn : Nat) (text s S : ByteArray) (pa pt : Option Addr) (ca ct : Nat) (az tz : List Int) (n : Int) (hl : lsn < 18446744073709551616) (ht : text.size ≤ 8192) (hs : s.size ≤ 4096) (w : World) (hal : az.length ≤ 8) (htl : tz.length ≤ 8) (hn1 : -9223372036854775808 ≤ n) (hn2 : n ≤ 9223372036854775807) (hen0 : PFrm.encode lsn text.data.toList = (S.data.toList, 0)) (hne : S.toList.isEmpty = false) (_ : S.size ≤ 9000) :
    Calls Try.prog 5 #[.int .u64 lsn, .string text, .string s, .bool false, .slice pa az.length ca, .slice pt tz.length ct, .int .i64 n] w fun e w' => e = .returned (.bool true) ∧ Below w.heap.size w w' := by
  have hen2 := Lib.hid hen0
  have htm : Hid (text.size ≤ maxLen) := Lib.hid (by unfold maxLen; omega)
  have hB := Below.refl w.heap.size w
  have hncase : (n < 1) ∨ (1 ≤ n ∧ 4096 < n) ∨ (1 ≤ n ∧ n ≤ 4096) := by omega
  clear hen0
  rcases hncase with hn | ⟨hn, hn'⟩ | ⟨hn, hn'⟩
  · have hsz : Hid (PFrm.size n = 0) := by unfold Hid PFrm.size; rw [if_pos (by omega)]
    go_enter Try.func5, Try.ntmps5
    go_wp2_with fail
    refine (encode_any lsn text hl htm.out _).mono ?_; rintro e w1 ⟨rfl, hb⟩; replace hB := hB.step hb; clear hb
    rw [hen2.out, mk_back']
    go_wp2_with fail
    refine (rencode_any lsn text hl htm.out _).mono ?_; rintro e w2 ⟨rfl, hb⟩; replace hB := hB.step hb; clear hb
    rw [hen2.out, mk_back']
    go_wp2_with fail
    refine (decode_any s lsn hl (by unfold maxLen; omega) _).mono ?_; rintro e w3 ⟨rfl, hb⟩; replace hB := hB.step hb; clear hb
    go_wp2_with fail
    refine (rdecode_any s lsn hl (by unfold maxLen; omega) _).mono ?_; rintro e w4 ⟨rfl, hb⟩; replace hB := hB.step hb; clear hb
    go_wp2_with fail
    refine (scan_any s lsn hl (by omega) _).mono ?_; rintro e w5 ⟨v1, rfl, hs1, hb⟩; replace hB := hB.step hb; clear hb
    go_wp2_with fail
    refine (rscan_any s lsn hl (by omega) _).mono ?_; rintro e w6 ⟨v2, rfl, hs2, hb⟩; replace hB := hB.step hb
    have hr1 := (Rd.of_sl hs1).below hb
    have hr2 := Rd.of_sl hs2
    clear hb hs1 hs2
    go_wp2_with fail
    refine (texts_same _ _ _ _ hr1 hr2).mono ?_; rintro e w7 ⟨rfl, hb⟩; replace hB := hB.step hb; clear hb hr1 hr2
    go_wp2_with fail
    refine (fsize_any n (by omega) (by omega) _).mono ?_; rintro e w8 ⟨rfl, rfl⟩
    rw [hsz.out]
    go_wp2_with fail
    refine (works10_any _).mono ?_; rintro e w9 ⟨rfl, hb⟩; replace hB := hB.step hb; clear hb
    go_wp2
    go_ret
    exact ⟨rfl, hB⟩
  · have hsz : Hid (PFrm.size n = 0) := by unfold Hid PFrm.size; rw [if_pos (by omega)]
    go_enter Try.func5, Try.ntmps5
    go_wp2_with fail
    refine (encode_any lsn text hl htm.out _).mono ?_; rintro e w1 ⟨rfl, hb⟩; replace hB := hB.step hb; clear hb
    rw [hen2.out, mk_back']
    go_wp2_with fail
    refine (rencode_any lsn text hl htm.out _).mono ?_; rintro e w2 ⟨rfl, hb⟩; replace hB := hB.step hb; clear hb
    rw [hen2.out, mk_back']
    go_wp2_with fail
    refine (decode_any s lsn hl (by unfold maxLen; omega) _).mono ?_; rintro e w3 ⟨rfl, hb⟩; replace hB := hB.step hb; clear hb
    go_wp2_with fail
    refine (rdecode_any s lsn hl (by unfold maxLen; omega) _).mono ?_; rintro e w4 ⟨rfl, hb⟩; replace hB := hB.step hb; clear hb
    go_wp2_with fail
    refine (scan_any s lsn hl (by omega) _).mono ?_; rintro e w5 ⟨v1, rfl, hs1, hb⟩; replace hB := hB.step hb; clear hb
    go_wp2_with fail
    refine (rscan_any s lsn hl (by omega) _).mono ?_; rintro e w6 ⟨v2, rfl, hs2, hb⟩; replace hB := hB.step hb
    have hr1 := (Rd.of_sl hs1).below hb
    have hr2 := Rd.of_sl hs2
    clear hb hs1 hs2
    go_wp2_with fail
    refine (texts_same _ _ _ _ hr1 hr2).mono ?_; rintro e w7 ⟨rfl, hb⟩; replace hB := hB.step hb; clear hb hr1 hr2
    go_wp2_with fail
    refine (fsize_any n (by omega) (by omega) _).mono ?_; rintro e w8 ⟨rfl, rfl⟩
    rw [hsz.out]
    go_wp2_with fail
    refine (works10_any _).mono ?_; rintro e w9 ⟨rfl, hb⟩; replace hB := hB.step hb; clear hb
    go_wp2
    go_ret
    exact ⟨rfl, hB⟩
  · have hsz : Hid (PFrm.size n = n + 14) := by unfold Hid PFrm.size; rw [if_neg (by omega)]; omega
    go_enter Try.func5, Try.ntmps5
    go_wp2_with fail
    refine (encode_any lsn text hl htm.out _).mono ?_; rintro e w1 ⟨rfl, hb⟩; replace hB := hB.step hb; clear hb
    rw [hen2.out, mk_back']
    go_wp2_with fail
    refine (rencode_any lsn text hl htm.out _).mono ?_; rintro e w2 ⟨rfl, hb⟩; replace hB := hB.step hb; clear hb
    rw [hen2.out, mk_back']
    go_wp2_with fail
    refine (decode_any s lsn hl (by unfold maxLen; omega) _).mono ?_; rintro e w3 ⟨rfl, hb⟩; replace hB := hB.step hb; clear hb
    go_wp2_with fail
    refine (rdecode_any s lsn hl (by unfold maxLen; omega) _).mono ?_; rintro e w4 ⟨rfl, hb⟩; replace hB := hB.step hb; clear hb
    go_wp2_with fail
    refine (scan_any s lsn hl (by omega) _).mono ?_; rintro e w5 ⟨v1, rfl, hs1, hb⟩; replace hB := hB.step hb; clear hb
    go_wp2_with fail
    refine (rscan_any s lsn hl (by omega) _).mono ?_; rintro e w6 ⟨v2, rfl, hs2, hb⟩; replace hB := hB.step hb
    have hr1 := (Rd.of_sl hs1).below hb
    have hr2 := Rd.of_sl hs2
    clear hb hs1 hs2
    go_wp2_with fail
    refine (texts_same _ _ _ _ hr1 hr2).mono ?_; rintro e w7 ⟨rfl, hb⟩; replace hB := hB.step hb; clear hb hr1 hr2
    go_wp2_with fail
    refine (fsize_any n (by omega) (by omega) _).mono ?_; rintro e w8 ⟨rfl, rfl⟩
    rw [hsz.out]
    go_wp2_with fail
    refine (works10_any _).mono ?_; rintro e w9 ⟨rfl, hb⟩; replace hB := hB.step hb; clear hb
    go_wp2
    go_ret
    exact ⟨rfl, hB⟩
end Go.Proofs.Ytfejjjbcloiddaa
