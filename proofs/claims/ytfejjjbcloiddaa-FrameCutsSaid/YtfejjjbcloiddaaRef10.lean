/-
  The document's answer for frames: what each of its functions computes.
-/
import Derived.Test.YtfejjjbcloiddaaFrm
import Derived.Test.YtfejjjbcloiddaaPScan
namespace Go.Proofs.Ytfejjjbcloiddaa
open Go.RowKit
/-! ### put, sum -/
theorem fput_any (n : Nat) (size : Int) (hn : n < 18446744073709551616) (w : World) : Calls Try.prog 19 #[.int .u64 n, .int .i64 size] w fun e w' => e = .returned (.string ⟨(PWord.put n size).1.toArray⟩) ∧ Below w.heap.size w w' := by
  go_enter Try.func19, Try.ntmps19
  go_wp2_with fail
  refine (rput_any n size hn _).mono ?_; rintro e w1 ⟨rfl, hb⟩
  go_wp2
  go_ret
  exact ⟨rfl, hb⟩
def sumL (n k : Nat) : List UInt8 := le4N n k ++ List.replicate (4 - k) 0
theorem le4N_length (n k : Nat) : (le4N n k).length = k := by simp [le4N]
theorem sumL_length (n k : Nat) (h : k ≤ 4) : (sumL n k).length = 4 := by simp [sumL, le4N_length]; omega
theorem sumL_set (n k : Nat) (h : k < 4) : (sumL n k).set k (UInt8.ofNat (n / 256 ^ k)) = sumL n (k + 1) := by
  unfold sumL
  rw [le4N_succ, show 4 - k = (4 - (k + 1)) + 1 by omega, List.replicate_succ, List.set_append_right _ _ (by rw [le4N_length]; omega), le4N_length]
  simp
theorem sumL_four (l : List UInt8) : sumL (ofN l) 4 = PSum.le4 (PSum.of l) := by
  have h := le4N_four l
  unfold PSum.sealL at h
  unfold sumL
  rw [List.append_cancel_left h]; simp
set_option maxRecDepth 100000 in
set_option maxHeartbeats 1000000 in
theorem fsum_any (s : ByteArray) (hs : s.size ≤ maxLen) (w : World) : Calls Try.prog 20 #[.string s] w fun e w' => e = .returned (.string ⟨(PSum.le4 (PSum.of s.data.toList)).toArray⟩) ∧ Below w.heap.size w w' := by
  have hlt := ofN_lt s.data.toList
  have hfour := Lib.hid (sumL_four s.data.toList)
  have hmk : ∀ w, (Instr.makeSlice 32 (.int .i64 4) (.int .i64 4)).run Try.prog w = .ok (.slice (some ⟨w.heap.size, 0, none⟩) 4 4) (w.alloc (.cells (madeB 4) 5)) := fun w => make_bytes 4 (by omega) w
  go_enter Try.func20, Try.ntmps20
  go_wp2_with fail
  refine (rof_any s hs _).mono ?_; rintro e w' ⟨rfl, rfl⟩
  generalize ofN s.data.toList = n at *
  go_wp2
  clear hmk
  have hS0 := Sl.of_made w w.heap.size (Nat.le_refl _) 5 4 (by unfold maxLen; omega)
  go_loopw [3, 5] (fun nv iv wr => ∃ j : Nat, j ≤ 4 ∧ iv = .int .i64 j ∧ nv = .int .u32 ((n / 256 ^ j : Nat) : Int) ∧ Sl wr w.heap.size 5 1 (.slice (some ⟨w.heap.size, 0, none⟩) 4 4) 4 (bytesV (sumL n j)) ∧ Below w.heap.size w wr) (fun _ iv _ => (4 - intOf iv).toNat)
  case atStart => exact ⟨0, by omega, by simp, by simp, by simpa [sumL, le4N] using hS0, (Below.refl _ _).alloc (Nat.le_refl _) _⟩
  case round =>
    obtain ⟨j, hj, rfl, rfl, hS, hB⟩ := hrel
    clear hS0
    have hle := Nat.div_le_self n (256 ^ j)
    by_cases hlt2 : j < 4
    · have hcell := hS.byte (j := j) (by omega)
      have hfro := hS.unshut (j := j) (by omega)
      rw [Nat.zero_add] at hcell hfro
      have hset := fun v => Lib.hid (hS.set (j := j) (by omega) v)
      have hd := Lib.hid (div_pow_step n j)
      have hbi := Lib.hid (byte_int (n / 256 ^ j))
      have hps := Lib.hid (sumL_set n j hlt2)
      clear hS
      generalize (sumL n j).getD j 0 = b at *
      generalize hq : n / 256 ^ j = q at *
      clear hq
      go_wp2
      refine ⟨⟨j + 1, by omega, by go_num, by rw [← hd.out], ?_, hB.setCell (Nat.le_refl _) _⟩, by simp [intOf]; omega⟩
      have h := (hset (.int .u8 ((UInt8.ofNat q).toNat : Int))).out
      rw [bytesV_set, hps.out, Nat.zero_add, ← hbi.out] at h
      exact h
    · have hjk : j = 4 := by omega
      clear hlt2 hj
      subst hjk
      rw [hfour.out] at hS
      have hcv := conv_sl hS
      clear hS
      go_wp2
      go_ret
      exact ⟨rfl, hB⟩
/-! ### Encode -/
set_option maxRecDepth 100000 in
set_option maxHeartbeats 1000000 in
theorem rencode_any (lsn : Nat) (s : ByteArray) (hl : lsn < 18446744073709551616) (hs : s.size ≤ maxLen) (w : World) : Calls Try.prog 10 #[.int .u64 lsn, .string s] w fun e w' => e = .returned (.string ⟨(PFrm.encode lsn s.data.toList).1.toArray⟩) ∧ Below w.heap.size w w' := by
  unfold maxLen at hs
  have hls := list_size s
  by_cases c1 : s.size < 1
  · have hno := Lib.hid (enc_no lsn s.data.toList (by omega))
    have c1' : (s.size : Int) < 1 := by omega
    clear c1 hls
    go_enter Try.func10, Try.ntmps10
    go_wp2
    go_ret
    rw [hno.out]
    exact ⟨rfl, Below.refl _ _⟩
  by_cases c2 : 4096 < s.size
  · have hno := Lib.hid (enc_no lsn s.data.toList (by omega))
    have c1' : ¬ (s.size : Int) < 1 := by omega
    have c2' : (4096 : Int) < s.size := by omega
    clear c1 c2 hls
    go_enter Try.func10, Try.ntmps10
    go_wp2
    go_ret
    rw [hno.out]
    exact ⟨rfl, Below.refl _ _⟩
  have c1' : ¬ (s.size : Int) < 1 := by omega
  have c2' : ¬ (4096 : Int) < s.size := by omega
  by_cases c3 : lsn = 0
  · have hno := Lib.hid (enc_no lsn s.data.toList (by omega))
    subst c3
    clear hls c1 c2
    go_enter Try.func10, Try.ntmps10
    go_wp2
    go_ret
    rw [hno.out]
    exact ⟨rfl, Below.refl _ _⟩
  have hyes := Lib.hid (enc_yes lsn s.data.toList (by omega) (by omega) c3)
  have hl0 : ((lsn : Int) == 0) = false := by rw [beq_eq_false_iff_ne]; omega
  have hp2 := Lib.hid (put2 s.size (by omega))
  have hp8 := Lib.hid (put8 lsn hl)
  have hb2 := PWord.be_length 2 s.size
  have hb8 := PWord.be_length 8 lsn
  have hB := Below.refl w.heap.size w
  have hs4 : s.size ≤ 4096 := by omega
  have hfr : Hid (PFrm.frame lsn s.data.toList = PWord.be 2 s.size ++ PWord.be 8 lsn ++ PSum.le4 (PSum.of (PWord.be 2 s.size ++ PWord.be 8 lsn ++ s.data.toList)) ++ s.data.toList) := by
    unfold Hid PFrm.frame PFrm.head PFrm.tail4; rw [hls]
  have c3' := Lib.hid c3
  clear hls c1 c2 c3
  generalize PWord.be 2 s.size = B2 at *
  generalize PWord.be 8 lsn = B8 at *
  go_enter Try.func10, Try.ntmps10
  go_wp2_with fail
  refine (fput_any s.size 2 (by omega) _).mono ?_; rintro e w2 ⟨rfl, hb⟩; replace hB := hB.step hb; clear hb
  rw [hp2.out]
  go_wp2_with fail
  refine (fput_any lsn 8 hl _).mono ?_; rintro e w3 ⟨rfl, hb⟩; replace hB := hB.step hb; clear hb
  rw [hp8.out]
  go_wp2_with fail
  refine (fsum_any _ ?_ _).mono ?_
  · rw [ByteArray.size_append, ByteArray.size_append, size_mk, size_mk, hb2, hb8]; unfold maxLen; omega
  rintro e w4 ⟨rfl, hb⟩; replace hB := hB.step hb; clear hb
  have e1 : ((⟨B2.toArray⟩ : ByteArray) ++ ⟨B8.toArray⟩ ++ s).data.toList = B2 ++ B8 ++ s.data.toList := by simp
  rw [e1]
  have e1' := Lib.hid e1
  clear e1
  have h4 : (PSum.le4 (PSum.of (B2 ++ B8 ++ s.data.toList))).length = 4 := rfl
  generalize PSum.le4 (PSum.of (B2 ++ B8 ++ s.data.toList)) = B4 at *
  go_wp2
  go_ret
  rw [hyes.out, hfr.out]
  refine ⟨ret_str ?_, hB⟩
  rw [app_mk]
  simp
/-! ### Decode -/
set_option maxRecDepth 100000 in
set_option maxHeartbeats 1000000 in
theorem rdecode_any (s : ByteArray) (lsn : Nat) (hl : lsn < 18446744073709551616) (hs : s.size ≤ maxLen) (w : World) : Calls Try.prog 11 #[.string s, .int .u64 lsn] w fun e w' => e = .returned (.tuple #[.string ⟨(PFrm.decode s.data.toList lsn).1.toArray⟩, .int .i64 (PFrm.decode s.data.toList lsn).2.1, .int .i64 (PFrm.decode s.data.toList lsn).2.2]) ∧ Below w.heap.size w w' := by
  have hs' := Lib.hid hs
  unfold maxLen at hs
  have hls := list_size s
  have hB := Below.refl w.heap.size w
  by_cases c1 : s.size < 14
  · have hno := Lib.hid (dec_lt s.data.toList lsn (by omega))
    clear hls
    go_enter Try.func11, Try.ntmps11
    go_wp2
    go_ret3
    rw [hno.out]
    exact ⟨rfl, hB⟩
  have hg2 := get_in s 0 2 (by omega) (by omega) (by omega)
  have hg8 := get_in s 2 8 (by omega) (by omega) (by omega)
  rw [List.drop_zero] at hg2
  have hg2' : Hid (PWord.get s.data.toList 0 2 = _) := hg2
  have hg8' : Hid (PWord.get s.data.toList 2 8 = _) := hg8
  clear hg2 hg8
  have hv2 := PWord.val_lt 2 (s.data.toList.take 2) (by rw [List.length_take, hls]; omega)
  have hv8 := PWord.val_lt 8 ((s.data.toList.drop 2).take 8) (by rw [List.length_take, List.length_drop, hls]; omega)
  rw [show (256 : Nat) ^ 2 = 65536 from rfl] at hv2
  rw [show (256 : Nat) ^ 8 = 18446744073709551616 from rfl] at hv8
  have hform : _ → Hid (PFrm.decode s.data.toList lsn = ([], 0, 7)) := dec_form s.data.toList lsn (by omega)
  have hend : _ → _ → Hid (PFrm.decode s.data.toList lsn = ([], 0, 6)) := dec_end s.data.toList lsn (by omega)
  have hsum : _ → _ → _ → Hid (PFrm.decode s.data.toList lsn = ([], 0, 100)) := dec_sum s.data.toList lsn (by omega)
  have hok : _ → _ → _ → Hid (PFrm.decode s.data.toList lsn = _) := dec_ok s.data.toList lsn (by omega)
  generalize PWord.val (s.data.toList.take 2) = n at *
  generalize PWord.val ((s.data.toList.drop 2).take 8) = q at *
  by_cases c2 : n < 1 ∨ n > 4096 ∨ q ≠ lsn ∨ lsn = 0
  · have hno := hform c2
    clear hform hend hsum hok
    have hcases : n = 0 ∨ (n ≠ 0 ∧ 4096 < n) ∨ (n ≠ 0 ∧ ¬ 4096 < n ∧ q ≠ lsn) ∨ (n ≠ 0 ∧ ¬ 4096 < n ∧ q = lsn ∧ lsn = 0) := by omega
    rcases hcases with h1 | ⟨h1, h2⟩ | ⟨h1, h2, h3⟩ | ⟨h1, h2, h3, h4⟩
    · subst h1
      clear c2 hls
      go_enter Try.func11, Try.ntmps11
      go_wp2_with fail
      refine (rget_any s 0 2 hs'.out _).mono ?_; rintro e w1 ⟨rfl, rfl⟩
      rw [hg2'.out]
      go_wp2_with fail
      refine (rget_any s 2 8 hs'.out _).mono ?_; rintro e w2 ⟨rfl, rfl⟩
      rw [hg8'.out]
      go_wp2
      go_ret3
      rw [hno.out]
      exact ⟨rfl, hB⟩
    · have x1 : ((n : Int) == 0) = false := by rw [beq_eq_false_iff_ne]; omega
      have x2 : (4096 : Int) < n := by omega
      have h2' := Lib.hid h2
      clear c2 hls h1 h2
      go_enter Try.func11, Try.ntmps11
      go_wp2_with fail
      refine (rget_any s 0 2 hs'.out _).mono ?_; rintro e w1 ⟨rfl, rfl⟩
      rw [hg2'.out]
      go_wp2_with fail
      refine (rget_any s 2 8 hs'.out _).mono ?_; rintro e w2 ⟨rfl, rfl⟩
      rw [hg8'.out]
      go_wp2
      go_ret3
      rw [hno.out]
      exact ⟨rfl, hB⟩
    · have x1 : ((n : Int) == 0) = false := by rw [beq_eq_false_iff_ne]; omega
      have x2 : ¬ (4096 : Int) < n := by omega
      have x3 : ((q : Int) != (lsn : Int)) = true := by rw [bne_iff_ne]; omega
      have h2' := Lib.hid h3
      clear c2 hls h1 h2 h3
      go_enter Try.func11, Try.ntmps11
      go_wp2_with fail
      refine (rget_any s 0 2 hs'.out _).mono ?_; rintro e w1 ⟨rfl, rfl⟩
      rw [hg2'.out]
      go_wp2_with fail
      refine (rget_any s 2 8 hs'.out _).mono ?_; rintro e w2 ⟨rfl, rfl⟩
      rw [hg8'.out]
      go_wp2
      go_ret3
      rw [hno.out]
      exact ⟨rfl, hB⟩
    · have x1 : ((n : Int) == 0) = false := by rw [beq_eq_false_iff_ne]; omega
      have x2 : ¬ (4096 : Int) < n := by omega
      subst h3
      subst h4
      clear c2 hls h1 h2
      go_enter Try.func11, Try.ntmps11
      go_wp2_with fail
      refine (rget_any s 0 2 hs'.out _).mono ?_; rintro e w1 ⟨rfl, rfl⟩
      rw [hg2'.out]
      go_wp2_with fail
      refine (rget_any s 2 8 hs'.out _).mono ?_; rintro e w2 ⟨rfl, rfl⟩
      rw [hg8'.out]
      go_wp2
      go_ret3
      rw [hno.out]
      exact ⟨rfl, hB⟩
  have x1 : ((n : Int) == 0) = false := by rw [beq_eq_false_iff_ne]; omega
  have x2 : ¬ (4096 : Int) < n := by omega
  have hq : q = lsn := by omega
  subst hq
  have x4 : ((q : Int) == 0) = false := by rw [beq_eq_false_iff_ne]; omega
  have hn1 : 1 ≤ n := by omega
  have hn4 : n ≤ 4096 := by omega
  have hw : IntKind.i64.wrap (n : Int) = n := IntWalk.i64_in _ (by omega)
  by_cases c3 : s.data.toList.length < 14 + n
  · have hno := hend c2 c3
    have c3' : (s.size : Int) < 14 + n := by rw [hls] at c3; omega
    clear hform hend hsum hok c2 c3 hls
    go_enter Try.func11, Try.ntmps11
    go_wp2_with fail
    refine (rget_any s 0 2 hs'.out _).mono ?_; rintro e w1 ⟨rfl, rfl⟩
    rw [hg2'.out]
    go_wp2_with fail
    refine (rget_any s 2 8 hs'.out _).mono ?_; rintro e w2 ⟨rfl, rfl⟩
    rw [hg8'.out]
    go_wp2
    go_ret3
    rw [hno.out]
    exact ⟨rfl, hB⟩
  have c3' : ¬ (s.size : Int) < 14 + n := by rw [hls] at c3; omega
  have x10 := extract_take s 10
  have xt : s.extract 14 (14 + n) = ⟨((s.data.toList.drop 14).take n).toArray⟩ := by rw [extract_mid, show 14 + n - 14 = n by omega]
  have xs4 := extract_mid s 10 14
  have e1 : (14 + (n : Int)).toNat = 14 + n := by omega
  have e2 : (14 : Int) ≤ 14 + n := by omega
  have e3 : (10 : Int) ≤ s.size := by omega
  have e4 : (14 : Int) ≤ s.size := by omega
  have e5 : 14 + (n : Int) ≤ s.size := by omega
  have hl10 : (s.data.toList.take 10).length = 10 := by rw [List.length_take, hls]; omega
  have hln : ((s.data.toList.drop 14).take n).length = n := by rw [List.length_take, List.length_drop, hls]; omega
  have szall := Lib.hid (show ((⟨(s.data.toList.take 10).toArray⟩ : ByteArray) ++ (⟨((s.data.toList.drop 14).take n).toArray⟩ : ByteArray)).size ≤ maxLen by rw [ByteArray.size_append, size_mk, size_mk, hl10, hln]; unfold maxLen; omega)
  have hdt : ((⟨(s.data.toList.take 10).toArray⟩ : ByteArray) ++ (⟨((s.data.toList.drop 14).take n).toArray⟩ : ByteArray)).data.toList = s.data.toList.take 10 ++ (s.data.toList.drop 14).take n := by simp
  have hs4 := fsum_any _ szall.out
  rw [hdt] at hs4
  clear hdt
  have ht4 : Hid (PFrm.tail4 (s.data.toList.take 10) ((s.data.toList.drop 14).take n) = PSum.le4 (PSum.of (s.data.toList.take 10 ++ (s.data.toList.drop 14).take n))) := rfl
  by_cases c4 : PFrm.tail4 (s.data.toList.take 10) ((s.data.toList.drop 14).take n) = (s.data.toList.drop 10).take 4
  · have hno := hok c2 c3 c4
    have hcmp : (PSum.le4 (PSum.of (s.data.toList.take 10 ++ (s.data.toList.drop 14).take n)) == (s.data.toList.drop 10).take 4) = true := by rw [← ht4.out, c4]; simp
    have c4' := Lib.hid c4
    have hs4' := Lib.hid hs4
    clear hform hend hsum hok c2 c3 c4 hls hs4
    generalize PSum.le4 (PSum.of (s.data.toList.take 10 ++ (s.data.toList.drop 14).take n)) = B4 at *
    go_enter Try.func11, Try.ntmps11
    go_wp2_with fail
    refine (rget_any s 0 2 hs'.out _).mono ?_; rintro e w1 ⟨rfl, rfl⟩
    rw [hg2'.out]
    go_wp2_with fail
    refine (rget_any s 2 8 hs'.out _).mono ?_; rintro e w2 ⟨rfl, rfl⟩
    rw [hg8'.out]
    have hBd := hB.drew
    clear hB
    go_wp2
    go_region_with (go_at_call 20; refine (hs4'.out _).mono ?_; rintro e w4 ⟨rfl, hb⟩; replace hBd := hBd.step hb; clear hb)
    go_wp2
    go_ret3
    rw [hno.out]
    exact ⟨rfl, hBd⟩
  · have hno := hsum c2 c3 c4
    have hcmp : (PSum.le4 (PSum.of (s.data.toList.take 10 ++ (s.data.toList.drop 14).take n)) == (s.data.toList.drop 10).take 4) = false := by rw [beq_eq_false_iff_ne, ← ht4.out]; exact c4
    have c4' := Lib.hid c4
    have hs4' := Lib.hid hs4
    clear hform hend hsum hok c2 c3 c4 hls hs4
    generalize PSum.le4 (PSum.of (s.data.toList.take 10 ++ (s.data.toList.drop 14).take n)) = B4 at *
    go_enter Try.func11, Try.ntmps11
    go_wp2_with fail
    refine (rget_any s 0 2 hs'.out _).mono ?_; rintro e w1 ⟨rfl, rfl⟩
    rw [hg2'.out]
    go_wp2_with fail
    refine (rget_any s 2 8 hs'.out _).mono ?_; rintro e w2 ⟨rfl, rfl⟩
    rw [hg8'.out]
    have hBd := hB.drew
    clear hB
    go_wp2
    go_region_with (go_at_call 20; refine (hs4'.out _).mono ?_; rintro e w4 ⟨rfl, hb⟩; replace hBd := hBd.step hb; clear hb)
    go_wp2
    go_ret3
    rw [hno.out]
    exact ⟨rfl, hBd⟩
end Go.Proofs.Ytfejjjbcloiddaa
