/-
  The document's frames and log: Scan, Begin, Sector, Room, where, Read, Reserve, New.
-/
import Derived.Test.YtjnggldalggfnaaFrm
import Derived.Test.YtjnggldalggfnaaPScan
import Derived.Test.YtjnggldalggfnaaScan
import Derived.Test.YtjnggldalggfnaaRd
import Derived.Deep.QuietTactic
import Derived.BigQuiet
import Derived.Test.YtjnggldalggfnaaLog2
import Derived.Deep.CutBlock
import Derived.Test.YtjnggldalggfnaaLog6
import Derived.Test.YtjnggldalggfnaaLog4
namespace Go.Proofs.Ytjnggldalggfnaa
open Go.RowKit
/-! ### put, sum -/
theorem fput_any (n : Nat) (size : Int) (hn : n < 18446744073709551616) (w : World) : Calls Try.prog 85 #[.int .u64 n, .int .i64 size] w fun e w' => e = .returned (.string ⟨(PWord.put n size).1.toArray⟩) ∧ Below w.heap.size w w' := by
  go_enter Try.func85, Try.ntmps85
  go_wp2_with fail
  refine (rput_any n size hn _).mono ?_; rintro e w1 ⟨rfl, hb⟩
  go_wp2
  go_ret
  exact ⟨rfl, hb⟩
def sumL (n k : Nat) : List UInt8 := le4N n k ++ List.replicate (4 - k) 0
theorem le4N_length (n k : Nat) : (le4N n k).length = k := by simp [le4N]
theorem sumL_length (n k : Nat) (h : k ≤ 4) : (sumL n k).length = 4 := by simp [sumL, le4N_length]; omega
theorem sumL_set (n k : Nat) (h : k < 4) : (sumL n k).set k (UInt8.ofNat (n / 256 ^ k)) = sumL n (k + 1) := by
  unfold sumL
  rw [le4N_succ, show 4 - k = (4 - (k + 1)) + 1 by omega, List.replicate_succ, List.set_append_right _ _ (by rw [le4N_length]; omega), le4N_length]
  simp
theorem sumL_four (l : List UInt8) : sumL (ofN l) 4 = PSum.le4 (PSum.of l) := by
  have h := le4N_four l
  unfold PSum.sealL at h
  unfold sumL
  rw [List.append_cancel_left h]; simp
set_option maxRecDepth 100000 in
set_option maxHeartbeats 1000000 in
theorem fsum_any (s : ByteArray) (hs : s.size ≤ maxLen) (w : World) : Calls Try.prog 86 #[.string s] w fun e w' => e = .returned (.string ⟨(PSum.le4 (PSum.of s.data.toList)).toArray⟩) ∧ Below w.heap.size w w' := by
  have hlt := ofN_lt s.data.toList
  have hfour := Lib.hid (sumL_four s.data.toList)
  have hmk : ∀ w, (Instr.makeSlice 43 (.int .i64 4) (.int .i64 4)).run Try.prog w = .ok (.slice (some ⟨w.heap.size, 0, none⟩) 4 4) (w.alloc (.cells (madeB 4) 5)) := fun w => make_bytes 4 (by omega) w
  go_enter Try.func86, Try.ntmps86
  go_wp2_with fail
  refine (rof_any s hs _).mono ?_; rintro e w' ⟨rfl, rfl⟩
  generalize ofN s.data.toList = n at *
  go_wp2
  clear hmk
  have hS0 := Sl.of_made w w.heap.size (Nat.le_refl _) 5 4 (by unfold maxLen; omega)
  go_loopw [3, 5] (fun nv iv wr => ∃ j : Nat, j ≤ 4 ∧ iv = .int .i64 j ∧ nv = .int .u32 ((n / 256 ^ j : Nat) : Int) ∧ Sl wr w.heap.size 5 1 (.slice (some ⟨w.heap.size, 0, none⟩) 4 4) 4 (bytesV (sumL n j)) ∧ Below w.heap.size w wr) (fun _ iv _ => (4 - intOf iv).toNat)
  case atStart => exact ⟨0, by omega, by simp, by simp, by simpa [sumL, le4N] using hS0, (Below.refl _ _).alloc (Nat.le_refl _) _⟩
  case round =>
    obtain ⟨j, hj, rfl, rfl, hS, hB⟩ := hrel
    clear hS0
    have hle := Nat.div_le_self n (256 ^ j)
    by_cases hlt2 : j < 4
    · have hcell := hS.byte (j := j) (by omega)
      have hfro := hS.unshut (j := j) (by omega)
      rw [Nat.zero_add] at hcell hfro
      have hset := fun v => Lib.hid (hS.set (j := j) (by omega) v)
      have hd := Lib.hid (div_pow_step n j)
      have hbi := Lib.hid (byte_int (n / 256 ^ j))
      have hps := Lib.hid (sumL_set n j hlt2)
      clear hS
      generalize (sumL n j).getD j 0 = b at *
      generalize hq : n / 256 ^ j = q at *
      clear hq
      go_wp2
      refine ⟨⟨j + 1, by omega, by go_num, by rw [← hd.out], ?_, hB.setCell (Nat.le_refl _) _⟩, by simp [intOf]; omega⟩
      have h := (hset (.int .u8 ((UInt8.ofNat q).toNat : Int))).out
      rw [bytesV_set, hps.out, Nat.zero_add, ← hbi.out] at h
      exact h
    · have hjk : j = 4 := by omega
      clear hlt2 hj
      subst hjk
      rw [hfour.out] at hS
      have hcv := conv_sl hS
      clear hS
      go_wp2
      go_ret
      exact ⟨rfl, hB⟩
/-! ### Encode -/
set_option maxRecDepth 100000 in
set_option maxHeartbeats 1000000 in
theorem rencode_any (lsn : Nat) (s : ByteArray) (hl : lsn < 18446744073709551616) (hs : s.size ≤ maxLen) (w : World) : Calls Try.prog 80 #[.int .u64 lsn, .string s] w fun e w' => e = .returned (.string ⟨(PFrm.encode lsn s.data.toList).1.toArray⟩) ∧ Below w.heap.size w w' := by
  unfold maxLen at hs
  have hls := list_size s
  by_cases c1 : s.size < 1
  · have hno := Lib.hid (enc_no lsn s.data.toList (by omega))
    have c1' : (s.size : Int) < 1 := by omega
    clear c1 hls
    go_enter Try.func80, Try.ntmps80
    go_wp2
    go_ret
    rw [hno.out]
    exact ⟨rfl, Below.refl _ _⟩
  by_cases c2 : 4096 < s.size
  · have hno := Lib.hid (enc_no lsn s.data.toList (by omega))
    have c1' : ¬ (s.size : Int) < 1 := by omega
    have c2' : (4096 : Int) < s.size := by omega
    clear c1 c2 hls
    go_enter Try.func80, Try.ntmps80
    go_wp2
    go_ret
    rw [hno.out]
    exact ⟨rfl, Below.refl _ _⟩
  have c1' : ¬ (s.size : Int) < 1 := by omega
  have c2' : ¬ (4096 : Int) < s.size := by omega
  by_cases c3 : lsn = 0
  · have hno := Lib.hid (enc_no lsn s.data.toList (by omega))
    subst c3
    clear hls c1 c2
    go_enter Try.func80, Try.ntmps80
    go_wp2
    go_ret
    rw [hno.out]
    exact ⟨rfl, Below.refl _ _⟩
  have hyes := Lib.hid (enc_yes lsn s.data.toList (by omega) (by omega) c3)
  have hl0 : ((lsn : Int) == 0) = false := by rw [beq_eq_false_iff_ne]; omega
  have hp2 := Lib.hid (put2 s.size (by omega))
  have hp8 := Lib.hid (put8 lsn hl)
  have hb2 := PWord.be_length 2 s.size
  have hb8 := PWord.be_length 8 lsn
  have hB := Below.refl w.heap.size w
  have hs4 : s.size ≤ 4096 := by omega
  have hfr : Hid (PFrm.frame lsn s.data.toList = PWord.be 2 s.size ++ PWord.be 8 lsn ++ PSum.le4 (PSum.of (PWord.be 2 s.size ++ PWord.be 8 lsn ++ s.data.toList)) ++ s.data.toList) := by
    unfold Hid PFrm.frame PFrm.head PFrm.tail4; rw [hls]
  have c3' := Lib.hid c3
  clear hls c1 c2 c3
  generalize PWord.be 2 s.size = B2 at *
  generalize PWord.be 8 lsn = B8 at *
  go_enter Try.func80, Try.ntmps80
  go_wp2_with fail
  refine (fput_any s.size 2 (by omega) _).mono ?_; rintro e w2 ⟨rfl, hb⟩; replace hB := hB.step hb; clear hb
  rw [hp2.out]
  go_wp2_with fail
  refine (fput_any lsn 8 hl _).mono ?_; rintro e w3 ⟨rfl, hb⟩; replace hB := hB.step hb; clear hb
  rw [hp8.out]
  go_wp2_with fail
  refine (fsum_any _ ?_ _).mono ?_
  · rw [ByteArray.size_append, ByteArray.size_append, size_mk, size_mk, hb2, hb8]; unfold maxLen; omega
  rintro e w4 ⟨rfl, hb⟩; replace hB := hB.step hb; clear hb
  have e1 : ((⟨B2.toArray⟩ : ByteArray) ++ ⟨B8.toArray⟩ ++ s).data.toList = B2 ++ B8 ++ s.data.toList := by simp
  rw [e1]
  have e1' := Lib.hid e1
  clear e1
  have h4 : (PSum.le4 (PSum.of (B2 ++ B8 ++ s.data.toList))).length = 4 := rfl
  generalize PSum.le4 (PSum.of (B2 ++ B8 ++ s.data.toList)) = B4 at *
  go_wp2
  go_ret
  rw [hyes.out, hfr.out]
  refine ⟨ret_str ?_, hB⟩
  rw [app_mk]
  simp
/-! ### Decode -/
set_option maxRecDepth 100000 in
set_option maxHeartbeats 1000000 in
theorem rdecode_any (s : ByteArray) (lsn : Nat) (hl : lsn < 18446744073709551616) (hs : s.size ≤ maxLen) (w : World) : Calls Try.prog 82 #[.string s, .int .u64 lsn] w fun e w' => e = .returned (.tuple #[.string ⟨(PFrm.decode s.data.toList lsn).1.toArray⟩, .int .i64 (PFrm.decode s.data.toList lsn).2.1, .int .i64 (PFrm.decode s.data.toList lsn).2.2]) ∧ Below w.heap.size w w' := by
  have hs' := Lib.hid hs
  unfold maxLen at hs
  have hls := list_size s
  have hB := Below.refl w.heap.size w
  by_cases c1 : s.size < 14
  · have hno := Lib.hid (dec_lt s.data.toList lsn (by omega))
    clear hls
    go_enter Try.func82, Try.ntmps82
    go_wp2
    go_ret3
    rw [hno.out]
    exact ⟨rfl, hB⟩
  have hg2 := get_in s 0 2 (by omega) (by omega) (by omega)
  have hg8 := get_in s 2 8 (by omega) (by omega) (by omega)
  rw [List.drop_zero] at hg2
  have hg2' : Hid (PWord.get s.data.toList 0 2 = _) := hg2
  have hg8' : Hid (PWord.get s.data.toList 2 8 = _) := hg8
  clear hg2 hg8
  have hv2 := PWord.val_lt 2 (s.data.toList.take 2) (by rw [List.length_take, hls]; omega)
  have hv8 := PWord.val_lt 8 ((s.data.toList.drop 2).take 8) (by rw [List.length_take, List.length_drop, hls]; omega)
  rw [show (256 : Nat) ^ 2 = 65536 from rfl] at hv2
  rw [show (256 : Nat) ^ 8 = 18446744073709551616 from rfl] at hv8
  have hform : _ → Hid (PFrm.decode s.data.toList lsn = ([], 0, 7)) := dec_form s.data.toList lsn (by omega)
  have hend : _ → _ → Hid (PFrm.decode s.data.toList lsn = ([], 0, 6)) := dec_end s.data.toList lsn (by omega)
  have hsum : _ → _ → _ → Hid (PFrm.decode s.data.toList lsn = ([], 0, 100)) := dec_sum s.data.toList lsn (by omega)
  have hok : _ → _ → _ → Hid (PFrm.decode s.data.toList lsn = _) := dec_ok s.data.toList lsn (by omega)
  generalize PWord.val (s.data.toList.take 2) = n at *
  generalize PWord.val ((s.data.toList.drop 2).take 8) = q at *
  by_cases c2 : n < 1 ∨ n > 4096 ∨ q ≠ lsn ∨ lsn = 0
  · have hno := hform c2
    clear hform hend hsum hok
    have hcases : n = 0 ∨ (n ≠ 0 ∧ 4096 < n) ∨ (n ≠ 0 ∧ ¬ 4096 < n ∧ q ≠ lsn) ∨ (n ≠ 0 ∧ ¬ 4096 < n ∧ q = lsn ∧ lsn = 0) := by omega
    rcases hcases with h1 | ⟨h1, h2⟩ | ⟨h1, h2, h3⟩ | ⟨h1, h2, h3, h4⟩
    · subst h1
      clear c2 hls
      go_enter Try.func82, Try.ntmps82
      go_wp2_with fail
      refine (rget_any s 0 2 hs'.out _).mono ?_; rintro e w1 ⟨rfl, rfl⟩
      rw [hg2'.out]
      go_wp2_with fail
      refine (rget_any s 2 8 hs'.out _).mono ?_; rintro e w2 ⟨rfl, rfl⟩
      rw [hg8'.out]
      go_wp2
      go_ret3
      rw [hno.out]
      exact ⟨rfl, hB⟩
    · have x1 : ((n : Int) == 0) = false := by rw [beq_eq_false_iff_ne]; omega
      have x2 : (4096 : Int) < n := by omega
      have h2' := Lib.hid h2
      clear c2 hls h1 h2
      go_enter Try.func82, Try.ntmps82
      go_wp2_with fail
      refine (rget_any s 0 2 hs'.out _).mono ?_; rintro e w1 ⟨rfl, rfl⟩
      rw [hg2'.out]
      go_wp2_with fail
      refine (rget_any s 2 8 hs'.out _).mono ?_; rintro e w2 ⟨rfl, rfl⟩
      rw [hg8'.out]
      go_wp2
      go_ret3
      rw [hno.out]
      exact ⟨rfl, hB⟩
    · have x1 : ((n : Int) == 0) = false := by rw [beq_eq_false_iff_ne]; omega
      have x2 : ¬ (4096 : Int) < n := by omega
      have x3 : ((q : Int) != (lsn : Int)) = true := by rw [bne_iff_ne]; omega
      have h2' := Lib.hid h3
      clear c2 hls h1 h2 h3
      go_enter Try.func82, Try.ntmps82
      go_wp2_with fail
      refine (rget_any s 0 2 hs'.out _).mono ?_; rintro e w1 ⟨rfl, rfl⟩
      rw [hg2'.out]
      go_wp2_with fail
      refine (rget_any s 2 8 hs'.out _).mono ?_; rintro e w2 ⟨rfl, rfl⟩
      rw [hg8'.out]
      go_wp2
      go_ret3
      rw [hno.out]
      exact ⟨rfl, hB⟩
    · have x1 : ((n : Int) == 0) = false := by rw [beq_eq_false_iff_ne]; omega
      have x2 : ¬ (4096 : Int) < n := by omega
      subst h3
      subst h4
      clear c2 hls h1 h2
      go_enter Try.func82, Try.ntmps82
      go_wp2_with fail
      refine (rget_any s 0 2 hs'.out _).mono ?_; rintro e w1 ⟨rfl, rfl⟩
      rw [hg2'.out]
      go_wp2_with fail
      refine (rget_any s 2 8 hs'.out _).mono ?_; rintro e w2 ⟨rfl, rfl⟩
      rw [hg8'.out]
      go_wp2
      go_ret3
      rw [hno.out]
      exact ⟨rfl, hB⟩
  have x1 : ((n : Int) == 0) = false := by rw [beq_eq_false_iff_ne]; omega
  have x2 : ¬ (4096 : Int) < n := by omega
  have hq : q = lsn := by omega
  subst hq
  have x4 : ((q : Int) == 0) = false := by rw [beq_eq_false_iff_ne]; omega
  have hn1 : 1 ≤ n := by omega
  have hn4 : n ≤ 4096 := by omega
  have hw : IntKind.i64.wrap (n : Int) = n := IntWalk.i64_in _ (by omega)
  by_cases c3 : s.data.toList.length < 14 + n
  · have hno := hend c2 c3
    have c3' : (s.size : Int) < 14 + n := by rw [hls] at c3; omega
    clear hform hend hsum hok c2 c3 hls
    go_enter Try.func82, Try.ntmps82
    go_wp2_with fail
    refine (rget_any s 0 2 hs'.out _).mono ?_; rintro e w1 ⟨rfl, rfl⟩
    rw [hg2'.out]
    go_wp2_with fail
    refine (rget_any s 2 8 hs'.out _).mono ?_; rintro e w2 ⟨rfl, rfl⟩
    rw [hg8'.out]
    go_wp2
    go_ret3
    rw [hno.out]
    exact ⟨rfl, hB⟩
  have c3' : ¬ (s.size : Int) < 14 + n := by rw [hls] at c3; omega
  have x10 := extract_take s 10
  have xt : s.extract 14 (14 + n) = ⟨((s.data.toList.drop 14).take n).toArray⟩ := by rw [extract_mid, show 14 + n - 14 = n by omega]
  have xs4 := extract_mid s 10 14
  have e1 : (14 + (n : Int)).toNat = 14 + n := by omega
  have e2 : (14 : Int) ≤ 14 + n := by omega
  have e3 : (10 : Int) ≤ s.size := by omega
  have e4 : (14 : Int) ≤ s.size := by omega
  have e5 : 14 + (n : Int) ≤ s.size := by omega
  have hl10 : (s.data.toList.take 10).length = 10 := by rw [List.length_take, hls]; omega
  have hln : ((s.data.toList.drop 14).take n).length = n := by rw [List.length_take, List.length_drop, hls]; omega
  have szall := Lib.hid (show ((⟨(s.data.toList.take 10).toArray⟩ : ByteArray) ++ (⟨((s.data.toList.drop 14).take n).toArray⟩ : ByteArray)).size ≤ maxLen by rw [ByteArray.size_append, size_mk, size_mk, hl10, hln]; unfold maxLen; omega)
  have hdt : ((⟨(s.data.toList.take 10).toArray⟩ : ByteArray) ++ (⟨((s.data.toList.drop 14).take n).toArray⟩ : ByteArray)).data.toList = s.data.toList.take 10 ++ (s.data.toList.drop 14).take n := by simp
  have hs4 := fsum_any _ szall.out
  rw [hdt] at hs4
  clear hdt
  have ht4 : Hid (PFrm.tail4 (s.data.toList.take 10) ((s.data.toList.drop 14).take n) = PSum.le4 (PSum.of (s.data.toList.take 10 ++ (s.data.toList.drop 14).take n))) := rfl
  by_cases c4 : PFrm.tail4 (s.data.toList.take 10) ((s.data.toList.drop 14).take n) = (s.data.toList.drop 10).take 4
  · have hno := hok c2 c3 c4
    have hcmp : (PSum.le4 (PSum.of (s.data.toList.take 10 ++ (s.data.toList.drop 14).take n)) == (s.data.toList.drop 10).take 4) = true := by rw [← ht4.out, c4]; simp
    have c4' := Lib.hid c4
    have hs4' := Lib.hid hs4
    clear hform hend hsum hok c2 c3 c4 hls hs4
    generalize PSum.le4 (PSum.of (s.data.toList.take 10 ++ (s.data.toList.drop 14).take n)) = B4 at *
    go_enter Try.func82, Try.ntmps82
    go_wp2_with fail
    refine (rget_any s 0 2 hs'.out _).mono ?_; rintro e w1 ⟨rfl, rfl⟩
    rw [hg2'.out]
    go_wp2_with fail
    refine (rget_any s 2 8 hs'.out _).mono ?_; rintro e w2 ⟨rfl, rfl⟩
    rw [hg8'.out]
    have hBd := hB.drew
    clear hB
    go_wp2
    go_region_with (go_at_call 86; refine (hs4'.out _).mono ?_; rintro e w4 ⟨rfl, hb⟩; replace hBd := hBd.step hb; clear hb)
    go_wp2
    go_ret3
    rw [hno.out]
    exact ⟨rfl, hBd⟩
  · have hno := hsum c2 c3 c4
    have hcmp : (PSum.le4 (PSum.of (s.data.toList.take 10 ++ (s.data.toList.drop 14).take n)) == (s.data.toList.drop 10).take 4) = false := by rw [beq_eq_false_iff_ne, ← ht4.out]; exact c4
    have c4' := Lib.hid c4
    have hs4' := Lib.hid hs4
    clear hform hend hsum hok c2 c3 c4 hls hs4
    generalize PSum.le4 (PSum.of (s.data.toList.take 10 ++ (s.data.toList.drop 14).take n)) = B4 at *
    go_enter Try.func82, Try.ntmps82
    go_wp2_with fail
    refine (rget_any s 0 2 hs'.out _).mono ?_; rintro e w1 ⟨rfl, rfl⟩
    rw [hg2'.out]
    go_wp2_with fail
    refine (rget_any s 2 8 hs'.out _).mono ?_; rintro e w2 ⟨rfl, rfl⟩
    rw [hg8'.out]
    have hBd := hB.drew
    clear hB
    go_wp2
    go_region_with (go_at_call 86; refine (hs4'.out _).mono ?_; rintro e w4 ⟨rfl, hb⟩; replace hBd := hBd.step hb; clear hb)
    go_wp2
    go_ret3
    rw [hno.out]
    exact ⟨rfl, hBd⟩
end Go.Proofs.Ytjnggldalggfnaa
namespace Go.Proofs.Ytjnggldalggfnaa
open Go.RowKit
def ScanPost (l : List (List UInt8)) (err : Int) (w : World) (e : Ending) (w' : World) : Prop := ∃ v, e = .returned (.tuple #[v, .int .i64 (PFrm.used l), .int .i64 err]) ∧ Sl w' w.heap.size 9 1 v l.length (strV l) ∧ Below w.heap.size w w'
theorem scanPost_mk {pre : List (List UInt8)} {e : Int} {w w' : World} {v : Value} {U : Int} (hu : PFrm.used pre = U) (h : Sl w' w.heap.size 9 1 v pre.length (strV pre)) (hb : Below w.heap.size w w') : ScanPost pre e w (.returned (.tuple #[v, .int .i64 U, .int .i64 e])) w' :=
  ⟨v, by rw [hu], h, hb⟩
theorem map_pair (pre : List (List UInt8)) : (pre.map (fun x => (x, (0 : Int)))).map (·.1) = pre := by
  rw [List.map_map]; exact List.map_id' pre
set_option maxRecDepth 100000 in
set_option maxHeartbeats 2000000 in
theorem rscan_any (s : ByteArray) (m : Nat) (hm : m < 18446744073709551616) (hs : s.size ≤ 1000000) (w : World) : Calls Try.prog 73 #[.string s, .int .u64 m] w (ScanPost (PFrm.texts (PFrm.items (s.size + 1) s.data.toList m)) (PFrm.err (PFrm.items (s.size + 1) s.data.toList m)) w) := by
  have hls := Lib.hid (list_size s)
  go_enter Try.func73, Try.ntmps73
  go_wp2
  go_loopw [7, 8] (fun lv uv wr => ∃ (pre : List (List UInt8)) (k f : Nat), uv = .int .i64 k ∧ Hid (PFrm.used pre = k) ∧ pre.length ≤ k ∧ k ≤ s.size ∧ Hid (PFrm.items (s.size + 1) s.data.toList m = pre.map (·, 0) ++ PFrm.items f (s.data.toList.drop k) ((m + k) % 18446744073709551616)) ∧ s.size - k < f ∧ Sl wr w.heap.size 9 1 lv pre.length (strV pre) ∧ Below w.heap.size w wr) (fun _ uv _ => s.size - (intOf uv).toNat)
  case atStart => exact ⟨[], 0, s.size + 1, rfl, Lib.hid rfl, by simp, by omega, Lib.hid (by simp [Nat.mod_eq_of_lt hm]), by omega, Sl.nil _ _ _ _, Below.refl _ _⟩
  case round =>
    obtain ⟨pre, k, f, rfl, hu, hpl, hk, hit, hf, hSl, hB⟩ := hrel
    by_cases hlt : k < s.size
    · obtain ⟨f, rfl⟩ : ∃ f', f = f' + 1 := ⟨f - 1, by omega⟩
      obtain ⟨q, hq⟩ : ∃ q, q = (m + k) % 18446744073709551616 := ⟨_, rfl⟩
      have hql : q < 18446744073709551616 := by rw [hq]; exact Nat.mod_lt _ (by decide)
      rw [← hq] at hit
      have hwr : IntKind.u64.wrap ((m : Int) + k) = q := by
        have : IntKind.u64.wrap ((m : Int) + k) = ((m : Int) + k) % 18446744073709551616 := rfl
        rw [this, hq]; omega
      have hq' := Lib.hid hq
      clear hq
      have hwk : IntKind.u64.wrap (k : Int) = k := by
        have : IntKind.u64.wrap (k : Int) = (k : Int) % 18446744073709551616 := rfl
        rw [this]; omega
      have hez : (s.extract k s.size).size = s.size - k := by rw [ByteArray.size_extract]; omega
      have hed : (s.extract k s.size).data.toList = s.data.toList.drop k := by rw [extract_end]
      have hdec := rdecode_any (s.extract k s.size) q hql (by rw [hez]; unfold maxLen; omega)
      rw [hed] at hdec
      obtain ⟨t1, n1, c1, hd⟩ : ∃ t1 n1 c1, PFrm.decode (s.data.toList.drop k) q = (t1, n1, c1) := ⟨_, _, _, rfl⟩
      have hdl : (s.data.toList.drop k).length = s.size - k := by rw [List.length_drop, hls.out]
      by_cases hc : c1 = 0
      · subst hc
        obtain ⟨j, hj, hj1, hj2, hj3, hj4, hj5⟩ := PFrm.decode_ok (s.data.toList.drop k) q (by rw [hd])
        have hstep := Lib.hid (PFrm.items_ok f _ _ (by omega) (by rw [hd] : (PFrm.decode (s.data.toList.drop k) q).2.2 = 0))
        rw [hd] at hj hj1 hstep hdec
        dsimp only at hj hj1 hstep hdec
        subst hj
        rw [hdl] at hj4
        have hj1' := Lib.hid hj1
        have hdec' := Lib.hid hdec
        have hez' := Lib.hid hez
        have hed' := Lib.hid hed
        clear hd hdl hj1 hdec hez hed
        go_wp2_with fail
        refine (hdec'.out _).mono ?_; rintro e w1 ⟨rfl, hb⟩
        have hSl1 := hSl.keep fun g hg => hb.block g (hSl.lt g hg).2
        have hB1 := hB.step hb
        clear hb hSl hB
        have hww : IntKind.i64.wrap ((k : Int) + ((14 + j : Nat) : Int)) = ((k + (14 + j) : Nat) : Int) := by rw [IntWalk.i64_in _ (by omega)]; omega
        go_wp2_with (at_builtin; (with_reducible apply wpList_append_sl elem_str (hSl1.alloc _) [_]); (· rfl); (· rfl); (· rfl); (· rfl); (· rfl); (· exact news_alloc _ [_] _ _); (· intro u hu; simp at hu; subst hu; rfl); (· unfold maxLen; omega); (· omega); (· have := hB1.size; simp; omega); intro v' w2 h1 h2 _ h3)
        have hsz : PFrm.size (t1.length : Int) = 14 + j := by rw [hj1'.out]; unfold PFrm.size; rw [if_neg (by omega)]
        refine ⟨⟨pre ++ [t1], k + (14 + j), f, by rw [show ((k : Int) + (14 + (j : Int))) = ((k + (14 + j) : Nat) : Int) by omega], Lib.hid ?_, by simp; omega, by omega, Lib.hid ?_, by omega, ?_, ?_⟩, by simp [intOf]; omega⟩
        · rw [PFrm.used_snoc, hu.out, hsz]; omega
        · rw [hit.out, hstep.out, List.map_append, List.append_assoc, List.drop_drop, Int.toNat_natCast]
          rw [hq'.out, show ((m + k) % 18446744073709551616 + (14 + j)) % 18446744073709551616 = (m + (k + (14 + j))) % 18446744073709551616 by omega]
          rfl
        · rw [List.length_append, List.length_singleton]
          have e2 : strV (pre ++ [t1]) = strV pre ++ [.string ⟨t1.toArray⟩] := by simp [strV]
          rw [e2]
          exact h1
        · exact (hB1.alloc hB1.size _).grown h2 (by have := hB1.size; simp; omega) (fun k hk => (hSl1.lt k hk).1)
      · have hstep := Lib.hid (PFrm.items_bad f _ _ (by omega) (by rw [hd]; exact hc : (PFrm.decode (s.data.toList.drop k) q).2.2 ≠ 0))
        rw [hd] at hstep hdec
        dsimp only at hstep hdec
        have hc' : (c1 != 0) = true := by simpa using hc
        have hcH := Lib.hid hc
        have hdec' := Lib.hid hdec
        have hez' := Lib.hid hez
        have hed' := Lib.hid hed
        clear hd hdl hdec hez hed hc
        go_wp2_with fail
        refine (hdec'.out _).mono ?_; rintro e w1 ⟨rfl, hb⟩
        have hSl1 := hSl.keep fun g hg => hb.block g (hSl.lt g hg).2
        have hB1 := hB.step hb
        clear hb hSl hB
        go_wp2
        go_ret3
        rw [hit.out, hstep.out, PFrm.texts_stop _ _ _ hcH.out (by simp), PFrm.err_stop]
        rw [map_pair]
        exact scanPost_mk hu.out hSl1 hB1
    · have hks : k = s.size := by omega
      have hz := PFrm.items_zero f (s.data.toList.drop k) ((m + k) % 18446744073709551616) (by rw [List.length_drop, hls.out]; omega)
      have hfin : Hid (PFrm.items (s.size + 1) s.data.toList m = pre.map (·, 0)) := Lib.hid (by rw [hit.out, hz, List.append_nil])
      clear hz hit
      have hnl : ¬ (k : Int) < s.size := by omega
      clear hks hlt
      go_wp2
      go_ret3
      rw [hfin.out, PFrm.texts_ok _ (by simp), PFrm.err_ok _ (by simp)]
      rw [map_pair]
      exact scanPost_mk hu.out hSl hB
end Go.Proofs.Ytjnggldalggfnaa
namespace Go.Proofs.Ytjnggldalggfnaa
open Go.RowKit
theorem rbegin_any (x : Nat) (hx : x < 18446744073709551616) (w : World) : Calls Try.prog 71 #[.int .u64 x] w fun e w' => e = .returned (.int .u64 (PLog.begin x : Nat)) ∧ w = w' := by
  have e : ((PLog.begin x : Nat) : Int) = (x : Int) / 110 * 110 := by unfold PLog.begin; omega
  have HE := Lib.hid e
  clear e
  have h1 : (x : Int) / 110 * 110 ≤ x := by omega
  have h2 : 0 ≤ (x : Int) / 110 * 110 := by omega
  have h3 : IntKind.u64.wrap ((x : Int) / 110 * 110) = (x : Int) / 110 * 110 := IntWalk.u64_in _ (by omega)
  go_enter Try.func71, Try.ntmps71
  go_wp2
  go_ret
  rw [HE.out]
  exact ⟨rfl, rfl⟩
theorem lput_any (n : Nat) (size : Int) (hn : n < 18446744073709551616) (w : World) : Calls Try.prog 83 #[.int .u64 n, .int .i64 size] w fun e w' => e = .returned (.string ⟨(PWord.put n size).1.toArray⟩) ∧ Below w.heap.size w w' := by
  go_enter Try.func83, Try.ntmps83
  go_wp2_with fail
  refine (rput_any n size hn _).mono ?_; rintro e w1 ⟨rfl, hb⟩
  go_wp2
  go_ret
  exact ⟨rfl, hb⟩
theorem lget_any (s : ByteArray) (hs : s.size ≤ maxLen) (p k : Nat) (w : World) : Calls Try.prog 81 #[.string s, .int .i64 p, .int .i64 k] w fun e w' => e = .returned (.int .u64 (PWord.get s.data.toList p k).1) ∧ w = w' := by
  have HG := Lib.hid (fun W => rget_any s p k hs W)
  generalize PWord.get s.data.toList p k = G at *
  obtain ⟨gn, gb⟩ := G
  dsimp only at HG
  go_enter Try.func81, Try.ntmps81
  go_wp2_with fail
  refine (HG.out _).mono ?_
  rintro e w1 ⟨rfl, rfl⟩
  go_wp2
  go_ret
  exact ⟨rfl, rfl⟩
end Go.Proofs.Ytjnggldalggfnaa
namespace Go.Proofs.Ytjnggldalggfnaa
open Go.RowKit
set_option maxRecDepth 100000 in
set_option maxHeartbeats 1000000 in
theorem rsector_any (x life : Nat) (p : List UInt8) (hx : x < 18446744073709551616) (hlf : life < 18446744073709551616) (hp : p.length ≤ 110) (w : World) :
    Calls Try.prog 74 #[.int .u64 x, .int .u64 life, .string ⟨p.toArray⟩] w fun e w' => e = .returned (.string ⟨(PLog.image (PLog.begin x) life p).toArray⟩) ∧ Below w.heap.size w w' := by
  obtain ⟨B, hB⟩ : ∃ B, PLog.begin x = B := ⟨_, rfl⟩
  have hBx : B < 18446744073709551616 := by have := PLog.begin_le x; omega
  have HBG := Lib.hid (fun W => rbegin_any x hx W)
  rw [hB] at HBG ⊢
  have HP1 := Lib.hid (fun W => lput_any B 8 hBx W)
  have HP2 := Lib.hid (fun W => lput_any life 8 hlf W)
  have HP3 := Lib.hid (fun W => lput_any p.length 2 (by omega) W)
  rw [put8 B hBx] at HP1
  rw [put8 life hlf] at HP2
  rw [put2 p.length (by omega)] at HP3
  obtain ⟨s, hs⟩ : ∃ s : ByteArray, (⟨p.toArray⟩ : ByteArray) = s := ⟨_, rfl⟩
  have hsz : p.length = s.size := by rw [← hs]; rfl
  have hsd : s.data.toList = p := by rw [← hs]
  obtain ⟨Z, hZ⟩ : ∃ Z, Z = 110 - p.length := ⟨_, rfl⟩
  obtain ⟨H, hH⟩ : ∃ H : List UInt8, PWord.be 8 B ++ PWord.be 8 life ++ PWord.be 2 p.length ++ p = H := ⟨_, rfl⟩
  have hHl : H.length + Z = 128 := by rw [← hH]; simp only [List.length_append, PWord.be_length]; omega
  have HIM : Hid (PLog.image B life p = H ++ List.replicate Z 0) := Lib.hid (by unfold PLog.image; rw [hH, hZ])
  have HHH : Hid ((⟨(PWord.be 8 B).toArray⟩ : ByteArray) ++ ⟨(PWord.be 8 life).toArray⟩ ++ ⟨(PWord.be 2 p.length).toArray⟩ ++ s = ⟨H.toArray⟩) := Lib.hid (by
    rw [← hs, app_mk, app_mk, app_mk, ← hH])
  have HHL := Lib.hid hHl
  rw [hs]
  rw [hsz] at HP3 HHH
  have hs110 : s.size ≤ 110 := by omega
  have wS : IntKind.u64.wrap (s.size : Int) = s.size := IntWalk.u64_in _ (by omega)
  clear hB hs hsz hsd hZ hH hHl hp
  dsimp only at HP1 HP2 HP3
  have hb8 := PWord.be_length 8 B
  have hb9 := PWord.be_length 8 life
  have hb2 := PWord.be_length 2 s.size
  generalize PWord.be 8 B = B8 at *
  generalize PWord.be 8 life = B9 at *
  generalize PWord.be 2 s.size = B2 at *
  go_enter Try.func74, Try.ntmps74
  go_wp2_with fail
  refine (HBG.out _).mono ?_; rintro e w1 ⟨rfl, rfl⟩
  go_wp2_with fail
  refine (HP1.out _).mono ?_; rintro e w2 ⟨rfl, hb⟩
  have HB2 := Lib.hid ((Below.refl w.heap.size w).step hb)
  clear hb
  go_wp2_with fail
  refine (HP2.out _).mono ?_; rintro e w3 ⟨rfl, hb⟩
  have HB3 := Lib.hid (HB2.out.step hb)
  clear hb
  go_wp2_with fail
  refine (HP3.out _).mono ?_; rintro e w4 ⟨rfl, hb⟩
  have HB4 := Lib.hid (HB3.out.step hb)
  clear hb
  go_upto_region 2 with fail
  rw [HHH.out]
  go_wp2_with fail
  go_loop [7] (fun sv => ∃ k : Nat, k ≤ Z ∧ sv = .string ⟨(H ++ List.replicate k 0).toArray⟩) (fun sv => match sv with | .string b => 128 - b.size | _ => 0)
  case atStart => exact ⟨0, by omega, by simp⟩
  case round =>
    obtain ⟨k, hk, rfl⟩ := hrel
    have hsz : (⟨(H ++ List.replicate k 0).toArray⟩ : ByteArray).size = H.length + k := by rw [size_mk]; simp
    have hap : (⟨(H ++ List.replicate k 0).toArray⟩ : ByteArray) ++ ⟨#[0]⟩ = ⟨(H ++ List.replicate (k + 1) 0).toArray⟩ := by
      rw [show (⟨#[0]⟩ : ByteArray) = ⟨([0] : List UInt8).toArray⟩ from rfl, app_mk, List.append_assoc, List.replicate_succ']
    have HSZ := Lib.hid hsz
    have HAP := Lib.hid hap
    obtain ⟨t, ht⟩ : ∃ t, (⟨(H ++ List.replicate k 0).toArray⟩ : ByteArray) = t := ⟨_, rfl⟩
    rw [ht] at HSZ HAP
    have HTT := Lib.hid ht
    rw [ht]
    clear hap ht hsz
    by_cases hlt : k < Z
    · have hl1 : (t.size : Int) < 128 := by have := HSZ.out; have := HHL.out; omega
      go_wp2
      refine ⟨⟨k + 1, by omega, by rw [HAP.out]⟩, ?_⟩
      show 128 - (t ++ ⟨#[0]⟩).size < 128 - t.size
      rw [HAP.out, HSZ.out, size_mk]
      simp
      have := HHL.out
      omega
    · have hkk : k = Z := by omega
      subst hkk
      have hl1 : ¬ (t.size : Int) < 128 := by have := HSZ.out; have := HHL.out; omega
      clear hlt
      go_wp2
      go_ret
      exact ⟨ret_str (by rw [HIM.out]; exact HTT.out.symm), HB4.out⟩
end Go.Proofs.Ytjnggldalggfnaa
namespace Go.Proofs.Ytjnggldalggfnaa
open Go.RowKit
def refV (L : PLog.Lg) (va vl : Value) (fix : List UInt8) (fa : Nat) : Array Value := #[.int .i64 L.n, va, vl, .string ⟨L.head.toArray⟩, .int .u64 L.first, .int .u64 L.next, .int .u64 L.forced, .int .i64 L.reserved, .string ⟨fix.toArray⟩, .int .i64 fa]
/-- Block g is the document's log L (fix, fa: what its Open wrote); own: its blocks. -/
def IsRef (w : World) (g : Nat) (L : PLog.Lg) (fix : List UInt8) (fa : Nat) (own : List Nat) : Prop :=
  L.Ok ∧ ∃ va vl, w.heap[g]? = some (.cells (refV L va vl fix fa) 88 (0, 0)) ∧ Sl w 0 22 1 va L.starts.length (u64V L.starts) ∧ Sl w 0 9 1 vl L.texts.length (strV L.texts) ∧
    g ∉ ownsOf va ∧ g ∉ ownsOf vl ∧ (∀ k ∈ ownsOf va, k ∉ ownsOf vl) ∧ own = g :: (ownsOf va ++ ownsOf vl)
section
variable {w : World} {g fa : Nat} {L : PLog.Lg} {fix : List UInt8} {own : List Nat}
theorem IsRef.lt (h : IsRef w g L fix fa own) : ∀ k ∈ own, k < w.heap.size := by
  obtain ⟨_, va, vl, hb, hs, hl, _, _, _, rfl⟩ := h
  intro k hk
  simp only [List.mem_cons, List.mem_append] at hk
  rcases hk with rfl | hk | hk
  · exact (Array.getElem?_eq_some_iff.1 hb).1
  · refine (hs.lt k ?_).2
    unfold ownsOf at hk
    simpa using hk
  · refine (hl.lt k ?_).2
    unfold ownsOf at hk
    simpa using hk
theorem IsRef.turns {w' : World} {bs : List Nat} (h : IsRef w g L fix fa own) (t : Turns bs w w') (hd : ∀ k ∈ own, k ∉ bs) : IsRef w' g L fix fa own := by
  have hlt := h.lt
  obtain ⟨hk, va, vl, hb, hs, hl, h1, h2, h3, rfl⟩ := h
  refine ⟨hk, va, vl, (t.block g (hlt g (by simp)) (hd g (by simp))).trans hb, hs.keep fun k e => t.block k (hs.lt k e).2 (hd k ?_), hl.keep fun k e => t.block k (hl.lt k e).2 (hd k ?_), h1, h2, h3, rfl⟩
  · simp [ownsOf, e]
  · simp [ownsOf, e]
theorem IsRef.below {w' : World} (h : IsRef w g L fix fa own) (hb : Below w.heap.size w w') : IsRef w' g L fix fa own := h.turns (bs := []) (Turns.of_below hb) (by simp)
theorem IsRef.cells (h : IsRef w g L fix fa own) : w.cell? ⟨g, 0, none⟩ = some (.int .i64 L.n) ∧ w.cell? ⟨g, 3, none⟩ = some (.string ⟨L.head.toArray⟩) ∧ w.cell? ⟨g, 4, none⟩ = some (.int .u64 L.first) ∧ w.cell? ⟨g, 5, none⟩ = some (.int .u64 L.next) ∧
    w.cell? ⟨g, 6, none⟩ = some (.int .u64 L.forced) ∧ w.cell? ⟨g, 7, none⟩ = some (.int .i64 L.reserved) ∧ w.cell? ⟨g, 8, none⟩ = some (.string ⟨fix.toArray⟩) ∧ w.cell? ⟨g, 9, none⟩ = some (.int .i64 fa) := by
  obtain ⟨_, va, vl, hb, _⟩ := h
  simp [World.cell?, hb, refV]
end
end Go.Proofs.Ytjnggldalggfnaa
namespace Go.Proofs.Ytjnggldalggfnaa
open Go.RowKit
set_option maxRecDepth 100000 in
set_option maxHeartbeats 1000000 in
theorem rroom_any {g fa : Nat} {L : PLog.Lg} {fix : List UInt8} {own : List Nat} (w : World) (h : IsRef w g L fix fa own) :
    Calls Try.prog 56 #[.pointer (some ⟨g, 0, none⟩)] w fun e w' => e = .returned (.int .i64 (L.room : Nat)) ∧ Below w.heap.size w w' := by
  obtain ⟨c2, _, c6, c7, _, c9, _⟩ := h.cells
  have hn := h.1.n4
  have hn5 := h.1.n5
  have hnx := h.1.next5
  have hfn := L.first_next
  have hr := h.1.ring
  have hbl := PLog.begin_le L.first
  have HR : Hid ((L.room : Int) = (L.n : Int) * 110 - ((L.next : Int) - (PLog.begin L.first : Nat)) - L.reserved) := Lib.hid (by unfold PLog.Lg.room; omega)
  clear h
  obtain ⟨R, hR⟩ : ∃ R, L.room = R := ⟨_, rfl⟩
  obtain ⟨n, hnn⟩ : ∃ n, L.n = n := ⟨_, rfl⟩
  obtain ⟨x, hxx⟩ : ∃ x, L.next = x := ⟨_, rfl⟩
  obtain ⟨f, hff⟩ : ∃ f, L.first = f := ⟨_, rfl⟩
  obtain ⟨r, hrr⟩ : ∃ r, L.reserved = r := ⟨_, rfl⟩
  rw [hR, hnn, hxx, hff, hrr] at HR
  rw [hnn] at c2 hn hn5
  rw [hff] at c6
  rw [hxx] at c7 hnx
  rw [hrr] at c9
  rw [hxx, hff] at hfn
  rw [hxx, hff, hrr, hnn] at hr
  rw [hff] at hbl
  rw [hR]
  have HBG : Hid (∀ W, Calls Try.prog 71 #[.int .u64 f] W fun e w' => e = .returned (.int .u64 (PLog.begin f : Nat)) ∧ W = w') := Lib.hid (fun W => rbegin_any f (by omega) W)
  obtain ⟨B, hB⟩ : ∃ B, PLog.begin f = B := ⟨_, rfl⟩
  rw [hB] at HBG HR hbl hr
  obtain ⟨U, hU⟩ : ∃ U : Nat, U = x - B := ⟨_, rfl⟩
  obtain ⟨V, hV⟩ : ∃ V : Nat, V = n * 110 := ⟨_, rfl⟩
  obtain ⟨X, hX⟩ : ∃ X : Nat, X = V - U := ⟨_, rfl⟩
  have w1 : IntKind.i64.wrap ((n : Int) * 110) = V := by rw [IntWalk.i64_in _ (by omega)]; omega
  have w2 : IntKind.u64.wrap ((x : Int) - B) = U := by rw [IntWalk.u64_in _ (by omega)]; omega
  have w3 : IntKind.i64.wrap (U : Int) = U := IntWalk.i64_in _ (by omega)
  have w4 : IntKind.i64.wrap ((V : Int) - U) = X := by rw [IntWalk.i64_in _ (by omega)]; omega
  have w5 : IntKind.i64.wrap ((X : Int) - r) = R := by rw [IntWalk.i64_in _ (by have := HR.out; omega)]; have := HR.out; omega
  have z0 : max (0 : Int) (R : Int) = R := by omega
  clear hR hnn hxx hff hrr hB hU hV hX
  go_enter Try.func56, Try.ntmps56
  go_wp2_with fail
  go_quiet ((go_at_call 71; exact quiet_eq (HBG.out _)))
  go_wp2
  all_goals (
    go_ret
    exact ⟨ret_i64 (by omega), lowN _ _⟩)
end Go.Proofs.Ytjnggldalggfnaa
namespace PLog
def whereI (xs : List Nat) (t : Nat) : Int := if has xs t = true then (rank xs t : Nat) else -1
end PLog
namespace Go.Proofs.Ytjnggldalggfnaa
open Go.RowKit
theorem IsRef.at_rd {w : World} {g fa : Nat} {L : PLog.Lg} {fix : List UInt8} {own : List Nat} (h : IsRef w g L fix fa own) : ∃ va, w.cell? ⟨g, 1, none⟩ = some va ∧ Rd w va (u64V L.starts) := by
  obtain ⟨_, va, vl, hb, hs, hl, _⟩ := h
  exact ⟨va, by simp [World.cell?, hb, refV], Rd.of_sl hs⟩
set_option maxRecDepth 100000 in
set_option maxHeartbeats 1000000 in
theorem rwhere_any {g fa : Nat} {L : PLog.Lg} {fix : List UInt8} {own : List Nat} (w : World) (h : IsRef w g L fix fa own) (t : Nat) :
    Calls Try.prog 69 #[.pointer (some ⟨g, 0, none⟩), .int .u64 t] w fun e w' => e = .returned (.int .i64 (PLog.whereI L.starts t)) ∧ w = w' := by
  obtain ⟨va, c1, p, c, hv, hnc, hcm, hcell⟩ := h.at_rd
  have hl := Lg_starts_len h.1
  have hs : ∀ i j (hij : i < j) (hj : j < L.starts.length), L.starts[i]'(Nat.lt_trans hij hj) < L.starts[j] := PLog.startsOf_sorted _ _
  clear h
  generalize L.starts = xs at *
  rw [u64V_length] at hv hnc
  subst hv
  obtain ⟨n, hn⟩ : ∃ n, xs.length = n := ⟨_, rfl⟩
  have HN := Lib.hid hn
  rw [hn] at hnc c1
  have HC : Hid (∀ k (hk : k < n), ∃ g off, p = some ⟨g, off, none⟩ ∧ w.cell? ⟨g, off + k, none⟩ = some (.int .u64 (xs[k]'(by rw [HN.out]; exact hk) : Nat))) := Lib.hid (fun k hk => by
    have hk' : k < (u64V xs).length := by rw [u64V_length, hn]; exact hk
    obtain ⟨g, off, e1, e2, e3⟩ := hcell (fun e => by rw [e] at hk'; simp at hk')
    refine ⟨g, off, e1, ?_⟩
    rw [e3 k hk', u64V_at])
  have HF : Hid (∀ k (h : k < xs.length), xs[k] = t → PLog.whereI xs t = (k : Nat)) := Lib.hid (fun k hk e => by
    have hrk : PLog.rank xs t = k := PLog.rank_of (Nat.le_of_lt hk) (fun j hj hjk => by rw [← e]; exact hs j k hjk hk) (fun j hj hkj => by
      rcases Nat.eq_or_lt_of_le hkj with e1 | e1
      · subst e1; omega
      · have := hs k j e1 hj; omega)
    unfold PLog.whereI PLog.has
    rw [hrk, if_pos (by simp; rw [← e]; exact List.getElem_mem hk)])
  have HX : Hid ((∀ k (h : k < xs.length), xs[k] ≠ t) → PLog.whereI xs t = -1) := Lib.hid (fun hno => by
    unfold PLog.whereI PLog.has
    rw [if_neg]
    intro e
    have : t ∈ xs := by simpa using e
    obtain ⟨k, hk, e⟩ := List.getElem_of_mem this
    exact hno k hk e)
  rw [hn] at hl
  clear hn hcell hs hnc hcm
  go_enter Try.func69, Try.ntmps69
  go_wp2
  go_loop [5] (fun iv => ∃ i : Nat, i ≤ n ∧ iv = .int .i64 i ∧ Hid (∀ k (h : k < xs.length), k < i → xs[k] ≠ t)) (fun iv => n - (intOf iv).toNat)
  case atStart => exact ⟨0, Nat.zero_le _, rfl, Lib.hid (fun k h hk => absurd hk (Nat.not_lt_zero _))⟩
  case round =>
    obtain ⟨i, hin, rfl, H1⟩ := hrel
    by_cases hlt : i < n
    · obtain ⟨g2, off, hp, hc⟩ := HC.out i hlt
      subst hp
      have hix : i < xs.length := by rw [HN.out]; exact hlt
      have HE := Lib.hid (HF.out i hix)
      have H2 : Hid (xs[i] ≠ t → ∀ k (h : k < xs.length), k < i + 1 → xs[k] ≠ t) := Lib.hid (fun hne k hk hki => by
        rcases Nat.lt_or_ge k i with e | e
        · exact H1.out k hk e
        · have : k = i := by omega
          subst this; exact hne)
      generalize xs[i] = y at hc HE H2
      have i0 : (0 : Int) ≤ i := by omega
      have i1 : (i : Int) < n := by omega
      clear hix
      by_cases hy : y = t
      · have HW := Lib.hid (HE.out hy)
        subst hy
        go_wp2
        go_ret
        exact ⟨by rw [HW.out]; rfl, rfl⟩
      · have hy2 : ((y : Int) == t) = false := by rw [beq_eq_false_iff_ne]; omega
        have H3 := Lib.hid (H2.out hy)
        clear hy
        go_wp2
        exact ⟨⟨i + 1, by omega, by go_num, H3⟩, by simp [intOf]; omega⟩
    · have i1 : ¬ (i : Int) < n := by omega
      have HW := Lib.hid (HX.out (fun k hk => H1.out k hk (by have := HN.out; omega)))
      go_wp2
      go_ret
      exact ⟨by rw [HW.out]; rfl, rfl⟩
end Go.Proofs.Ytjnggldalggfnaa
namespace Go.Proofs.Ytjnggldalggfnaa
open Go.RowKit
theorem IsRef.text {w : World} {g fa : Nat} {L : PLog.Lg} {fix : List UInt8} {own : List Nat} (h : IsRef w g L fix fa own) {j : Nat} (hj : j < L.texts.length) : ∃ gl off c, w.cell? ⟨g, 2, none⟩ = some (.slice (some ⟨gl, off, none⟩) L.texts.length c) ∧ w.cell? ⟨gl, off + j, none⟩ = some (.string ⟨(L.texts[j]).toArray⟩) := by
  obtain ⟨_, va, vl, hb, _, hl, _⟩ := h
  have hr := Rd.of_sl hl
  obtain ⟨p, c, rfl, h2, h3, h4⟩ := hr
  have hj' : j < (strV L.texts).length := by rw [strV_length]; exact hj
  obtain ⟨gl, off, rfl, e2, e3⟩ := h4 (fun e => by rw [e] at hj'; simp at hj')
  refine ⟨gl, off, c, by simp [World.cell?, hb, refV, strV_length], ?_⟩
  rw [e3 j hj']
  simp [strV]
def RReadPost (L : PLog.Lg) (x : Nat) (w : World) (e : Ending) (w' : World) : Prop := e = .returned (.tuple #[.string ⟨(PLog.read L x).1.toArray⟩, .int .u64 (PLog.read L x).2.1, .int .i64 (PLog.read L x).2.2]) ∧ Below w.heap.size w w'
theorem rread_none {g fa : Nat} {L : PLog.Lg} {fix : List UInt8} {own : List Nat} (w : World) (h : IsRef w g L fix fa own) (x : Nat) (hx : PLog.isAt L x = false) :
    Calls Try.prog 55 #[.pointer (some ⟨g, 0, none⟩), .int .u64 x] w (RReadPost L x w) := by
  have HQ : Hid (PLog.read L x = ([], 0, 3)) := Lib.hid (by unfold PLog.read; rw [hx]; rfl)
  have hw := rwhere_any w h x
  rw [show PLog.whereI L.starts x = -1 from by unfold PLog.whereI; rw [if_neg]; intro e; unfold PLog.isAt at hx; rw [hx] at e; exact absurd e (by decide)] at hw
  have HW := Lib.hid hw
  clear hw h hx
  go_enter Try.func55, Try.ntmps55
  go_wp2_with fail
  refine HW.out.mono ?_; rintro e w1 ⟨rfl, rfl⟩
  go_wp2
  go_ret3
  unfold RReadPost
  rw [HQ.out]
  exact ⟨rfl, Below.refl _ _⟩
set_option maxRecDepth 100000 in
set_option maxHeartbeats 1000000 in
theorem rread_at {g fa : Nat} {L : PLog.Lg} {fix : List UInt8} {own : List Nat} (w : World) (h : IsRef w g L fix fa own) (j : Nat) (hj : j < L.texts.length) :
    Calls Try.prog 55 #[.pointer (some ⟨g, 0, none⟩), .int .u64 (PLog.endOf L.first (L.texts.take j) : Nat)] w (RReadPost L (PLog.endOf L.first (L.texts.take j)) w) := by
  have HQ := Lib.hid (PLog.read_at (L := L) hj)
  have hw := rwhere_any w h (PLog.endOf L.first (L.texts.take j))
  have hat : PLog.has L.starts (PLog.endOf L.first (L.texts.take j)) = true := (PLog.isAt_iff L _).2 ⟨j, hj, rfl⟩
  rw [show PLog.whereI L.starts (PLog.endOf L.first (L.texts.take j)) = (j : Nat) from by unfold PLog.whereI; rw [if_pos hat, show PLog.rank L.starts (PLog.endOf L.first (L.texts.take j)) = j from PLog.rank_starts L.texts L.first j (by omega)]] at hw
  have HW := Lib.hid hw
  obtain ⟨gl, off, c, c2, ct⟩ := h.text hj
  have hk := h.1
  have hnx := hk.next5
  have hm := PLog.endOf_take_succ L.texts L.first j hj
  have hhi := PLog.endOf_take_le L.texts L.first (j + 1) L.texts.length (by omega)
  rw [List.take_length] at hhi
  have hnn : L.next = PLog.endOf L.first L.texts := rfl
  rw [← hnn] at hhi
  obtain ⟨lo, hlo⟩ : ∃ lo, PLog.endOf L.first (L.texts.take j) = lo := ⟨_, rfl⟩
  obtain ⟨hi, hhi'⟩ : ∃ hi, PLog.endOf L.first (L.texts.take (j + 1)) = hi := ⟨_, rfl⟩
  obtain ⟨t, ht⟩ : ∃ t, L.texts[j] = t := ⟨_, rfl⟩
  rw [hlo, hhi', ht] at hm
  rw [hhi'] at hhi HQ
  rw [hlo] at HQ HW ⊢
  rw [ht] at HQ ct
  obtain ⟨s, hs⟩ : ∃ s : ByteArray, (⟨t.toArray⟩ : ByteArray) = s := ⟨_, rfl⟩
  have hsz : t.length = s.size := by rw [← hs]; rfl
  rw [hs] at ct
  have HS := Lib.hid hs
  obtain ⟨n, hn⟩ : ∃ n, L.texts.length = n := ⟨_, rfl⟩
  rw [hn] at c2 hj
  obtain ⟨S, hS⟩ : ∃ S, S = 14 + s.size := ⟨_, rfl⟩
  have w1 : IntKind.i64.wrap ((14 : Int) + s.size) = S := by rw [IntWalk.i64_in _ (by omega)]; omega
  have w2 : IntKind.u64.wrap (S : Int) = S := IntWalk.u64_in _ (by omega)
  have w3 : IntKind.u64.wrap ((lo : Int) + S) = hi := by rw [IntWalk.u64_in _ (by omega)]; omega
  have i0 : (0 : Int) ≤ j := by omega
  have i1 : (j : Int) < n := by omega
  have i2 : ¬ (j : Int) < 0 := by omega
  clear h hk hnn hlo hhi' ht hs hsz hn hS hw hat hm
  go_enter Try.func55, Try.ntmps55
  go_wp2_with fail
  refine HW.out.mono ?_; rintro e w1 ⟨rfl, rfl⟩
  go_wp2_with fail
  go_quiet (fail)
  go_wp2
  go_ret3
  unfold RReadPost
  rw [HQ.out, HS.out]
  exact ⟨rfl, lowN _ _⟩
end Go.Proofs.Ytjnggldalggfnaa
namespace Go.Proofs.Ytjnggldalggfnaa
open Go.RowKit
def RefPost (v : Value) (g : Nat) (L' : PLog.Lg) (fix : List UInt8) (fa : Nat) (own : List Nat) (w : World) (e : Ending) (w' : World) : Prop := ∃ own', e = .returned v ∧ IsRef w' g L' fix fa own' ∧ Stepped w w' own own'
theorem RefPost.same {v : Value} {g fa : Nat} {L : PLog.Lg} {fix : List UInt8} {own : List Nat} {w w' : World} {e : Ending} (he : e = .returned v) (h : IsRef w g L fix fa own) (hb : Below w.heap.size w w') : RefPost v g L fix fa own w e w' := ⟨own, he, h.below hb, Stepped.of_below hb own⟩
section
variable {w : World} {g fa : Nat} {L : PLog.Lg} {fix : List UInt8} {own : List Nat}
theorem IsRef.mem (h : IsRef w g L fix fa own) : g ∈ own := by
  obtain ⟨_, va, vl, _, _, _, _, _, _, rfl⟩ := h
  simp
theorem IsRef.shut (h : IsRef w g L fix fa own) (j : Nat) : w.frozen? ⟨g, j, none⟩ = false := by
  obtain ⟨_, va, vl, hb, _⟩ := h
  simp [World.frozen?, hb]
theorem IsRef.field {L' : PLog.Lg} (h : IsRef w g L fix fa own) (hk : L'.Ok) (hB : L'.starts = L.starts) (hS : L'.texts = L.texts) (j : Nat) (v : Value)
    (hv : ∀ va vl, (refV L va vl fix fa).setIfInBounds j v = refV L' va vl fix fa) : IsRef (w.setCell ⟨g, j, none⟩ v) g L' fix fa own ∧ Stepped w (w.setCell ⟨g, j, none⟩ v) own own := by
  have hm := h.mem
  obtain ⟨_, va, vl, hb, hs, hl, h1, h2, h3, rfl⟩ := h
  refine ⟨⟨hk, va, vl, ?_, ?_, ?_, h1, h2, h3, rfl⟩, Turns.cell v hm, fun _ h => .inl h⟩
  · rw [heap_set hb, hv]
  · rw [hB]
    exact hs.keep fun k e => Below.heap_setCell w ⟨g, j, none⟩ v k (fun e2 => h1 (by simp at e2; subst e2; simp [ownsOf, e]))
  · rw [hS]
    exact hl.keep fun k e => Below.heap_setCell w ⟨g, j, none⟩ v k (fun e2 => h2 (by simp at e2; subst e2; simp [ownsOf, e]))
end
theorem IsRef.setReserved {w : World} {g fa : Nat} {L : PLog.Lg} {fix : List UInt8} {own : List Nat} (h : IsRef w g L fix fa own) (r : Nat) (hr : ({ L with reserved := r } : PLog.Lg).Ok) (v : Value) (hv : v = .int .i64 r) :
    IsRef (w.setCell ⟨g, 7, none⟩ v) g { L with reserved := r } fix fa own ∧ Stepped w (w.setCell ⟨g, 7, none⟩ v) own own := by
  subst hv
  exact h.field hr rfl rfl 7 _ (fun vb vs => by simp [refV]; rfl)
set_option maxHeartbeats 1000000 in
theorem rreserve_any {g fa : Nat} {L : PLog.Lg} {fix : List UInt8} {own : List Nat} (w : World) (h : IsRef w g L fix fa own) (n : Int) (hn1 : -9223372036854775808 ≤ n) (hn2 : n ≤ 9223372036854775807) :
    Calls Try.prog 50 #[.pointer (some ⟨g, 0, none⟩), .int .i64 n] w (RefPost (.int .i64 (PLog.reserve L n).2) g (PLog.reserve L n).1 fix fa own w) := by
  have H := Lib.hid h
  obtain ⟨_, _, _, _, _, c9, _⟩ := h.cells
  have hsh := h.shut 7
  have hr := h.1.ring
  have hn5 := h.1.n5
  have hbk := PLog.reserve_ok h.1 n
  have hgl := h.lt g h.mem
  have HRM : Hid (∀ W, IsRef W g L fix fa own → Calls Try.prog 56 #[.pointer (some ⟨g, 0, none⟩)] W fun e w' => e = .returned (.int .i64 (L.room : Nat)) ∧ Below W.heap.size W w') := Lib.hid (fun W hW => rroom_any W hW)
  have hroom : L.room ≤ 450560 := by unfold PLog.Lg.room; omega
  obtain ⟨R, hR⟩ : ∃ R, L.room = R := ⟨_, rfl⟩
  obtain ⟨r, hrr⟩ : ∃ r, L.reserved = r := ⟨_, rfl⟩
  have hrl : r ≤ 450560 := by omega
  have HQ : Hid (PLog.reserve L n = if (R : Int) < n then (L, 4) else if n < -(r : Int) then (L, 2) else ({ L with reserved := ((r : Int) + n).toNat }, 0)) := Lib.hid (by unfold PLog.reserve; rw [hR, hrr])
  rw [hR] at HRM hroom
  rw [hrr] at c9
  have w1 : IntKind.i64.wrap (-(r : Int)) = -(r : Int) := IntWalk.i64_in _ (by omega)
  by_cases h1 : (R : Int) < n
  · have HQ1 : Hid (PLog.reserve L n = (L, 4)) := Lib.hid (by rw [HQ.out, if_pos h1])
    clear h hbk hR hrr HQ hr
    go_enter Try.func50, Try.ntmps50
    go_wp2_with fail
    refine (HRM.out _ H.out).mono ?_; rintro e w1 ⟨rfl, hb⟩
    have HB := Lib.hid hb
    clear hb
    go_wp2
    go_ret
    rw [HQ1.out]
    exact RefPost.same rfl H.out HB.out
  by_cases h2 : n < -(r : Int)
  · have HQ1 : Hid (PLog.reserve L n = (L, 2)) := Lib.hid (by rw [HQ.out, if_neg h1, if_pos h2])
    clear h hbk hR hrr HQ hr
    go_enter Try.func50, Try.ntmps50
    go_wp2_with fail
    refine (HRM.out _ H.out).mono ?_; rintro e w1 ⟨rfl, hb⟩
    have HB := Lib.hid hb
    have c9' := (hb.cell (p := ⟨g, 7, none⟩) hgl).trans c9
    clear hb c9
    go_wp2
    go_ret
    rw [HQ1.out]
    exact RefPost.same rfl H.out HB.out
  obtain ⟨T, hT⟩ : ∃ T : Nat, ((r : Int) + n).toNat = T := ⟨_, rfl⟩
  have HQ1 : Hid (PLog.reserve L n = ({ L with reserved := T }, 0)) := Lib.hid (by rw [HQ.out, if_neg h1, if_neg h2, hT])
  rw [HQ1.out] at hbk
  have HOK := Lib.hid hbk
  have hTi : (T : Int) = r + n := by omega
  have HT := Lib.hid hTi
  have w2 : IntKind.i64.wrap ((r : Int) + n) = T := by rw [IntWalk.i64_in _ (by omega)]; omega
  clear h hbk hR hrr HQ hr hT hTi
  go_enter Try.func50, Try.ntmps50
  go_wp2_with fail
  refine (HRM.out _ H.out).mono ?_; rintro e w1 ⟨rfl, hb⟩
  have HB := Lib.hid hb
  have c9' := (hb.cell (p := ⟨g, 7, none⟩) hgl).trans c9
  have hsh' := (hb.frozen (p := ⟨g, 7, none⟩) hgl).trans hsh
  clear hb c9 hsh
  go_wp2
  go_ret
  rw [HQ1.out]
  obtain ⟨k1, k2⟩ := (H.out.below HB.out).setReserved T HOK.out _ rfl
  exact ⟨own, rfl, k1, (Stepped.of_below HB.out own).trans k2⟩
end Go.Proofs.Ytjnggldalggfnaa
namespace Go.Proofs.Ytjnggldalggfnaa
open Go.RowKit
theorem IsRef.fresh (w : World) {pl n life : Nat} (hk : (PLog.fresh pl n life).Ok) : IsRef (w.alloc (.cells (refV (PLog.fresh pl n life) (.slice none 0 0) (.slice none 0 0) [] 0) 88)) w.heap.size (PLog.fresh pl n life) [] 0 [w.heap.size] :=
  ⟨hk, _, _, heap_alloc_new _ _, Sl.nil _ 0 _ 1, Sl.nil _ 0 _ 1, by simp [ownsOf, Value.ownBlock], by simp [ownsOf, Value.ownBlock], by simp [ownsOf, Value.ownBlock], by simp [ownsOf, Value.ownBlock]⟩
def RNewPost (pl n life : Nat) (w : World) (e : Ending) (w' : World) : Prop := ∃ g, e = .returned (.pointer (some ⟨g, 0, none⟩)) ∧ IsRef w' g (PLog.fresh pl n life) [] 0 [g] ∧ w.heap.size ≤ g ∧ Below w.heap.size w w'
theorem rnew_any (w : World) (pl n life : Nat) (hk : (PLog.fresh pl n life).Ok) : Calls Try.prog 45 #[.int .i64 n] w (RNewPost pl n life w) := by
  have HF := Lib.hid (IsRef.fresh w hk)
  clear hk
  go_enter Try.func45, Try.ntmps45
  go_wp2
  go_ret
  exact ⟨w.heap.size, rfl, HF.out, Nat.le_refl _, (Below.refl _ _).alloc (Nat.le_refl _) _⟩
end Go.Proofs.Ytjnggldalggfnaa
namespace Go.Proofs.Ytjnggldalggfnaa
open Go.RowKit
def RAppPost (g : Nat) (L : PLog.Lg) (s : List UInt8) (fix : List UInt8) (fa : Nat) (own : List Nat) (w : World) (e : Ending) (w' : World) : Prop := RefPost (.tuple #[.int .u64 (PLog.append L s).2.1, .int .i64 (PLog.append L s).2.2]) g (PLog.append L s).1 fix fa own w e w'
theorem rappend_no {g fa : Nat} {L : PLog.Lg} {fix : List UInt8} {own : List Nat} (w : World) (h : IsRef w g L fix fa own) (s : ByteArray) (hno : s.size < 1 ∨ 4096 < s.size) :
    Calls Try.prog 46 #[.pointer (some ⟨g, 0, none⟩), .string s] w (RAppPost g L s.data.toList fix fa own w) := by
  have hls := list_size s
  have HQ : Hid (PLog.append L s.data.toList = (L, 0, 2)) := Lib.hid (by
    unfold PLog.append
    rw [if_pos (by omega)])
  have H := Lib.hid h
  clear h hls
  rcases Nat.lt_or_ge s.size 1 with h1 | h1
  · have z1 : (s.size : Int) < 1 := by omega
    clear hno h1
    go_enter Try.func46, Try.ntmps46
    go_wp2
    go_ret2
    unfold RAppPost
    rw [HQ.out]
    exact RefPost.same rfl H.out (Below.refl _ _)
  · have z1 : ¬ (s.size : Int) < 1 := by omega
    have z2 : (4096 : Int) < s.size := by omega
    clear hno h1
    go_enter Try.func46, Try.ntmps46
    go_wp2
    go_ret2
    unfold RAppPost
    rw [HQ.out]
    exact RefPost.same rfl H.out (Below.refl _ _)
theorem rappend_full {g fa : Nat} {L : PLog.Lg} {fix : List UInt8} {own : List Nat} (w : World) (h : IsRef w g L fix fa own) (s : ByteArray) (h1 : 1 ≤ s.size) (h2 : s.size ≤ 4096) (h3 : L.room < s.size + 14) :
    Calls Try.prog 46 #[.pointer (some ⟨g, 0, none⟩), .string s] w (RAppPost g L s.data.toList fix fa own w) := by
  have hls := list_size s
  have HQ : Hid (PLog.append L s.data.toList = (L, 0, 4)) := Lib.hid (by
    unfold PLog.append
    rw [if_neg (by omega), if_pos (by omega)])
  have H := Lib.hid h
  have HRM := Lib.hid (fun W (hW : IsRef W g L fix fa own) => rroom_any W hW)
  obtain ⟨R, hR⟩ : ∃ R, L.room = R := ⟨_, rfl⟩
  rw [hR] at HRM h3
  obtain ⟨S, hS⟩ : ∃ S, S = 14 + s.size := ⟨_, rfl⟩
  have w1 : IntKind.i64.wrap ((14 : Int) + s.size) = S := by rw [IntWalk.i64_in _ (by omega)]; omega
  have z1 : ¬ (s.size : Int) < 1 := by omega
  have z2 : ¬ (4096 : Int) < s.size := by omega
  have z3 : (R : Int) < S := by omega
  clear h hls hR hS h3
  go_enter Try.func46, Try.ntmps46
  go_wp2_with fail
  refine (HRM.out _ H.out).mono ?_; rintro e w2 ⟨rfl, hb⟩
  have HB := Lib.hid hb
  clear hb
  go_wp2
  go_ret2
  unfold RAppPost
  rw [HQ.out]
  exact RefPost.same rfl H.out HB.out
end Go.Proofs.Ytjnggldalggfnaa
