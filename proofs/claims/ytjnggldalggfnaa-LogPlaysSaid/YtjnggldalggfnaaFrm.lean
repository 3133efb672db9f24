/-
  Frames: what each function of the program computes.
-/
import Derived.Test.YtjnggldalggfnaaPFrm
import Derived.Test.YtjnggldalggfnaaWord
import Derived.Test.YtjnggldalggfnaaSum
import Derived.Deep.RegionWith
namespace Go.Proofs.Ytjnggldalggfnaa
open Go.RowKit
set_option maxHeartbeats 1000000 in
theorem fsize_any (n : Int) (h1 : -9223372036854775808 ≤ n) (h2 : n ≤ 9223372036854775807) (w : World) : Calls Try.prog 36 #[.int .i64 n] w fun e w' => e = .returned (.int .i64 (PFrm.size n)) ∧ w = w' := by
  by_cases c1 : n < 1
  · have hno : Hid (PFrm.size n = 0) := by unfold Hid PFrm.size; rw [if_pos (by omega)]
    go_enter Try.func36, Try.ntmps36
    go_wp2
    go_ret
    rw [hno.out]
    exact ⟨rfl, rfl⟩
  by_cases c2 : 4096 < n
  · have hno : Hid (PFrm.size n = 0) := by unfold Hid PFrm.size; rw [if_pos (by omega)]
    go_enter Try.func36, Try.ntmps36
    go_wp2
    go_ret
    rw [hno.out]
    exact ⟨rfl, rfl⟩
  have hno : Hid (PFrm.size n = 14 + n) := by unfold Hid PFrm.size; rw [if_neg (by omega)]
  go_enter Try.func36, Try.ntmps36
  go_wp2
  go_ret
  rw [hno.out]
  exact ⟨rfl, rfl⟩
theorem extract_end (s : ByteArray) (n : Nat) : s.extract n s.size = ⟨(s.data.toList.drop n).toArray⟩ := by
  rw [extract_mid, List.take_of_length_le (by rw [List.length_drop, list_size]; omega)]
set_option maxHeartbeats 1000000 in
theorem sealed_any (h s : ByteArray) (hh : h.size ≤ 100000) (hs : s.size ≤ 100000) (w : World) : Calls Try.prog 58 #[.string h, .string s] w fun e w' => e = .returned (.string ⟨(PFrm.tail4 h.data.toList s.data.toList).toArray⟩) ∧ Below w.heap.size w w' := by
  have hsz : (h ++ s).size = h.size + s.size := ByteArray.size_append
  go_enter Try.func58, Try.ntmps58
  go_wp2_with fail
  refine (seal_any _ (by omega) _).mono ?_; rintro e w1 ⟨rfl, hb⟩
  have e1 : (h ++ s).data.toList = h.data.toList ++ s.data.toList := by simp
  rw [e1]
  have hl : (PSum.sealL (h.data.toList ++ s.data.toList)).length = h.size + s.size + 4 := by rw [PSum.seal_length]; simp
  have hd := PFrm.sealL_drop h.data.toList s.data.toList
  rw [hl, show h.size + s.size + 4 - 4 = h.size + s.size by omega] at hd
  generalize PSum.sealL (h.data.toList ++ s.data.toList) = L at *
  obtain ⟨t, ht⟩ : ∃ t : ByteArray, (⟨L.toArray⟩ : ByteArray) = t := ⟨_, rfl⟩
  have hL : t.data.toList = L := by rw [← ht]
  have hts : t.size = h.size + s.size + 4 := by rw [← list_size, hL, hl]
  have hx := extract_end t (h.size + s.size)
  rw [hL, hd, hts] at hx
  have hx' := Lib.hid hx
  rw [ht]
  clear hx hl hd hsz e1 hL ht
  go_wp2
  go_ret
  exact ⟨ret_str hx'.out, hb⟩
theorem put2 (n : Nat) (h : n ≤ 4096) : PWord.put n 2 = (PWord.be 2 n, true) := put_yes n 2 (by omega) (by omega) (Nat.div_eq_of_lt (by have : (256 : Nat) ^ 2 = 65536 := rfl; omega))
theorem put8 (n : Nat) (h : n < 18446744073709551616) : PWord.put n 8 = (PWord.be 8 n, true) := put_yes n 8 (by omega) (by omega) (Nat.div_eq_of_lt (by have : (256 : Nat) ^ 8 = 18446744073709551616 := rfl; omega))
theorem enc_no (lsn : Nat) (l : List UInt8) (h : l.length < 1 ∨ 4096 < l.length ∨ lsn = 0) : PFrm.encode lsn l = ([], 2) := by
  unfold PFrm.encode
  rw [if_neg]
  intro hm
  have := (PFrm.may_iff lsn l).1 hm
  omega
theorem enc_yes (lsn : Nat) (l : List UInt8) (h1 : 1 ≤ l.length) (h2 : l.length ≤ 4096) (h3 : lsn ≠ 0) : PFrm.encode lsn l = (PFrm.frame lsn l, 0) := by
  unfold PFrm.encode
  rw [if_pos ((PFrm.may_iff lsn l).2 ⟨h1, h2, h3⟩)]
theorem ret_si {a b : ByteArray} {k : IntKind} {c : Int} (h : a = b) : Ending.returned (.tuple #[.string a, .int k c]) = Ending.returned (.tuple #[.string b, .int k c]) := by rw [h]
set_option maxRecDepth 100000 in
set_option maxHeartbeats 1000000 in
theorem encode_any (lsn : Nat) (s : ByteArray) (hl : lsn < 18446744073709551616) (hs : s.size ≤ maxLen) (w : World) : Calls Try.prog 30 #[.int .u64 lsn, .string s] w fun e w' => e = .returned (.tuple #[.string ⟨(PFrm.encode lsn s.data.toList).1.toArray⟩, .int .i64 (PFrm.encode lsn s.data.toList).2]) ∧ Below w.heap.size w w' := by
  unfold maxLen at hs
  have hls := list_size s
  by_cases c1 : s.size < 1 ∨ 4096 < s.size
  · have hno := Lib.hid (enc_no lsn s.data.toList (by omega))
    have hz : PFrm.size (s.size : Int) = 0 := by unfold PFrm.size; rw [if_pos (by omega)]
    clear c1 hls
    go_enter Try.func30, Try.ntmps30
    go_wp2_with fail
    refine (fsize_any _ (by omega) (by omega) _).mono ?_; rintro e w1 ⟨rfl, rfl⟩
    go_wp2
    go_ret2
    rw [hno.out]
    exact ⟨rfl, Below.refl _ _⟩
  · have hz : PFrm.size (s.size : Int) = 14 + (s.size : Int) := by unfold PFrm.size; rw [if_neg (by omega)]
    have hz0 : (14 + (s.size : Int) == 0) = false := by rw [beq_eq_false_iff_ne]; omega
    by_cases c2 : lsn = 0
    · have hno := Lib.hid (enc_no lsn s.data.toList (by omega))
      subst c2
      clear hls c1
      go_enter Try.func30, Try.ntmps30
      go_wp2_with fail
      refine (fsize_any _ (by omega) (by omega) _).mono ?_; rintro e w1 ⟨rfl, rfl⟩
      go_wp2
      go_ret2
      rw [hno.out]
      exact ⟨rfl, Below.refl _ _⟩
    · have hyes := Lib.hid (enc_yes lsn s.data.toList (by omega) (by omega) c2)
      have hl0 : ((lsn : Int) == 0) = false := by rw [beq_eq_false_iff_ne]; omega
      have hp2 := Lib.hid (put2 s.size (by omega))
      have hp8 := Lib.hid (put8 lsn hl)
      have hb2 := PWord.be_length 2 s.size
      have hb8 := PWord.be_length 8 lsn
      have hB := Below.refl w.heap.size w
      have hs4 : s.size ≤ 4096 := by omega
      have hfr : Hid (PFrm.frame lsn s.data.toList = PWord.be 2 s.size ++ PWord.be 8 lsn ++ PFrm.tail4 (PWord.be 2 s.size ++ PWord.be 8 lsn) s.data.toList ++ s.data.toList) := by
        unfold Hid PFrm.frame PFrm.head; rw [hls]
      have c2' := Lib.hid c2
      have h4 := PFrm.tail4_length (PWord.be 2 s.size ++ PWord.be 8 lsn) s.data.toList
      clear hls c1 c2
      generalize PWord.be 2 s.size = B2 at *
      generalize PWord.be 8 lsn = B8 at *
      go_enter Try.func30, Try.ntmps30
      go_wp2_with fail
      refine (fsize_any _ (by omega) (by omega) _).mono ?_; rintro e w1 ⟨rfl, rfl⟩
      go_wp2_with fail
      refine (put_any s.size 2 (by omega) _).mono ?_; rintro e w2 ⟨rfl, hb⟩; replace hB := hB.step hb; clear hb
      rw [hp2.out]
      go_wp2_with fail
      refine (put_any lsn 8 hl _).mono ?_; rintro e w3 ⟨rfl, hb⟩; replace hB := hB.step hb; clear hb
      rw [hp8.out]
      go_wp2_with fail
      refine (sealed_any _ _ ?_ (by omega) _).mono ?_
      · rw [ByteArray.size_append, size_mk, size_mk, hb2, hb8]; decide
      rintro e w4 ⟨rfl, hb⟩; replace hB := hB.step hb; clear hb
      rw [show ((⟨B2.toArray⟩ : ByteArray) ++ ⟨B8.toArray⟩).data.toList = B2 ++ B8 by simp]
      go_wp2
      go_ret2
      rw [hyes.out, hfr.out]
      refine ⟨ret_si ?_, hB⟩
      rw [app_mk]
      simp

/-! ### Decode -/
theorem get_in (s : ByteArray) (p k : Nat) (h : p + k ≤ s.size) (h1 : 1 ≤ k) (h8 : k ≤ 8) : PWord.get s.data.toList p k = (PWord.val ((s.data.toList.drop p).take k), true) := by
  unfold PWord.get
  have hi : PWord.inside s.data.toList.length p k = true := by rw [list_size]; exact (inside_iff _ _ _).2 (by omega)
  have e1 : decide (1 ≤ (k : Int)) = true := by simp; omega
  have e8 : decide ((k : Int) ≤ 8) = true := by simp; omega
  rw [hi, e1, e8]
  simp
theorem ret_sii {a b : ByteArray} {k k' : IntKind} {c d d' : Int} (h : a = b) (hd : d = d') : Ending.returned (.tuple #[.string a, .int k d, .int k' c]) = Ending.returned (.tuple #[.string b, .int k d', .int k' c]) := by rw [h, hd]
theorem dec_lt (l : List UInt8) (lsn : Nat) (h : l.length < 14) : PFrm.decode l lsn = ([], 0, 6) := by unfold PFrm.decode; rw [if_pos h]
theorem dec_form (l : List UInt8) (lsn : Nat) (h : ¬ l.length < 14) (h2 : PWord.val (l.take 2) < 1 ∨ PWord.val (l.take 2) > 4096 ∨ PWord.val ((l.drop 2).take 8) ≠ lsn ∨ lsn = 0) : PFrm.decode l lsn = ([], 0, 7) := by
  unfold PFrm.decode; rw [if_neg h, if_pos h2]
theorem dec_end (l : List UInt8) (lsn : Nat) (h : ¬ l.length < 14) (h2 : ¬ (PWord.val (l.take 2) < 1 ∨ PWord.val (l.take 2) > 4096 ∨ PWord.val ((l.drop 2).take 8) ≠ lsn ∨ lsn = 0)) (h3 : l.length < 14 + PWord.val (l.take 2)) : PFrm.decode l lsn = ([], 0, 6) := by
  unfold PFrm.decode; rw [if_neg h, if_neg h2, if_pos h3]
theorem dec_sum (l : List UInt8) (lsn : Nat) (h : ¬ l.length < 14) (h2 : ¬ (PWord.val (l.take 2) < 1 ∨ PWord.val (l.take 2) > 4096 ∨ PWord.val ((l.drop 2).take 8) ≠ lsn ∨ lsn = 0)) (h3 : ¬ l.length < 14 + PWord.val (l.take 2))
    (h4 : ¬ PFrm.tail4 (l.take 10) ((l.drop 14).take (PWord.val (l.take 2))) = (l.drop 10).take 4) : PFrm.decode l lsn = ([], 0, 100) := by
  unfold PFrm.decode; rw [if_neg h, if_neg h2, if_neg h3, if_pos h4]
theorem dec_ok (l : List UInt8) (lsn : Nat) (h : ¬ l.length < 14) (h2 : ¬ (PWord.val (l.take 2) < 1 ∨ PWord.val (l.take 2) > 4096 ∨ PWord.val ((l.drop 2).take 8) ≠ lsn ∨ lsn = 0)) (h3 : ¬ l.length < 14 + PWord.val (l.take 2))
    (h4 : PFrm.tail4 (l.take 10) ((l.drop 14).take (PWord.val (l.take 2))) = (l.drop 10).take 4) : PFrm.decode l lsn = ((l.drop 14).take (PWord.val (l.take 2)), 14 + (PWord.val (l.take 2) : Int), 0) := by
  unfold PFrm.decode; rw [if_neg h, if_neg h2, if_neg h3, if_neg (by simpa using h4)]
set_option maxRecDepth 100000 in
set_option maxHeartbeats 1000000 in
theorem decode_any (s : ByteArray) (lsn : Nat) (hl : lsn < 18446744073709551616) (hs : s.size ≤ maxLen) (w : World) : Calls Try.prog 79 #[.string s, .int .u64 lsn] w fun e w' => e = .returned (.tuple #[.string ⟨(PFrm.decode s.data.toList lsn).1.toArray⟩, .int .i64 (PFrm.decode s.data.toList lsn).2.1, .int .i64 (PFrm.decode s.data.toList lsn).2.2]) ∧ Below w.heap.size w w' := by
  have hs' := Lib.hid hs
  unfold maxLen at hs
  have hls := list_size s
  have hB := Below.refl w.heap.size w
  by_cases c1 : s.size < 14
  · have hno := Lib.hid (dec_lt s.data.toList lsn (by omega))
    clear hls
    go_enter Try.func79, Try.ntmps79
    go_wp2
    go_ret3
    rw [hno.out]
    exact ⟨rfl, hB⟩
  · have hg2 := get_in s 0 2 (by omega) (by omega) (by omega)
    have hg8 := get_in s 2 8 (by omega) (by omega) (by omega)
    rw [List.drop_zero] at hg2
    have hg2' : Hid (PWord.get s.data.toList 0 2 = _) := hg2
    have hg8' : Hid (PWord.get s.data.toList 2 8 = _) := hg8
    clear hg2 hg8
    have hv2 := PWord.val_lt 2 (s.data.toList.take 2) (by rw [List.length_take, hls]; omega)
    have hv8 := PWord.val_lt 8 ((s.data.toList.drop 2).take 8) (by rw [List.length_take, List.length_drop, hls]; omega)
    rw [show (256 : Nat) ^ 2 = 65536 from rfl] at hv2
    rw [show (256 : Nat) ^ 8 = 18446744073709551616 from rfl] at hv8
    have hform : _ → Hid (PFrm.decode s.data.toList lsn = ([], 0, 7)) := dec_form s.data.toList lsn (by omega)
    have hend : _ → _ → Hid (PFrm.decode s.data.toList lsn = ([], 0, 6)) := dec_end s.data.toList lsn (by omega)
    have hsum : _ → _ → _ → Hid (PFrm.decode s.data.toList lsn = ([], 0, 100)) := dec_sum s.data.toList lsn (by omega)
    have hok : _ → _ → _ → Hid (PFrm.decode s.data.toList lsn = _) := dec_ok s.data.toList lsn (by omega)
    generalize PWord.val (s.data.toList.take 2) = n at *
    generalize PWord.val ((s.data.toList.drop 2).take 8) = q at *
    by_cases c2 : n < 1 ∨ n > 4096 ∨ q ≠ lsn ∨ lsn = 0
    · have hno := hform c2
      clear hform hend hsum hok
      by_cases c3 : n < 1 ∨ n > 4096
      · have hz' : Hid (PFrm.size (n : Int) = 0) := by unfold Hid PFrm.size; rw [if_pos (by omega)]
        clear c2 c3 hls
        go_enter Try.func79, Try.ntmps79
        go_wp2_with fail
        refine (get_any s 0 2 hs'.out _).mono ?_; rintro e w1 ⟨rfl, hb⟩; replace hB := hB.step hb; clear hb
        rw [hg2'.out]
        go_wp2_with fail
        refine (get_any s 2 8 hs'.out _).mono ?_; rintro e w2 ⟨rfl, hb⟩; replace hB := hB.step hb; clear hb
        rw [hg8'.out]
        go_wp2_with fail
        refine (fsize_any _ (by omega) (by omega) _).mono ?_; rintro e w3 ⟨rfl, rfl⟩
        rw [hz'.out]
        go_wp2
        go_ret3
        rw [hno.out]
        exact ⟨rfl, hB⟩
      · have hz' : Hid (PFrm.size (n : Int) = 14 + n) := by unfold Hid PFrm.size; rw [if_neg (by omega)]
        have hz0 : (14 + (n : Int) == 0) = false := by rw [beq_eq_false_iff_ne]; omega
        by_cases c4 : q = lsn
        · subst c4
          have c5 : q = 0 := by omega
          subst c5
          clear c2 c3 hls
          go_enter Try.func79, Try.ntmps79
          go_wp2_with fail
          refine (get_any s 0 2 hs'.out _).mono ?_; rintro e w1 ⟨rfl, hb⟩; replace hB := hB.step hb; clear hb
          rw [hg2'.out]
          go_wp2_with fail
          refine (get_any s 2 8 hs'.out _).mono ?_; rintro e w2 ⟨rfl, hb⟩; replace hB := hB.step hb; clear hb
          rw [hg8'.out]
          go_wp2_with fail
          refine (fsize_any _ (by omega) (by omega) _).mono ?_; rintro e w3 ⟨rfl, rfl⟩
          rw [hz'.out]
          go_wp2
          go_ret3
          rw [hno.out]
          exact ⟨rfl, hB⟩
        · have hq : ((q : Int) != (lsn : Int)) = true := by rw [bne_iff_ne]; omega
          have c4' := Lib.hid c4
          clear c2 c3 hls c4
          go_enter Try.func79, Try.ntmps79
          go_wp2_with fail
          refine (get_any s 0 2 hs'.out _).mono ?_; rintro e w1 ⟨rfl, hb⟩; replace hB := hB.step hb; clear hb
          rw [hg2'.out]
          go_wp2_with fail
          refine (get_any s 2 8 hs'.out _).mono ?_; rintro e w2 ⟨rfl, hb⟩; replace hB := hB.step hb; clear hb
          rw [hg8'.out]
          go_wp2_with fail
          refine (fsize_any _ (by omega) (by omega) _).mono ?_; rintro e w3 ⟨rfl, rfl⟩
          rw [hz'.out]
          go_wp2
          go_ret3
          rw [hno.out]
          exact ⟨rfl, hB⟩
    · have hz' : Hid (PFrm.size (n : Int) = 14 + n) := by unfold Hid PFrm.size; rw [if_neg (by omega)]
      have hz0 : (14 + (n : Int) == 0) = false := by rw [beq_eq_false_iff_ne]; omega
      have hq : q = lsn := by omega
      subst hq
      have hl0 : ((q : Int) == 0) = false := by rw [beq_eq_false_iff_ne]; omega
      have hn1 : 1 ≤ n := by omega
      have hn4 : n ≤ 4096 := by omega
      by_cases c3 : s.data.toList.length < 14 + n
      · have hno := hend c2 c3
        have c3' : (s.size : Int) < 14 + n := by rw [hls] at c3; omega
        clear hform hend hsum hok c2 c3 hls
        go_enter Try.func79, Try.ntmps79
        go_wp2_with fail
        refine (get_any s 0 2 hs'.out _).mono ?_; rintro e w1 ⟨rfl, hb⟩; replace hB := hB.step hb; clear hb
        rw [hg2'.out]
        go_wp2_with fail
        refine (get_any s 2 8 hs'.out _).mono ?_; rintro e w2 ⟨rfl, hb⟩; replace hB := hB.step hb; clear hb
        rw [hg8'.out]
        go_wp2_with fail
        refine (fsize_any _ (by omega) (by omega) _).mono ?_; rintro e w3 ⟨rfl, rfl⟩
        rw [hz'.out]
        go_wp2
        go_ret3
        rw [hno.out]
        exact ⟨rfl, hB⟩
      · have c3' : ¬ (s.size : Int) < 14 + n := by rw [hls] at c3; omega
        have x10 := extract_take s 10
        have xt : s.extract 14 (14 + n) = ⟨((s.data.toList.drop 14).take n).toArray⟩ := by rw [extract_mid, show 14 + n - 14 = n by omega]
        have x4 := extract_mid s 10 14
        have e1 : (14 + (n : Int)).toNat = 14 + n := by omega
        have e2 : (14 : Int) ≤ 14 + n := by omega
        have e3 : (10 : Int) ≤ s.size := by omega
        have e4 : (14 : Int) ≤ s.size := by omega
        have e5 : 14 + (n : Int) ≤ s.size := by omega
        have hl10 : (s.data.toList.take 10).length = 10 := by rw [List.length_take, hls]; omega
        have hln : ((s.data.toList.drop 14).take n).length = n := by rw [List.length_take, List.length_drop, hls]; omega
        have sz10 := Lib.hid (show (⟨(s.data.toList.take 10).toArray⟩ : ByteArray).size ≤ 100000 by rw [size_mk, hl10]; decide)
        have szn := Lib.hid (show (⟨((s.data.toList.drop 14).take n).toArray⟩ : ByteArray).size ≤ 100000 by rw [size_mk, hln]; omega)
        by_cases c4 : PFrm.tail4 (s.data.toList.take 10) ((s.data.toList.drop 14).take n) = (s.data.toList.drop 10).take 4
        · have hno := hok c2 c3 c4
          have hcmp : (PFrm.tail4 (s.data.toList.take 10) ((s.data.toList.drop 14).take n) == (s.data.toList.drop 10).take 4) = true := by rw [c4]; simp
          have c4' := Lib.hid c4
          clear hform hend hsum hok c2 c3 c4 hls
          go_enter Try.func79, Try.ntmps79
          go_wp2_with fail
          refine (get_any s 0 2 hs'.out _).mono ?_; rintro e w1 ⟨rfl, hb⟩; replace hB := hB.step hb; clear hb
          rw [hg2'.out]
          go_wp2_with fail
          refine (get_any s 2 8 hs'.out _).mono ?_; rintro e w2 ⟨rfl, hb⟩; replace hB := hB.step hb; clear hb
          rw [hg8'.out]
          go_wp2_with fail
          refine (fsize_any _ (by omega) (by omega) _).mono ?_; rintro e w3 ⟨rfl, rfl⟩
          rw [hz'.out]
          have hBd := hB.drew
          clear hB
          go_wp2
          go_region_with (go_at_call 58; refine (sealed_any _ _ ?_ ?_ _).mono ?_; exact sz10.out; exact szn.out; rintro e w4 ⟨rfl, hb⟩; replace hBd := hBd.step hb; clear hb)
          go_wp2
          go_ret3
          rw [hno.out]
          exact ⟨rfl, hBd⟩
        · have hno := hsum c2 c3 c4
          have hcmp : (PFrm.tail4 (s.data.toList.take 10) ((s.data.toList.drop 14).take n) == (s.data.toList.drop 10).take 4) = false := by rw [beq_eq_false_iff_ne]; exact c4
          have c4' := Lib.hid c4
          clear hform hend hsum hok c2 c3 c4 hls
          go_enter Try.func79, Try.ntmps79
          go_wp2_with fail
          refine (get_any s 0 2 hs'.out _).mono ?_; rintro e w1 ⟨rfl, hb⟩; replace hB := hB.step hb; clear hb
          rw [hg2'.out]
          go_wp2_with fail
          refine (get_any s 2 8 hs'.out _).mono ?_; rintro e w2 ⟨rfl, hb⟩; replace hB := hB.step hb; clear hb
          rw [hg8'.out]
          go_wp2_with fail
          refine (fsize_any _ (by omega) (by omega) _).mono ?_; rintro e w3 ⟨rfl, rfl⟩
          rw [hz'.out]
          have hBd := hB.drew
          clear hB
          go_wp2
          go_region_with (go_at_call 58; refine (sealed_any _ _ ?_ ?_ _).mono ?_; exact sz10.out; exact szn.out; rintro e w4 ⟨rfl, hb⟩; replace hBd := hBd.step hb; clear hb)
          go_wp2
          go_ret3
          rw [hno.out]
          exact ⟨rfl, hBd⟩
end Go.Proofs.Ytjnggldalggfnaa
