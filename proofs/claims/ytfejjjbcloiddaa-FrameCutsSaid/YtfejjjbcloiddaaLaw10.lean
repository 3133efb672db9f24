/-
  FrameElse returns true, whatever its arguments.
-/
import Derived.Test.YtfejjjbcloiddaaWorks
namespace Go.Proofs.Ytfejjjbcloiddaa
open Go.ChangeShapes Go.WideShapes Go.ChangeAt Go.RowKit
open Go.ChangeMaps (open_string shut_string)
theorem enc_not (lsn : Nat) (l : List UInt8) (h : ¬ PFrm.may lsn l = true) : PFrm.encode lsn l = ([], 2) := by unfold PFrm.encode; rw [if_neg h]
theorem enc_may (lsn : Nat) (l : List UInt8) (h : PFrm.may lsn l = true) : PFrm.encode lsn l = (PFrm.frame lsn l, 0) := by unfold PFrm.encode; rw [if_pos h]
set_option maxRecDepth 100000 in
set_option maxHeartbeats 20000000 in
theorem frameElse_any (a b : Nat) (s t behind : ByteArray) (ha : a < 18446744073709551616) (hbl : b < 18446744073709551616) (hs : s.size ≤ maxLen) (ht : t.size ≤ maxLen) (hbh : behind.size ≤ maxLen) (w : World) : Calls Try.prog 3 #[.int .u64 a, .int .u64 b, .string s, .string t, .string behind] w fun e w' => e = .returned (.bool true) ∧ Below w.heap.size w w' := by
  have hs' := Lib.hid hs
  have ht' := Lib.hid ht
  unfold maxLen at hs ht hbh
  have hB := Below.refl w.heap.size w
  by_cases h1 : 4096 < s.size
  · have h1' : (4096 : Int) < s.size := by omega
    go_enter Try.func3, Try.ntmps3
    go_wp2_with fail
    refine (works10_any _).mono ?_; rintro e w' ⟨rfl, hb⟩
    go_wp2
    go_ret
    exact ⟨rfl, hb⟩
  have h1' : ¬ (4096 : Int) < s.size := by omega
  by_cases h2 : 4096 < t.size
  · have h2' : (4096 : Int) < t.size := by omega
    go_enter Try.func3, Try.ntmps3
    go_wp2_with fail
    refine (works10_any _).mono ?_; rintro e w' ⟨rfl, hb⟩
    go_wp2
    go_ret
    exact ⟨rfl, hb⟩
  have h2' : ¬ (4096 : Int) < t.size := by omega
  by_cases h3 : 1024 < behind.size
  · have h3' : (1024 : Int) < behind.size := by omega
    go_enter Try.func3, Try.ntmps3
    go_wp2_with fail
    refine (works10_any _).mono ?_; rintro e w' ⟨rfl, hb⟩
    go_wp2
    go_ret
    exact ⟨rfl, hb⟩
  have h3' : ¬ (1024 : Int) < behind.size := by omega
  by_cases m1 : PFrm.may a s.data.toList = true
  · have h1e := Lib.hid (enc_may _ _ m1)
    by_cases m2 : PFrm.may b t.data.toList = true
    · have h2e := Lib.hid (enc_may _ _ m2)
      have hda := Lib.hid ((PFrm.decode_frame a a s.data.toList behind.data.toList m1 ha).trans (if_pos rfl))
      have hfl := PFrm.frame_length a s.data.toList
      rw [list_size] at hfl
      by_cases hab : a = b
      · subst hab
        have hdb := hda
        by_cases hst : s.data.toList = t.data.toList
        · obtain rfl : s = t := ByteArray.ext (Array.toList_inj.1 hst)
          have m1' := Lib.hid m1
          clear m1 m2 hst
          go_enter Try.func3, Try.ntmps3
          go_wp2_with fail
          refine (encode_any a s ha hs'.out _).mono ?_; rintro e w1 ⟨rfl, hb⟩; replace hB := hB.step hb; clear hb
          rw [h1e.out]
          go_wp2_with fail
          refine (encode_any a s ha hs'.out _).mono ?_; rintro e w2 ⟨rfl, hb⟩; replace hB := hB.step hb; clear hb
          rw [h1e.out]
          go_wp2_with fail
          refine (decode_any _ a ha ?_ _).mono ?_
          · rw [ByteArray.size_append, size_mk, PFrm.frame_length, list_size]; unfold maxLen; omega
          rintro e w3 ⟨rfl, hb⟩; replace hB := hB.step hb; clear hb
          rw [show ((⟨(PFrm.frame a s.data.toList).toArray⟩ : ByteArray) ++ behind).data.toList = PFrm.frame a s.data.toList ++ behind.data.toList by simp, hda.out]
          go_wp2_with fail
          refine (decode_any _ a ha ?_ _).mono ?_
          · rw [ByteArray.size_append, size_mk, PFrm.frame_length, list_size]; unfold maxLen; omega
          rintro e w4 ⟨rfl, hb⟩; replace hB := hB.step hb; clear hb
          rw [show ((⟨(PFrm.frame a s.data.toList).toArray⟩ : ByteArray) ++ behind).data.toList = PFrm.frame a s.data.toList ++ behind.data.toList by simp, hda.out]
          go_wp2_with fail
          refine (works10_any _).mono ?_; rintro e w5 ⟨rfl, hb⟩; replace hB := hB.step hb; clear hb
          go_wp2
          go_ret
          exact ⟨rfl, hB⟩
        · have hne : (PFrm.frame a s.data.toList == PFrm.frame a t.data.toList) = false := by
            rw [beq_eq_false_iff_ne]; intro h
            exact hst (PFrm.frame_inj _ _ _ _ m1 m2 ha hbl h).2
          have hne2 : (s.toList == t.toList) = false := by rw [bytes_eq, bytes_eq, beq_eq_false_iff_ne]; exact hst
          have hst' := Lib.hid hst
          clear m1 m2 hst
          go_enter Try.func3, Try.ntmps3
          go_wp2_with fail
          refine (encode_any a s ha hs'.out _).mono ?_; rintro e w1 ⟨rfl, hb⟩; replace hB := hB.step hb; clear hb
          rw [h1e.out]
          go_wp2_with fail
          refine (encode_any a t ha ht'.out _).mono ?_; rintro e w2 ⟨rfl, hb⟩; replace hB := hB.step hb; clear hb
          rw [h2e.out]
          go_wp2_with fail
          refine (decode_any _ a ha ?_ _).mono ?_
          · rw [ByteArray.size_append, size_mk, PFrm.frame_length, list_size]; unfold maxLen; omega
          rintro e w3 ⟨rfl, hb⟩; replace hB := hB.step hb; clear hb
          rw [show ((⟨(PFrm.frame a s.data.toList).toArray⟩ : ByteArray) ++ behind).data.toList = PFrm.frame a s.data.toList ++ behind.data.toList by simp, hda.out]
          go_wp2_with fail
          refine (decode_any _ a ha ?_ _).mono ?_
          · rw [ByteArray.size_append, size_mk, PFrm.frame_length, list_size]; unfold maxLen; omega
          rintro e w4 ⟨rfl, hb⟩; replace hB := hB.step hb; clear hb
          rw [show ((⟨(PFrm.frame a s.data.toList).toArray⟩ : ByteArray) ++ behind).data.toList = PFrm.frame a s.data.toList ++ behind.data.toList by simp, hdb.out]
          go_wp2_with fail
          refine (works10_any _).mono ?_; rintro e w5 ⟨rfl, hb⟩; replace hB := hB.step hb; clear hb
          go_wp2
          go_ret
          exact ⟨rfl, hB⟩
      · have hdb := Lib.hid ((PFrm.decode_frame a b s.data.toList behind.data.toList m1 ha).trans (if_neg (fun h => hab h.symm)))
        have hne : (PFrm.frame a s.data.toList == PFrm.frame b t.data.toList) = false := by
          rw [beq_eq_false_iff_ne]; intro h
          exact hab (PFrm.frame_inj _ _ _ _ m1 m2 ha hbl h).1
        have hne2 : ((a : Int) == (b : Int)) = false := by rw [beq_eq_false_iff_ne]; omega
        have hab' := Lib.hid hab
        clear m1 m2 hab
        go_enter Try.func3, Try.ntmps3
        go_wp2_with fail
        refine (encode_any a s ha hs'.out _).mono ?_; rintro e w1 ⟨rfl, hb⟩; replace hB := hB.step hb; clear hb
        rw [h1e.out]
        go_wp2_with fail
        refine (encode_any b t hbl ht'.out _).mono ?_; rintro e w2 ⟨rfl, hb⟩; replace hB := hB.step hb; clear hb
        rw [h2e.out]
        go_wp2_with fail
        refine (decode_any _ a ha ?_ _).mono ?_
        · rw [ByteArray.size_append, size_mk, PFrm.frame_length, list_size]; unfold maxLen; omega
        rintro e w3 ⟨rfl, hb⟩; replace hB := hB.step hb; clear hb
        rw [show ((⟨(PFrm.frame a s.data.toList).toArray⟩ : ByteArray) ++ behind).data.toList = PFrm.frame a s.data.toList ++ behind.data.toList by simp, hda.out]
        go_wp2_with fail
        refine (decode_any _ b hbl ?_ _).mono ?_
        · rw [ByteArray.size_append, size_mk, PFrm.frame_length, list_size]; unfold maxLen; omega
        rintro e w4 ⟨rfl, hb⟩; replace hB := hB.step hb; clear hb
        rw [show ((⟨(PFrm.frame a s.data.toList).toArray⟩ : ByteArray) ++ behind).data.toList = PFrm.frame a s.data.toList ++ behind.data.toList by simp, hdb.out]
        go_wp2_with fail
        refine (works10_any _).mono ?_; rintro e w5 ⟨rfl, hb⟩; replace hB := hB.step hb; clear hb
        go_wp2
        go_ret
        exact ⟨rfl, hB⟩
    · have h2e := Lib.hid (enc_not _ _ m2)
      clear m1 m2
      go_enter Try.func3, Try.ntmps3
      go_wp2_with fail
      refine (encode_any a s ha hs'.out _).mono ?_; rintro e w1 ⟨rfl, hb⟩; replace hB := hB.step hb; clear hb
      rw [h1e.out]
      go_wp2_with fail
      refine (encode_any b t hbl ht'.out _).mono ?_; rintro e w2 ⟨rfl, hb⟩; replace hB := hB.step hb; clear hb
      rw [h2e.out]
      go_wp2_with fail
      refine (works10_any _).mono ?_; rintro e w3 ⟨rfl, hb⟩; replace hB := hB.step hb; clear hb
      go_wp2
      go_ret
      exact ⟨rfl, hB⟩
  · have h1e := Lib.hid (enc_not _ _ m1)
    obtain ⟨z, hz⟩ : ∃ z, PFrm.encode b t.data.toList = z := ⟨_, rfl⟩
    have h2e := Lib.hid hz
    clear m1 hz
    go_enter Try.func3, Try.ntmps3
    go_wp2_with fail
    refine (encode_any a s ha hs'.out _).mono ?_; rintro e w1 ⟨rfl, hb⟩; replace hB := hB.step hb; clear hb
    rw [h1e.out]
    go_wp2_with fail
    refine (encode_any b t hbl ht'.out _).mono ?_; rintro e w2 ⟨rfl, hb⟩; replace hB := hB.step hb; clear hb
    rw [h2e.out]
    go_wp2_with fail
    refine (works10_any _).mono ?_; rintro e w3 ⟨rfl, hb⟩; replace hB := hB.step hb; clear hb
    go_wp2
    go_ret
    exact ⟨rfl, hB⟩

set_option maxRecDepth 100000 in
theorem frameElse_lifted (os : Os) (started : os.Started) (H : Type) (enc : TypeId × Value → H) :
    ReturnsInHanded {} Try.checked os 3 .any (Rows.frameElseSpec.pre6 enc Try.prog Try.f3 Rows.frameElseRow.domain false) (Rows.frameElseSpec.post enc Try.prog Try.f3 false true false false) := by
  refine returnsInHanded_of_change_sized (C := Try.checked) own started (by kernel_rfl) Try.func3
    (ChangeSpec.witness6 (enc := enc) (C := Try.checked) false ⟨#[], #[.int .u64 0, .int .u64 0, .string ByteArray.empty, .string ByteArray.empty, .string ByteArray.empty], []⟩ 8 (by kernel_rfl) (by kernel_rfl) (by kernel_rfl) (by kernel_rfl)) ?_
  intro W base args ds gs before hval0 hW hcnd hsz0 _
  have hval : ∀ (j : Nat) t v, Try.f3.params[j]? = some t → args[j]? = some v → Value.okWide Try.prog W .any base t v := hval0
  have hsz : (DataW.weightsEach Try.prog (Try.f3.params.toList ++ Rows.frameElseSpec.plain.varTypes Try.prog) (ds ++ gs)).all (· ≤ reachBytes) = true := hsz0
  have hW' := hW
  obtain ⟨p, q, hA0, hV, rfl, hfz, hnd⟩ := hW
  have hA : DataW.TrodAll enc Try.prog W 0 (fun _ => true) true Try.f3.params.toList args.toList ds p := hA0
  rw [Try.params3] at hA hval hsz
  obtain ⟨v0, vs0, d0, ds0, p0, q0, hargs, rfl, rfl, h0, r0⟩ := trodAll_cons hA
  obtain ⟨v1, vs1, d1, ds1, p1, q1, rfl, rfl, rfl, h1, r1⟩ := trodAll_cons r0
  obtain ⟨v2, vs2, d2, ds2, p2, q2, rfl, rfl, rfl, h2, r2⟩ := trodAll_cons r1
  obtain ⟨v3, vs3, d3, ds3, p3, q3, rfl, rfl, rfl, h3, r3⟩ := trodAll_cons r2
  obtain ⟨v4, vs4, d4, ds4, p4, q4, rfl, rfl, rfl, h4, r4⟩ := trodAll_cons r3
  obtain ⟨rfl, rfl, rfl⟩ := trodAll_nil r4
  obtain rfl : args = #[v0, v1, v2, v3, v4] := by cases args; simp_all
  obtain ⟨rfl, rfl⟩ := trodVars_none hV
  obtain ⟨a, rfl, rfl, rfl, w0⟩ := open_int Try.underlying22 (hval 0 22 v0 rfl rfl) h0
  have b0 := bounds_u64 w0
  obtain ⟨a, rfl⟩ := Int.eq_ofNat_of_zero_le b0.1
  obtain ⟨b, rfl, rfl, rfl, w1⟩ := open_int Try.underlying22 (hval 1 22 v1 rfl rfl) h1
  have b1 := bounds_u64 w1
  obtain ⟨b, rfl⟩ := Int.eq_ofNat_of_zero_le b1.1
  obtain ⟨s, rfl, rfl, rfl, w2⟩ := open_string Try.underlying9 (hval 2 9 v2 rfl rfl) h2
  have z2 := size_reach (sized_string hsz (j := 2) (t := 9) rfl rfl)
  obtain ⟨t, rfl, rfl, rfl, w3⟩ := open_string Try.underlying9 (hval 3 9 v3 rfl rfl) h3
  have z3 := size_reach (sized_string hsz (j := 3) (t := 9) rfl rfl)
  obtain ⟨u, rfl, rfl, rfl, w4⟩ := open_string Try.underlying9 (hval 4 9 v4 rfl rfl) h4
  have z4 := size_reach (sized_string hsz (j := 4) (t := 9) rfl rfl)
  clear hA0 hval0 hsz0
  simp only [List.append_nil] at hW'
  refine (frameElse_any a b s t u (by omega) (by omega) w2 w3 w4 W).mono fun e W' ⟨he, hb⟩ => ?_
  subst he
  exact ⟨_, rfl, law_post 4 Try.underlying4 (of_decide_eq_true (by kernel_rfl)) rfl rfl hW' rfl hb⟩
/-- THE STATEMENT. -/
theorem frameElse_holds : Rows.FrameElseSaid :=
  OpenClaim.holds_of_wide 3 Try.f3 rfl rfl rfl rfl rfl rfl rfl ⟨rfl, rfl, rfl, rfl, rfl⟩ rfl rfl rfl rfl rfl (by kernel_rfl) Try.func3 (by kernel_rfl)
    (of_decide_eq_true (by kernel_rfl)) (by unfold Func.isWrapper; first | (rw [if_pos (by decide +kernel)]; kernel_rfl) | (rw [if_neg (by decide +kernel)]; exact ⟨rfl, rfl⟩))
    (fun os started H enc _ => frameElse_lifted os started H enc)
end Go.Proofs.Ytfejjjbcloiddaa
