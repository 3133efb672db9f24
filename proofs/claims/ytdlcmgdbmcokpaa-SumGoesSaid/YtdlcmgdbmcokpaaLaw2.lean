import Derived.Test.YtdlcmgdbmcokpaaSum
import Derived.Test.YtdlcmgdbmcokpaaFrame
namespace Go.Proofs.Ytdlcmgdbmcokpaa
open Go.ChangeShapes Go.WideShapes Go.ChangeAt Go.RowKit
open Go.ChangeMaps (open_string shut_string)
theorem k_seal_abc : PSum.seal' [97, 98, 99] = [97, 98, 99, 183, 63, 75, 54] := by decide +kernel
theorem k_open_abc : openS [97, 98, 99, 183, 63, 75, 54] = [97, 98, 99] := by decide +kernel
theorem k_openOk_abc : PSum.openOk [97, 98, 99, 183, 63, 75, 54] = true := by decide +kernel
theorem k_openOk_no : PSum.openOk [97, 98, 99] = false := by decide +kernel
theorem k_of_digits : ofN [49, 50, 51, 52, 53, 54, 55, 56, 57] = 3808858755 := by decide +kernel
theorem k_of_nil : ofN [] = 0 := by decide +kernel
theorem k_seal_nil : PSum.seal' [] = [0, 0, 0, 0] := by decide +kernel
set_option maxHeartbeats 1000000 in
theorem alive_any (w : World) : Calls Try.prog 7 #[] w fun e w' => e = .returned (.bool true) ∧ Below w.heap.size w w' := by
  have e1 := k_seal_abc
  have e2 := k_open_abc
  have e3 := k_openOk_abc
  have e4 := k_openOk_no
  have e5 := k_of_digits
  have e6 := k_of_nil
  have e7 := k_seal_nil
  go_enter Try.func7, Try.ntmps7
  go_wp2_with fail
  refine (seal_any _ (by decide) _).mono ?_; rintro e w1 ⟨rfl, hb1⟩
  go_wp2_with fail
  refine (open_any _ (by decide) _).mono ?_; rintro e w2 ⟨rfl, hb2⟩
  go_wp2_with fail
  refine (open_any _ (by decide) _).mono ?_; rintro e w3 ⟨rfl, hb3⟩
  go_wp2_with fail
  refine (of_any _ (by decide) _).mono ?_; rintro e w4 ⟨rfl, hb4⟩
  go_wp2_with fail
  refine (of_any _ (by decide) _).mono ?_; rintro e w5 ⟨rfl, hb5⟩
  go_wp2_with fail
  refine (seal_any _ (by decide) _).mono ?_; rintro e w6 ⟨rfl, hb6⟩
  go_wp2
  go_ret
  exact ⟨rfl, hb1.step (hb2.step (hb3.step (hb4.step (hb5.step hb6))))⟩

set_option maxHeartbeats 2000000 in
theorem sumTells_any (s t : ByteArray) (c : Nat) (hc : c < 4294967296) (hs : s.size ≤ maxLen) (ht : t.size ≤ maxLen) (w : World) : Calls Try.prog 3 #[.string s, .string t, .int .u32 c] w fun e w' => e = .returned (.bool true) ∧ Below w.heap.size w w' := by
  unfold maxLen at hs ht
  have hB := Below.refl w.heap.size w
  by_cases h1 : 4096 < s.size
  · have h1' : (4096 : Int) < s.size := by omega
    go_enter Try.func3, Try.ntmps3
    go_wp2_with fail
    refine (alive_any _).mono ?_; rintro e w' ⟨rfl, hb⟩
    go_wp2
    go_ret
    exact ⟨rfl, hb⟩
  · have h1' : ¬ (4096 : Int) < s.size := by omega
    by_cases h2 : 4096 < t.size
    · have h2' : (4096 : Int) < t.size := by omega
      go_enter Try.func3, Try.ntmps3
      go_wp2_with fail
      refine (alive_any _).mono ?_; rintro e w' ⟨rfl, hb⟩
      go_wp2
      go_ret
      exact ⟨rfl, hb⟩
    · have h2' : ¬ (4096 : Int) < t.size := by omega
      go_enter Try.func3, Try.ntmps3
      go_wp2_with fail
      refine (open_any _ (by omega) _).mono ?_; rintro e w1 ⟨rfl, hb⟩; replace hB := hB.step hb; clear hb
      go_wp2_with fail
      refine (ropen_any _ (by omega) _).mono ?_; rintro e w2 ⟨rfl, hb⟩; replace hB := hB.step hb; clear hb
      go_wp2_with fail
      refine (of_any _ (by unfold maxLen; omega) _).mono ?_; rintro e w3 ⟨rfl, hb⟩; replace hB := hB.step hb; clear hb
      go_wp2_with fail
      refine (rof_any _ (by unfold maxLen; omega) _).mono ?_; rintro e w4 ⟨rfl, rfl⟩
      go_wp2_with fail
      refine (more_any c hc _ (by unfold maxLen; omega) _).mono ?_; rintro e w5 ⟨rfl, hb⟩; replace hB := hB.step hb; clear hb
      go_wp2_with fail
      refine (rmore_any c hc _ (by unfold maxLen; omega) _).mono ?_; rintro e w6 ⟨rfl, rfl⟩
      go_wp2_with fail
      refine (seal_any _ (by omega) _).mono ?_; rintro e w7 ⟨rfl, hb⟩; replace hB := hB.step hb; clear hb
      go_wp2_with fail
      refine (rseal_any _ (by omega) _).mono ?_; rintro e w8 ⟨rfl, hb⟩; replace hB := hB.step hb; clear hb
      go_wp2_with fail
      refine (alive_any _).mono ?_; rintro e w9 ⟨rfl, hb⟩; replace hB := hB.step hb; clear hb
      go_wp2
      go_ret
      exact ⟨rfl, hB⟩

set_option maxRecDepth 100000 in
theorem sumTells_lifted (os : Os) (started : os.Started) (H : Type) (enc : TypeId × Value → H) :
    ReturnsInHanded {} Try.checked os 3 .any (Rows.sumTellsSpec.pre6 enc Try.prog Try.f3 Rows.sumTellsRow.domain false) (Rows.sumTellsSpec.post enc Try.prog Try.f3 false true false false) := by
  refine returnsInHanded_of_change_sized (C := Try.checked) own started (by kernel_rfl) Try.func3
    (ChangeSpec.witness6 (enc := enc) (C := Try.checked) false ⟨#[], #[.string ByteArray.empty, .string ByteArray.empty, .int .u32 0], []⟩ 8 (by kernel_rfl) (by kernel_rfl) (by kernel_rfl) (by kernel_rfl)) ?_
  intro W base args ds gs before hval0 hW hcnd hsz0 _
  have hval : ∀ (j : Nat) t v, Try.f3.params[j]? = some t → args[j]? = some v → Value.okWide Try.prog W .any base t v := hval0
  have hsz : (DataW.weightsEach Try.prog (Try.f3.params.toList ++ Rows.sumTellsSpec.plain.varTypes Try.prog) (ds ++ gs)).all (· ≤ reachBytes) = true := hsz0
  have hW' := hW
  obtain ⟨p, q, hA0, hV, rfl, hfz, hnd⟩ := hW
  have hA : DataW.TrodAll enc Try.prog W 0 (fun _ => true) true Try.f3.params.toList args.toList ds p := hA0
  rw [Try.params3] at hA hval hsz
  obtain ⟨v0, vs0, d0, ds0, p0, q0, hargs, rfl, rfl, h0, r0⟩ := trodAll_cons hA
  obtain ⟨v1, vs1, d1, ds1, p1, q1, rfl, rfl, rfl, h1, r1⟩ := trodAll_cons r0
  obtain ⟨v2, vs2, d2, ds2, p2, q2, rfl, rfl, rfl, h2, r2⟩ := trodAll_cons r1
  obtain ⟨rfl, rfl, rfl⟩ := trodAll_nil r2
  obtain rfl : args = #[v0, v1, v2] := by cases args; simp_all
  obtain ⟨rfl, rfl⟩ := trodVars_none hV
  obtain ⟨a0, rfl, rfl, rfl, w0⟩ := open_string Try.underlying9 (hval 0 9 v0 rfl rfl) h0
  have z0 := size_reach (sized_string hsz (j := 0) (t := 9) rfl rfl)
  obtain ⟨a1, rfl, rfl, rfl, w1⟩ := open_string Try.underlying9 (hval 1 9 v1 rfl rfl) h1
  have z1 := size_reach (sized_string hsz (j := 1) (t := 9) rfl rfl)
  obtain ⟨c, rfl, rfl, rfl, w2⟩ := open_int Try.underlying22 (hval 2 22 v2 rfl rfl) h2
  have b2 := bounds_u32 w2
  obtain ⟨c, rfl⟩ := Int.eq_ofNat_of_zero_le b2.1
  clear hA0 hval0 hsz0
  simp only [List.append_nil] at hW'
  refine (sumTells_any a0 a1 c (by omega) w0 w1 W).mono fun e W' ⟨he, hb⟩ => ?_
  subst he
  exact ⟨_, rfl, law_post 4 Try.underlying4 (of_decide_eq_true (by kernel_rfl)) rfl rfl hW' rfl hb⟩
/-- THE STATEMENT. -/
theorem sumTells_holds : Rows.SumTellsSaid :=
  OpenClaim.holds_of_wide 3 Try.f3 rfl rfl rfl rfl rfl rfl rfl ⟨rfl, rfl, rfl, rfl, rfl⟩ rfl rfl rfl rfl rfl (by kernel_rfl) Try.func3 (by kernel_rfl)
    (of_decide_eq_true (by kernel_rfl)) (by unfold Func.isWrapper; first | (rw [if_pos (by decide +kernel)]; kernel_rfl) | (rw [if_neg (by decide +kernel)]; exact ⟨rfl, rfl⟩))
    (fun os started H enc _ => sumTells_lifted os started H enc)

theorem size_mk (l : List UInt8) : (ByteArray.mk l.toArray).size = l.length := rfl
theorem openS_seal (l : List UInt8) : openS (PSum.seal' l) = l := by
  unfold openS; rw [PSum.open_seal, if_pos rfl, PSum.seal_length]
  unfold PSum.seal'; simp
theorem goes1 (l m : List UInt8) : moreN (ofN l) m = ofN (l ++ m) := by
  unfold ofN moreN
  rw [← PSum.more_append]; congr 1
  rw [BitVec.ofNat_toNat, BitVec.setWidth_eq]
theorem goes2 (c : Nat) (l m : List UInt8) : moreN (moreN c l) m = moreN c (l ++ m) := by
  unfold moreN
  rw [← PSum.more_append]; congr 1
  rw [BitVec.ofNat_toNat, BitVec.setWidth_eq]
theorem goes3 (c : Nat) (hc : c < 4294967296) : moreN c [] = c := by
  unfold moreN
  rw [PSum.more_nil, BitVec.toNat_ofNat]; omega
theorem moreN_lt (c : Nat) (l : List UInt8) : moreN c l < 4294967296 := (PSum.more (BitVec.ofNat 32 c) l).isLt
set_option maxHeartbeats 2000000 in
theorem sumGoes_any (s t : ByteArray) (c : Nat) (hc : c < 4294967296) (hs : s.size ≤ maxLen) (ht : t.size ≤ maxLen) (hst : s.size ≤ 140737488351232) (htt : t.size ≤ 140737488351232) (w : World) : Calls Try.prog 5 #[.string s, .string t, .int .u32 c] w fun e w' => e = .returned (.bool true) ∧ Below w.heap.size w w' := by
  unfold maxLen at hs ht
  have hB := Below.refl w.heap.size w
  by_cases h1 : 4096 < s.size + t.size
  · have h1' : (4096 : Int) < (s.size : Int) + t.size := by omega
    go_enter Try.func5, Try.ntmps5
    go_wp2_with fail
    refine (alive_any _).mono ?_; rintro e w' ⟨rfl, hb⟩
    go_wp2
    go_ret
    exact ⟨rfl, hb⟩
  · have h1' : ¬ (4096 : Int) < (s.size : Int) + t.size := by omega
    have g1 := goes1
    have g2 := goes2
    have g3 := goes3 c hc
    have g4 := PSum.open_seal
    have g5 := openS_seal
    have hsz : (s ++ t).size = s.size + t.size := ByteArray.size_append
    go_enter Try.func5, Try.ntmps5
    go_wp2_with fail
    refine (of_any _ (by unfold maxLen; omega) _).mono ?_; rintro e w1 ⟨rfl, hb⟩; replace hB := hB.step hb; clear hb
    go_wp2_with fail
    refine (more_any _ (ofN_lt _) _ (by unfold maxLen; omega) _).mono ?_; rintro e w2 ⟨rfl, hb⟩; replace hB := hB.step hb; clear hb
    go_wp2_with fail
    refine (of_any _ (by unfold maxLen; omega) _).mono ?_; rintro e w3 ⟨rfl, hb⟩; replace hB := hB.step hb; clear hb
    go_wp2_with fail
    refine (more_any _ hc _ (by unfold maxLen; omega) _).mono ?_; rintro e w4 ⟨rfl, hb⟩; replace hB := hB.step hb; clear hb
    go_wp2_with fail
    refine (more_any _ (moreN_lt _ _) _ (by unfold maxLen; omega) _).mono ?_; rintro e w5 ⟨rfl, hb⟩; replace hB := hB.step hb; clear hb
    go_wp2_with fail
    refine (more_any _ hc _ (by unfold maxLen; omega) _).mono ?_; rintro e w6 ⟨rfl, hb⟩; replace hB := hB.step hb; clear hb
    go_wp2_with fail
    refine (more_any _ hc _ (by decide) _).mono ?_; rintro e w7 ⟨rfl, hb⟩; replace hB := hB.step hb; clear hb
    go_wp2_with fail
    refine (seal_any _ (by omega) _).mono ?_; rintro e w8 ⟨rfl, hb⟩; replace hB := hB.step hb; clear hb
    go_wp2_with fail
    refine (seal_any _ (by rw [size_mk, PSum.seal_length]; simp; omega) _).mono ?_; rintro e w9 ⟨rfl, hb⟩; replace hB := hB.step hb; clear hb
    go_wp2_with fail
    refine (open_any _ (by rw [size_mk, PSum.seal_length, PSum.seal_length]; simp; omega) _).mono ?_; rintro e w10 ⟨rfl, hb⟩; replace hB := hB.step hb; clear hb
    go_wp2_with fail
    refine (open_any _ (by rw [size_mk, PSum.seal_length]; simp; omega) _).mono ?_; rintro e w11 ⟨rfl, hb⟩; replace hB := hB.step hb; clear hb
    go_wp2_with fail
    refine (alive_any _).mono ?_; rintro e w12 ⟨rfl, hb⟩; replace hB := hB.step hb; clear hb
    go_wp2
    go_ret
    exact ⟨rfl, hB⟩
set_option maxRecDepth 100000 in
theorem sumGoes_lifted (os : Os) (started : os.Started) (H : Type) (enc : TypeId × Value → H) :
    ReturnsInHanded {} Try.checked os 5 .any (Rows.sumGoesSpec.pre6 enc Try.prog Try.f5 Rows.sumGoesRow.domain false) (Rows.sumGoesSpec.post enc Try.prog Try.f5 false true false false) := by
  refine returnsInHanded_of_change_sized (C := Try.checked) own started (by kernel_rfl) Try.func5
    (ChangeSpec.witness6 (enc := enc) (C := Try.checked) false ⟨#[], #[.string ByteArray.empty, .string ByteArray.empty, .int .u32 0], []⟩ 8 (by kernel_rfl) (by kernel_rfl) (by kernel_rfl) (by kernel_rfl)) ?_
  intro W base args ds gs before hval0 hW hcnd hsz0 _
  have hval : ∀ (j : Nat) t v, Try.f5.params[j]? = some t → args[j]? = some v → Value.okWide Try.prog W .any base t v := hval0
  have hsz : (DataW.weightsEach Try.prog (Try.f5.params.toList ++ Rows.sumGoesSpec.plain.varTypes Try.prog) (ds ++ gs)).all (· ≤ reachBytes) = true := hsz0
  have hW' := hW
  obtain ⟨p, q, hA0, hV, rfl, hfz, hnd⟩ := hW
  have hA : DataW.TrodAll enc Try.prog W 0 (fun _ => true) true Try.f5.params.toList args.toList ds p := hA0
  rw [Try.params5] at hA hval hsz
  obtain ⟨v0, vs0, d0, ds0, p0, q0, hargs, rfl, rfl, h0, r0⟩ := trodAll_cons hA
  obtain ⟨v1, vs1, d1, ds1, p1, q1, rfl, rfl, rfl, h1, r1⟩ := trodAll_cons r0
  obtain ⟨v2, vs2, d2, ds2, p2, q2, rfl, rfl, rfl, h2, r2⟩ := trodAll_cons r1
  obtain ⟨rfl, rfl, rfl⟩ := trodAll_nil r2
  obtain rfl : args = #[v0, v1, v2] := by cases args; simp_all
  obtain ⟨rfl, rfl⟩ := trodVars_none hV
  obtain ⟨a0, rfl, rfl, rfl, w0⟩ := open_string Try.underlying9 (hval 0 9 v0 rfl rfl) h0
  have z0 := size_reach (sized_string hsz (j := 0) (t := 9) rfl rfl)
  obtain ⟨a1, rfl, rfl, rfl, w1⟩ := open_string Try.underlying9 (hval 1 9 v1 rfl rfl) h1
  have z1 := size_reach (sized_string hsz (j := 1) (t := 9) rfl rfl)
  obtain ⟨c, rfl, rfl, rfl, w2⟩ := open_int Try.underlying22 (hval 2 22 v2 rfl rfl) h2
  have b2 := bounds_u32 w2
  obtain ⟨c, rfl⟩ := Int.eq_ofNat_of_zero_le b2.1
  clear hA0 hval0 hsz0
  simp only [List.append_nil] at hW'
  refine (sumGoes_any a0 a1 c (by omega) w0 w1 z0 z1 W).mono fun e W' ⟨he, hb⟩ => ?_
  subst he
  exact ⟨_, rfl, law_post 4 Try.underlying4 (of_decide_eq_true (by kernel_rfl)) rfl rfl hW' rfl hb⟩
/-- THE STATEMENT. -/
theorem sumGoes_holds : Rows.SumGoesSaid :=
  OpenClaim.holds_of_wide 5 Try.f5 rfl rfl rfl rfl rfl rfl rfl ⟨rfl, rfl, rfl, rfl, rfl⟩ rfl rfl rfl rfl rfl (by kernel_rfl) Try.func5 (by kernel_rfl)
    (of_decide_eq_true (by kernel_rfl)) (by unfold Func.isWrapper; first | (rw [if_pos (by decide +kernel)]; kernel_rfl) | (rw [if_neg (by decide +kernel)]; exact ⟨rfl, rfl⟩))
    (fun os started H enc _ => sumGoes_lifted os started H enc)
end Go.Proofs.Ytdlcmgdbmcokpaa
