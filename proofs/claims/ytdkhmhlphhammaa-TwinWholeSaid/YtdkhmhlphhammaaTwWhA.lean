/-
  TwinWhole: behind a crash at whatever call of the disk, whatever of what was loose stays, Repair leaves all pages of a Write as they were ahead of it, or all as they were written, also if it is crashed itself, and done again. No conditions.
-/
import Derived.Test.YtdkhmhlphhammaaTwWh
import Derived.Test.YtdkhmhlphhammaaTwO
import Derived.Test.YtdkhmhlphhammaaFrame
namespace Go.Proofs.Ytdkhmhlphhammaa
open Go.ChangeShapes Go.WideShapes Go.ChangeAt Go.RowKit
open Go.ChangeMaps (open_string shut_string)
open PTwin (Pt)
set_option maxRecDepth 20000 in
set_option maxHeartbeats 4000000 in
theorem twinWhole_any (w : World) (va vl vk vs : Value) (la lb : List Pt) (ks ss : List Bool) (fu ag : Nat) (hfu : fu < 256) (hag : ag < 256) (ha : PutIn w va la) (hb : PutIn w vl lb) (hka : ∀ x ∈ la, x.Ok) (hkb : ∀ x ∈ lb, x.Ok)
    (hk : Rd w vk (ks.map Value.bool)) (hs : Rd w vs (ss.map Value.bool)) :
    Calls Try.prog 4 #[va, vl, .int .u8 fu, vk, .int .u8 ag, vs] w fun e w' => e = .returned (.bool true) ∧ Below w.heap.size w w' := by
  by_cases hall : la.length ≤ 12 ∧ lb.length ≤ 12 ∧ lb.length ≠ 0 ∧ ks.length ≤ 100 ∧ ss.length ≤ 100
  · obtain ⟨n1, n2, n3, n4, n5⟩ := hall
    exact twinWhole_ok w va vl vk vs la lb ks ss fu ag hfu hag ha hb hka hkb hk hs n1 n2 (fun e => n3 (by rw [e]; rfl)) n4 n5
  have HWK := Lib.hid works14_any
  obtain ⟨pa, ca, rfl, hca, hcam⟩ := RdS.form ha
  obtain ⟨pb, cb, rfl, hcb, hcbm⟩ := RdS.form hb
  obtain ⟨pk, ck, rfl, k2, k3, _⟩ := hk
  obtain ⟨ps, cs, rfl, s2, s3, _⟩ := hs
  rw [List.length_map] at k2 s2
  rw [List.length_map, List.length_map]
  have hcs : (12 < la.length) ∨ (la.length ≤ 12 ∧ 12 < lb.length) ∨ (la.length ≤ 12 ∧ lb.length ≤ 12 ∧ lb.length = 0) ∨ (la.length ≤ 12 ∧ lb.length ≤ 12 ∧ lb.length ≠ 0 ∧ 100 < ks.length) ∨ (la.length ≤ 12 ∧ lb.length ≤ 12 ∧ lb.length ≠ 0 ∧ ks.length ≤ 100 ∧ 100 < ss.length) := by omega
  unfold maxLen at hcam hcbm k3 s3
  clear hall ha hb hka hkb
  rcases hcs with h1 | ⟨h1, h2⟩ | ⟨h1, h2, h3⟩ | ⟨h1, h2, h3, h4⟩ | ⟨h1, h2, h3, h4, h5⟩
  · have t1 : (12 : Int) < la.length := by omega
    clear h1
    go_enter Try.func4, Try.ntmps4
    go_wp2_with fail
    refine (HWK.out _).mono ?_
    rintro e w1 ⟨rfl, hbw⟩
    have HZ := Lib.hid hbw
    clear hbw
    go_wp2
    go_ret
    exact ⟨rfl, HZ.out⟩
  · have t1 : ¬ (12 : Int) < la.length := by omega
    have t2 : (12 : Int) < lb.length := by omega
    clear h1 h2
    go_enter Try.func4, Try.ntmps4
    go_wp2_with fail
    refine (HWK.out _).mono ?_
    rintro e w1 ⟨rfl, hbw⟩
    have HZ := Lib.hid hbw
    clear hbw
    go_wp2
    go_ret
    exact ⟨rfl, HZ.out⟩
  · have t1 : ¬ (12 : Int) < la.length := by omega
    have t2 : ¬ (12 : Int) < lb.length := by omega
    have t3 : ((lb.length : Int) == 0) = true := by rw [beq_iff_eq]; omega
    clear h1 h2 h3
    go_enter Try.func4, Try.ntmps4
    go_wp2_with fail
    refine (HWK.out _).mono ?_
    rintro e w1 ⟨rfl, hbw⟩
    have HZ := Lib.hid hbw
    clear hbw
    go_wp2
    go_ret
    exact ⟨rfl, HZ.out⟩
  · have t1 : ¬ (12 : Int) < la.length := by omega
    have t2 : ¬ (12 : Int) < lb.length := by omega
    have t3 : ((lb.length : Int) == 0) = false := by rw [beq_eq_false_iff_ne]; omega
    have t4 : (100 : Int) < ks.length := by omega
    clear h1 h2 h3 h4
    go_enter Try.func4, Try.ntmps4
    go_wp2_with fail
    refine (HWK.out _).mono ?_
    rintro e w1 ⟨rfl, hbw⟩
    have HZ := Lib.hid hbw
    clear hbw
    go_wp2
    go_ret
    exact ⟨rfl, HZ.out⟩
  · have t1 : ¬ (12 : Int) < la.length := by omega
    have t2 : ¬ (12 : Int) < lb.length := by omega
    have t3 : ((lb.length : Int) == 0) = false := by rw [beq_eq_false_iff_ne]; omega
    have t4 : ¬ (100 : Int) < ks.length := by omega
    have t5 : (100 : Int) < ss.length := by omega
    clear h1 h2 h3 h4 h5
    go_enter Try.func4, Try.ntmps4
    go_wp2_with fail
    refine (HWK.out _).mono ?_
    rintro e w1 ⟨rfl, hbw⟩
    have HZ := Lib.hid hbw
    clear hbw
    go_wp2
    go_ret
    exact ⟨rfl, HZ.out⟩
set_option maxRecDepth 100000 in
theorem twinWhole_lifted (os : Os) (started : os.Started) (H : Type) (enc : TypeId × Value → H) :
    ReturnsInHanded {} Try.checked os 4 .any (Rows.twinWholeSpec.pre6 enc Try.prog Try.f4 Rows.twinWholeRow.domain false) (Rows.twinWholeSpec.post enc Try.prog Try.f4 false true false false) := by
  refine returnsInHanded_of_change_sized (C := Try.checked) own started (by kernel_rfl) Try.func4
    (ChangeSpec.witness6 (enc := enc) (C := Try.checked) false ⟨#[], #[.slice none 0 0, .slice none 0 0, .int .u8 0, .slice none 0 0, .int .u8 0, .slice none 0 0], []⟩ 8 (by kernel_rfl) (by kernel_rfl) (by kernel_rfl) (by kernel_rfl)) ?_
  intro W base args ds gs before hval0 hW hcnd hsz0 _
  have hval : ∀ (j : Nat) t v, Try.f4.params[j]? = some t → args[j]? = some v → Value.okWide Try.prog W .any base t v := hval0
  have hsz : (DataW.weightsEach Try.prog (Try.f4.params.toList ++ Rows.twinWholeSpec.plain.varTypes Try.prog) (ds ++ gs)).all (· ≤ reachBytes) = true := hsz0
  have hW' := hW
  obtain ⟨p, q, hA0, hV, rfl, hfz, hnd⟩ := hW
  have hA : DataW.TrodAll enc Try.prog W 0 (fun _ => true) true Try.f4.params.toList args.toList ds p := hA0
  rw [Try.params4] at hA hval hsz
  obtain ⟨v0, vs0, d0, ds0, p0, q0, hargs, rfl, rfl, h0, r0⟩ := trodAll_cons hA
  obtain ⟨v1, vs1, d1, ds1, p1, q1, rfl, rfl, rfl, h1, r1⟩ := trodAll_cons r0
  obtain ⟨v2, vs2, d2, ds2, p2, q2, rfl, rfl, rfl, h2, r2⟩ := trodAll_cons r1
  obtain ⟨v3, vs3, d3, ds3, p3, q3, rfl, rfl, rfl, h3, r3⟩ := trodAll_cons r2
  obtain ⟨v4, vs4, d4, ds4, p4, q4, rfl, rfl, rfl, h4, r4⟩ := trodAll_cons r3
  obtain ⟨v5, vs5, d5, ds5, p5, q5, rfl, rfl, rfl, h5, r5⟩ := trodAll_cons r4
  obtain ⟨rfl, rfl, rfl⟩ := trodAll_nil r5
  obtain rfl : args = #[v0, v1, v2, v3, v4, v5] := by cases args; simp_all
  obtain ⟨rfl, rfl⟩ := trodVars_none hV
  obtain ⟨la, R0, k0⟩ := rd_puts (hval 0 23 v0 rfl rfl) h0
  obtain ⟨lb, R1, k1⟩ := rd_puts (hval 1 23 v1 rfl rfl) h1
  obtain ⟨fu, rfl, rfl, rfl, w2⟩ := open_int Try.underlying5 (hval 2 5 v2 rfl rfl) h2
  have b2 := bounds_u8 w2
  obtain ⟨fu, rfl⟩ := Int.eq_ofNat_of_zero_le b2.1
  obtain ⟨ks, R3⟩ := rd_bools Try.underlying49 Try.underlying4 (by kernel_rfl) (hval 3 49 v3 rfl rfl) h3
  obtain ⟨ag, rfl, rfl, rfl, w4⟩ := open_int Try.underlying5 (hval 4 5 v4 rfl rfl) h4
  have b4 := bounds_u8 w4
  obtain ⟨ag, rfl⟩ := Int.eq_ofNat_of_zero_le b4.1
  obtain ⟨ss, R5⟩ := rd_bools Try.underlying49 Try.underlying4 (by kernel_rfl) (hval 5 49 v5 rfl rfl) h5
  clear hA0 hval0 hsz0
  simp only [List.append_nil] at hW'
  refine ((fun (_ : World) => twinWhole_any W v0 v1 v3 v5 la lb ks ss fu ag (by omega) (by omega) R0 R1 k0 k1 R3 R5) W).mono fun e W' ⟨he, hb⟩ => ?_
  subst he
  exact ⟨_, rfl, law_post 4 Try.underlying4 (of_decide_eq_true (by kernel_rfl)) rfl rfl hW' rfl hb⟩
/-- THE STATEMENT. -/
theorem twinWhole_holds : Rows.TwinWholeSaid :=
  OpenClaim.holds_of_wide 4 Try.f4 rfl rfl rfl rfl rfl rfl rfl ⟨rfl, rfl, rfl, rfl, rfl⟩ rfl rfl rfl rfl rfl (by kernel_rfl) Try.func4 (by kernel_rfl)
    (of_decide_eq_true (by kernel_rfl)) (by unfold Func.isWrapper; first | (rw [if_pos (by decide +kernel)]; kernel_rfl) | (rw [if_neg (by decide +kernel)]; exact ⟨rfl, rfl⟩))
    (fun os started H enc _ => twinWhole_lifted os started H enc)
end Go.Proofs.Ytdkhmhlphhammaa
