/-
  TwinApart: a Write, done or not, and a Repair, change no sector but those of the area and of their pages' homes. No conditions.
-/
import Derived.Test.YtdkhmhlphhammaaTwAp
import Derived.Test.YtdkhmhlphhammaaTwO
import Derived.Test.YtdkhmhlphhammaaFrame
namespace Go.Proofs.Ytdkhmhlphhammaa
open Go.ChangeShapes Go.WideShapes Go.ChangeAt Go.RowKit
open Go.ChangeMaps (open_string shut_string)
open PTwin (Pt)
set_option maxRecDepth 20000 in
set_option maxHeartbeats 4000000 in
theorem twinApart_any (w : World) (vl vk : Value) (lb : List Pt) (ks : List Bool) (c fu : Nat) (hc : c < 256) (hfu : fu < 256) (hb : PutIn w vl lb) (hkb : ∀ x ∈ lb, x.Ok) (hk : Rd w vk (ks.map Value.bool)) :
    Calls Try.prog 5 #[.int .u8 c, vl, .int .u8 fu, vk] w fun e w' => e = .returned (.bool true) ∧ Below w.heap.size w w' := by
  by_cases hall : lb.length ≤ 12 ∧ lb.length ≠ 0 ∧ ks.length ≤ 100
  · obtain ⟨n2, n3, n4⟩ := hall
    exact twinApart_ok w vl vk lb ks c fu hc hfu hb hkb hk n2 (fun e => n3 (by rw [e]; rfl)) n4
  have HWK := Lib.hid works14_any
  obtain ⟨pb, cb, rfl, hcb, hcbm⟩ := RdS.form hb
  obtain ⟨pk, ck, rfl, k2, k3, _⟩ := hk
  rw [List.length_map] at k2
  rw [List.length_map]
  have hcs : (12 < lb.length) ∨ (lb.length ≤ 12 ∧ lb.length = 0) ∨ (lb.length ≤ 12 ∧ lb.length ≠ 0 ∧ 100 < ks.length) := by omega
  unfold maxLen at hcbm k3
  clear hall hb hkb
  rcases hcs with h1 | ⟨h1, h2⟩ | ⟨h1, h2, h3⟩
  · have t2 : (12 : Int) < lb.length := by omega
    clear h1
    go_enter Try.func5, Try.ntmps5
    go_wp2_with fail
    refine (HWK.out _).mono ?_
    rintro e w1 ⟨rfl, hbw⟩
    have HZ := Lib.hid hbw
    clear hbw
    go_wp2
    go_ret
    exact ⟨rfl, HZ.out⟩
  · have t2 : ¬ (12 : Int) < lb.length := by omega
    have t3 : ((lb.length : Int) == 0) = true := by rw [beq_iff_eq]; omega
    clear h1 h2
    go_enter Try.func5, Try.ntmps5
    go_wp2_with fail
    refine (HWK.out _).mono ?_
    rintro e w1 ⟨rfl, hbw⟩
    have HZ := Lib.hid hbw
    clear hbw
    go_wp2
    go_ret
    exact ⟨rfl, HZ.out⟩
  · have t2 : ¬ (12 : Int) < lb.length := by omega
    have t3 : ((lb.length : Int) == 0) = false := by rw [beq_eq_false_iff_ne]; omega
    have t4 : (100 : Int) < ks.length := by omega
    clear h1 h2 h3
    go_enter Try.func5, Try.ntmps5
    go_wp2_with fail
    refine (HWK.out _).mono ?_
    rintro e w1 ⟨rfl, hbw⟩
    have HZ := Lib.hid hbw
    clear hbw
    go_wp2
    go_ret
    exact ⟨rfl, HZ.out⟩
set_option maxRecDepth 100000 in
theorem twinApart_lifted (os : Os) (started : os.Started) (H : Type) (enc : TypeId × Value → H) :
    ReturnsInHanded {} Try.checked os 5 .any (Rows.twinApartSpec.pre6 enc Try.prog Try.f5 Rows.twinApartRow.domain false) (Rows.twinApartSpec.post enc Try.prog Try.f5 false true false false) := by
  refine returnsInHanded_of_change_sized (C := Try.checked) own started (by kernel_rfl) Try.func5
    (ChangeSpec.witness6 (enc := enc) (C := Try.checked) false ⟨#[], #[.int .u8 0, .slice none 0 0, .int .u8 0, .slice none 0 0], []⟩ 8 (by kernel_rfl) (by kernel_rfl) (by kernel_rfl) (by kernel_rfl)) ?_
  intro W base args ds gs before hval0 hW hcnd hsz0 _
  have hval : ∀ (j : Nat) t v, Try.f5.params[j]? = some t → args[j]? = some v → Value.okWide Try.prog W .any base t v := hval0
  have hsz : (DataW.weightsEach Try.prog (Try.f5.params.toList ++ Rows.twinApartSpec.plain.varTypes Try.prog) (ds ++ gs)).all (· ≤ reachBytes) = true := hsz0
  have hW' := hW
  obtain ⟨p, q, hA0, hV, rfl, hfz, hnd⟩ := hW
  have hA : DataW.TrodAll enc Try.prog W 0 (fun _ => true) true Try.f5.params.toList args.toList ds p := hA0
  rw [Try.params5] at hA hval hsz
  obtain ⟨v0, vs0, d0, ds0, p0, q0, hargs, rfl, rfl, h0, r0⟩ := trodAll_cons hA
  obtain ⟨v1, vs1, d1, ds1, p1, q1, rfl, rfl, rfl, h1, r1⟩ := trodAll_cons r0
  obtain ⟨v2, vs2, d2, ds2, p2, q2, rfl, rfl, rfl, h2, r2⟩ := trodAll_cons r1
  obtain ⟨v3, vs3, d3, ds3, p3, q3, rfl, rfl, rfl, h3, r3⟩ := trodAll_cons r2
  obtain ⟨rfl, rfl, rfl⟩ := trodAll_nil r3
  obtain rfl : args = #[v0, v1, v2, v3] := by cases args; simp_all
  obtain ⟨rfl, rfl⟩ := trodVars_none hV
  obtain ⟨c, rfl, rfl, rfl, w0⟩ := open_int Try.underlying5 (hval 0 5 v0 rfl rfl) h0
  have b0 := bounds_u8 w0
  obtain ⟨c, rfl⟩ := Int.eq_ofNat_of_zero_le b0.1
  obtain ⟨lb, R1, k1⟩ := rd_puts (hval 1 23 v1 rfl rfl) h1
  obtain ⟨fu, rfl, rfl, rfl, w2⟩ := open_int Try.underlying5 (hval 2 5 v2 rfl rfl) h2
  have b2 := bounds_u8 w2
  obtain ⟨fu, rfl⟩ := Int.eq_ofNat_of_zero_le b2.1
  obtain ⟨ks, R3⟩ := rd_bools Try.underlying49 Try.underlying4 (by kernel_rfl) (hval 3 49 v3 rfl rfl) h3
  clear hA0 hval0 hsz0
  simp only [List.append_nil] at hW'
  refine ((fun (_ : World) => twinApart_any W v1 v3 lb ks c fu (by omega) (by omega) R1 k1 R3) W).mono fun e W' ⟨he, hb⟩ => ?_
  subst he
  exact ⟨_, rfl, law_post 4 Try.underlying4 (of_decide_eq_true (by kernel_rfl)) rfl rfl hW' rfl hb⟩
/-- THE STATEMENT. -/
theorem twinApart_holds : Rows.TwinApartSaid :=
  OpenClaim.holds_of_wide 5 Try.f5 rfl rfl rfl rfl rfl rfl rfl ⟨rfl, rfl, rfl, rfl, rfl⟩ rfl rfl rfl rfl rfl (by kernel_rfl) Try.func5 (by kernel_rfl)
    (of_decide_eq_true (by kernel_rfl)) (by unfold Func.isWrapper; first | (rw [if_pos (by decide +kernel)]; kernel_rfl) | (rw [if_neg (by decide +kernel)]; exact ⟨rfl, rfl⟩))
    (fun os started H enc _ => twinApart_lifted os started H enc)
end Go.Proofs.Ytdkhmhlphhammaa
