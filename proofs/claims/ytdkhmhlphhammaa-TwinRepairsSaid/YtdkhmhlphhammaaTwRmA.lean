/-
  TwinRepairs: a Repair reads, writes and answers as the document says. No conditions.
-/
import Derived.Test.YtdkhmhlphhammaaTwRm
import Derived.Test.YtdkhmhlphhammaaTwO
import Derived.Test.YtdkhmhlphhammaaFrame
namespace Go.Proofs.Ytdkhmhlphhammaa
open Go.ChangeShapes Go.WideShapes Go.ChangeAt Go.RowKit
open Go.ChangeMaps (open_string shut_string)
open PTwin (Pt)
theorem u32_nats (zs : List Int) (h : ∀ z ∈ zs, 0 ≤ z ∧ z ≤ 4294967295) : ∃ ps : List Nat, zs.map (Value.int .u32) = u32V ps ∧ ∀ p ∈ ps, p < 4294967296 := by
  refine ⟨zs.map Int.toNat, ?_, ?_⟩
  · unfold u32V
    rw [List.map_map]
    apply List.map_congr_left
    intro z hz
    have := h z hz
    show Value.int .u32 z = Value.int .u32 ((z.toNat : Nat) : Int)
    rw [Int.toNat_of_nonneg this.1]
  · intro p hp
    obtain ⟨z, hz, rfl⟩ := List.mem_map.1 hp
    have := h z hz
    omega
set_option maxRecDepth 20000 in
set_option maxHeartbeats 4000000 in
theorem twinRepairs_any (w : World) (mk : ByteArray) (vn vl : Value) (zs : List Int) (ow : Bool) (lb : List Pt) (hz : ∀ z ∈ zs, 0 ≤ z ∧ z ≤ 4294967295) (hvz : Rd w vn (zs.map (Value.int .u32))) (hb : PutIn w vl lb) (hkb : ∀ x ∈ lb, x.Ok) :
    Calls Try.prog 3 #[.string mk, vn, .bool ow, vl] w fun e w' => e = .returned (.bool true) ∧ Below w.heap.size w w' := by
  obtain ⟨ps, hps, hpp⟩ := u32_nats zs hz
  rw [hps] at hvz
  by_cases hall : mk.size ≤ 200 ∧ ps.length ≤ 12 ∧ lb.length ≤ 12
  · obtain ⟨n2, n3, n4⟩ := hall
    exact twinRepairs_ok w mk vn vl ps ow lb n2 n3 hpp hvz n4 hb hkb
  have HWK := Lib.hid works14_any
  have hlu : (u32V ps).length = ps.length := by simp [u32V]
  obtain ⟨pb, cb, rfl, hcb, hcbm⟩ := RdS.form hb
  obtain ⟨pk, ck, rfl, k2, k3, _⟩ := hvz
  rw [hlu] at k2 ⊢
  have hcs : (200 < mk.size) ∨ (mk.size ≤ 200 ∧ 12 < ps.length) ∨ (mk.size ≤ 200 ∧ ps.length ≤ 12 ∧ 12 < lb.length) := by omega
  unfold maxLen at hcbm k3
  clear hall hb hkb hps hpp hz hlu
  rcases hcs with h1 | ⟨h1, h2⟩ | ⟨h1, h2, h3⟩
  · have t1 : (200 : Int) < mk.size := by omega
    clear h1
    go_enter Try.func3, Try.ntmps3
    go_wp2_with fail
    refine (HWK.out _).mono ?_
    rintro e w1 ⟨rfl, hbw⟩
    have HZ := Lib.hid hbw
    clear hbw
    go_wp2
    go_ret
    exact ⟨rfl, HZ.out⟩
  · have t1 : ¬ (200 : Int) < mk.size := by omega
    have t2 : (12 : Int) < ps.length := by omega
    clear h1 h2
    go_enter Try.func3, Try.ntmps3
    go_wp2_with fail
    refine (HWK.out _).mono ?_
    rintro e w1 ⟨rfl, hbw⟩
    have HZ := Lib.hid hbw
    clear hbw
    go_wp2
    go_ret
    exact ⟨rfl, HZ.out⟩
  · have t1 : ¬ (200 : Int) < mk.size := by omega
    have t2 : ¬ (12 : Int) < ps.length := by omega
    have t3 : (12 : Int) < lb.length := by omega
    clear h1 h2 h3
    go_enter Try.func3, Try.ntmps3
    go_wp2_with fail
    refine (HWK.out _).mono ?_
    rintro e w1 ⟨rfl, hbw⟩
    have HZ := Lib.hid hbw
    clear hbw
    go_wp2
    go_ret
    exact ⟨rfl, HZ.out⟩
set_option maxRecDepth 100000 in
theorem twinRepairs_lifted (os : Os) (started : os.Started) (H : Type) (enc : TypeId × Value → H) :
    ReturnsInHanded {} Try.checked os 3 .any (Rows.twinRepairsSpec.pre6 enc Try.prog Try.f3 Rows.twinRepairsRow.domain false) (Rows.twinRepairsSpec.post enc Try.prog Try.f3 false true false false) := by
  refine returnsInHanded_of_change_sized (C := Try.checked) own started (by kernel_rfl) Try.func3
    (ChangeSpec.witness6 (enc := enc) (C := Try.checked) false ⟨#[], #[.string ByteArray.empty, .slice none 0 0, .bool false, .slice none 0 0], []⟩ 8 (by kernel_rfl) (by kernel_rfl) (by kernel_rfl) (by kernel_rfl)) ?_
  intro W base args ds gs before hval0 hW hcnd hsz0 _
  have hval : ∀ (j : Nat) t v, Try.f3.params[j]? = some t → args[j]? = some v → Value.okWide Try.prog W .any base t v := hval0
  have hsz : (DataW.weightsEach Try.prog (Try.f3.params.toList ++ Rows.twinRepairsSpec.plain.varTypes Try.prog) (ds ++ gs)).all (· ≤ reachBytes) = true := hsz0
  have hW' := hW
  obtain ⟨p, q, hA0, hV, rfl, hfz, hnd⟩ := hW
  have hA : DataW.TrodAll enc Try.prog W 0 (fun _ => true) true Try.f3.params.toList args.toList ds p := hA0
  rw [Try.params3] at hA hval hsz
  obtain ⟨v0, vs0, d0, ds0, p0, q0, hargs, rfl, rfl, h0, r0⟩ := trodAll_cons hA
  obtain ⟨v1, vs1, d1, ds1, p1, q1, rfl, rfl, rfl, h1, r1⟩ := trodAll_cons r0
  obtain ⟨v2, vs2, d2, ds2, p2, q2, rfl, rfl, rfl, h2, r2⟩ := trodAll_cons r1
  obtain ⟨v3, vs3, d3, ds3, p3, q3, rfl, rfl, rfl, h3, r3⟩ := trodAll_cons r2
  obtain ⟨rfl, rfl, rfl⟩ := trodAll_nil r3
  obtain rfl : args = #[v0, v1, v2, v3] := by cases args; simp_all
  obtain ⟨rfl, rfl⟩ := trodVars_none hV
  obtain ⟨mk, rfl, rfl, rfl, w0⟩ := open_string Try.underlying9 (hval 0 9 v0 rfl rfl) h0
  have z0 := size_reach (sized_string hsz (j := 0) (t := 9) rfl rfl)
  obtain ⟨zs, R1, w1⟩ := rd_ints Try.underlying22 Try.underlying32 (by kernel_rfl) (hval 1 22 v1 rfl rfl) h1
  obtain ⟨ow, rfl, rfl, rfl⟩ := open_bool Try.underlying4 (hval 2 4 v2 rfl rfl) h2
  obtain ⟨lb, R3, k3⟩ := rd_puts (hval 3 23 v3 rfl rfl) h3
  clear hA0 hval0 hsz0
  simp only [List.append_nil] at hW'
  refine ((fun (_ : World) => twinRepairs_any W mk v1 v3 zs ow lb (fun z hz => by have := bounds_u32 (w1 z hz); omega) R1 R3 k3) W).mono fun e W' ⟨he, hb⟩ => ?_
  subst he
  exact ⟨_, rfl, law_post 4 Try.underlying4 (of_decide_eq_true (by kernel_rfl)) rfl rfl hW' rfl hb⟩
/-- THE STATEMENT. -/
theorem twinRepairs_holds : Rows.TwinRepairsSaid :=
  OpenClaim.holds_of_wide 3 Try.f3 rfl rfl rfl rfl rfl rfl rfl ⟨rfl, rfl, rfl, rfl, rfl⟩ rfl rfl rfl rfl rfl (by kernel_rfl) Try.func3 (by kernel_rfl)
    (of_decide_eq_true (by kernel_rfl)) (by unfold Func.isWrapper; first | (rw [if_pos (by decide +kernel)]; kernel_rfl) | (rw [if_neg (by decide +kernel)]; exact ⟨rfl, rfl⟩))
    (fun os started H enc _ => twinRepairs_lifted os started H enc)
end Go.Proofs.Ytdkhmhlphhammaa
