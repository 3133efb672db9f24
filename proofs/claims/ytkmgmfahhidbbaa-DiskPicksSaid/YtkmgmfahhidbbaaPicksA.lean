/-
  DiskPicks: a crash keeps just the writes that it is told to; with all of them kept it is as behind a sync. No conditions.
-/
import Derived.Test.YtkmgmfahhidbbaaPicks
namespace Go.Proofs.Ytkmgmfahhidbbaa
open Go.ChangeShapes Go.WideShapes Go.ChangeAt Go.RowKit
open Go.ChangeMaps (open_string shut_string)
set_option maxRecDepth 100000 in
set_option maxHeartbeats 1000000 in
theorem diskPicks_any (v vk : Value) (cs : List CallM) (ks : List Bool) (w : World) (h : RdCalls w v cs) (hok : ∀ x ∈ cs, x.Ok) (hk : Rd w vk (ks.map Value.bool)) :
    Calls Try.prog 4 #[v, vk] w fun e w' => e = .returned (.bool true) ∧ Below w.heap.size w w' := by
  by_cases hhv : heavyB cs = true
  · have HC := Lib.hid h
    have HOK := Lib.hid hok
    have HHV := Lib.hid hhv
    obtain ⟨p, c, rfl, h2, h3, h4⟩ := h
    obtain ⟨pk, ck, rfl, k2, k3, k4⟩ := hk
    clear h4 k4 hok hhv
    go_enter Try.func4, Try.ntmps4
    go_wp2_with fail
    refine (heavy_any _ _ cs HC.out HOK.out).mono ?_
    rintro e w1 ⟨rfl, hB⟩
    rw [HHV.out]
    go_wp2_with fail
    refine (alive_any _).mono ?_; rintro e w3 ⟨rfl, hb⟩; replace hB := hB.step hb
    go_wp2
    go_ret
    exact ⟨rfl, hB⟩
  have hhv' : heavyB cs = false := by cases hx : heavyB cs <;> simp_all
  have hl : cs.length ≤ 100 := by
    unfold heavyB at hhv'
    simp at hhv'
    omega
  by_cases hkl : ks.length ≤ 200
  · exact diskPicks_ok w v vk cs ks h hok hk hl hkl hhv'
  · have HC := Lib.hid h
    have HOK := Lib.hid hok
    have HHV := Lib.hid hhv'
    obtain ⟨p, c, rfl, h2, h3, h4⟩ := h
    obtain ⟨pk, ck, rfl, k2, k3, k4⟩ := hk
    rw [List.length_map] at *
    unfold maxLen at k3
    have f1 : (200 : Int) < ks.length := by omega
    clear h4 k4 hok hhv hhv'
    go_enter Try.func4, Try.ntmps4
    go_wp2_with fail
    refine (heavy_any _ _ cs HC.out HOK.out).mono ?_
    rintro e w1 ⟨rfl, hB⟩
    rw [HHV.out]
    go_wp2_with fail
    refine (alive_any _).mono ?_; rintro e w3 ⟨rfl, hb⟩; replace hB := hB.step hb
    go_wp2
    go_ret
    exact ⟨rfl, hB⟩
set_option maxRecDepth 100000 in
theorem diskPicks_lifted (os : Os) (started : os.Started) (H : Type) (enc : TypeId × Value → H) :
    ReturnsInHanded {} Try.checked os 4 .any (Rows.diskPicksSpec.pre6 enc Try.prog Try.f4 Rows.diskPicksRow.domain false) (Rows.diskPicksSpec.post enc Try.prog Try.f4 false true false false) := by
  refine returnsInHanded_of_change_sized (C := Try.checked) own started (by kernel_rfl) Try.func4
    (ChangeSpec.witness6 (enc := enc) (C := Try.checked) false ⟨#[], #[.slice none 0 0, .slice none 0 0], []⟩ 8 (by kernel_rfl) (by kernel_rfl) (by kernel_rfl) (by kernel_rfl)) ?_
  intro W base args ds gs before hval0 hW hcnd hsz0 _
  have hval : ∀ (j : Nat) t v, Try.f4.params[j]? = some t → args[j]? = some v → Value.okWide Try.prog W .any base t v := hval0
  have hsz : (DataW.weightsEach Try.prog (Try.f4.params.toList ++ Rows.diskPicksSpec.plain.varTypes Try.prog) (ds ++ gs)).all (· ≤ reachBytes) = true := hsz0
  have hW' := hW
  obtain ⟨p, q, hA0, hV, rfl, hfz, hnd⟩ := hW
  have hA : DataW.TrodAll enc Try.prog W 0 (fun _ => true) true Try.f4.params.toList args.toList ds p := hA0
  rw [Try.params4] at hA hval hsz
  obtain ⟨v0, vs0, d0, ds0, p0, q0, hargs, rfl, rfl, h0, r0⟩ := trodAll_cons hA
  obtain ⟨v1, vs1, d1, ds1, p1, q1, rfl, rfl, rfl, h1, r1⟩ := trodAll_cons r0
  obtain ⟨rfl, rfl, rfl⟩ := trodAll_nil r1
  obtain rfl : args = #[v0, v1] := by cases args; simp_all
  obtain ⟨rfl, rfl⟩ := trodVars_none hV
  obtain ⟨cs, R0, w0⟩ := rd_calls (hval 0 22 v0 rfl rfl) h0 (fun n hn => by have := List.all_eq_true.1 hsz n (DataW.weights_mem_each (j := 0) (t := 22) (d := d0) rfl rfl n hn); simpa using this)
  obtain ⟨ks, R1⟩ := rd_bools Try.underlying23 Try.underlying4 (by kernel_rfl) (hval 1 23 v1 rfl rfl) h1
  clear hA0 hval0 hsz0
  simp only [List.append_nil] at hW'
  refine ((fun (_ : World) => diskPicks_any v0 v1 cs ks W R0 w0 R1) W).mono fun e W' ⟨he, hb⟩ => ?_
  subst he
  exact ⟨_, rfl, law_post 4 Try.underlying4 (of_decide_eq_true (by kernel_rfl)) rfl rfl hW' rfl hb⟩
/-- THE STATEMENT. -/
theorem diskPicks_holds : Rows.DiskPicksSaid :=
  OpenClaim.holds_of_wide 4 Try.f4 rfl rfl rfl rfl rfl rfl rfl ⟨rfl, rfl, rfl, rfl, rfl⟩ rfl rfl rfl rfl rfl (by kernel_rfl) Try.func4 (by kernel_rfl)
    (of_decide_eq_true (by kernel_rfl)) (by unfold Func.isWrapper; first | (rw [if_pos (by decide +kernel)]; kernel_rfl) | (rw [if_neg (by decide +kernel)]; exact ⟨rfl, rfl⟩))
    (fun os started H enc _ => diskPicks_lifted os started H enc)
end Go.Proofs.Ytkmgmfahhidbbaa
