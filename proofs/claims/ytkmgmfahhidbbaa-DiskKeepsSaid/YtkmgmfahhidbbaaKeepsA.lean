/-
  DiskKeeps: behind a crash each sector is as its last sync had it or as one of the writes since. No conditions.
-/
import Derived.Test.YtkmgmfahhidbbaaKeeps
namespace Go.Proofs.Ytkmgmfahhidbbaa
open Go.ChangeShapes Go.WideShapes Go.ChangeAt Go.RowKit
open Go.ChangeMaps (open_string shut_string)
set_option maxRecDepth 100000 in
set_option maxHeartbeats 1000000 in
theorem diskKeeps_any (v vk : Value) (cs : List CallM) (ks : List Bool) (fu : Nat) (hfu : fu < 256) (w : World) (h : RdCalls w v cs) (hok : ∀ x ∈ cs, x.Ok) (hk : Rd w vk (ks.map Value.bool)) :
    Calls Try.prog 3 #[v, .int .u8 fu, vk] w fun e w' => e = .returned (.bool true) ∧ Below w.heap.size w w' := by
  by_cases hhv : heavyB cs = true
  · have HC := Lib.hid h
    have HOK := Lib.hid hok
    have HHV := Lib.hid hhv
    obtain ⟨p, c, rfl, h2, h3, h4⟩ := h
    obtain ⟨pk, ck, rfl, k2, k3, k4⟩ := hk
    clear h4 k4 hok hhv
    go_enter Try.func3, Try.ntmps3
    go_wp2_with fail
    refine (heavy_any _ _ cs HC.out HOK.out).mono ?_
    rintro e w1 ⟨rfl, hB⟩
    rw [HHV.out]
    go_wp2_with fail
    refine (alive_any _).mono ?_; rintro e w3 ⟨rfl, hb⟩; replace hB := hB.step hb
    go_wp2
    go_ret
    exact ⟨rfl, hB⟩
  have hhv' : heavyB cs = false := by cases hx : heavyB cs <;> simp_all
  have hl : cs.length ≤ 100 := by
    unfold heavyB at hhv'
    simp at hhv'
    omega
  by_cases hkl : ks.length ≤ 200
  · exact diskKeeps_ok w v vk cs ks fu hfu h hok hk hl hkl hhv'
  · have HC := Lib.hid h
    have HOK := Lib.hid hok
    have HHV := Lib.hid hhv'
    obtain ⟨p, c, rfl, h2, h3, h4⟩ := h
    obtain ⟨pk, ck, rfl, k2, k3, k4⟩ := hk
    rw [List.length_map] at *
    unfold maxLen at k3
    have f1 : (200 : Int) < ks.length := by omega
    clear h4 k4 hok hhv hhv'
    go_enter Try.func3, Try.ntmps3
    go_wp2_with fail
    refine (heavy_any _ _ cs HC.out HOK.out).mono ?_
    rintro e w1 ⟨rfl, hB⟩
    rw [HHV.out]
    go_wp2_with fail
    refine (alive_any _).mono ?_; rintro e w3 ⟨rfl, hb⟩; replace hB := hB.step hb
    go_wp2
    go_ret
    exact ⟨rfl, hB⟩
set_option maxRecDepth 100000 in
theorem diskKeeps_lifted (os : Os) (started : os.Started) (H : Type) (enc : TypeId × Value → H) :
    ReturnsInHanded {} Try.checked os 3 .any (Rows.diskKeepsSpec.pre6 enc Try.prog Try.f3 Rows.diskKeepsRow.domain false) (Rows.diskKeepsSpec.post enc Try.prog Try.f3 false true false false) := by
  refine returnsInHanded_of_change_sized (C := Try.checked) own started (by kernel_rfl) Try.func3
    (ChangeSpec.witness6 (enc := enc) (C := Try.checked) false ⟨#[], #[.slice none 0 0, .int .u8 0, .slice none 0 0], []⟩ 8 (by kernel_rfl) (by kernel_rfl) (by kernel_rfl) (by kernel_rfl)) ?_
  intro W base args ds gs before hval0 hW hcnd hsz0 _
  have hval : ∀ (j : Nat) t v, Try.f3.params[j]? = some t → args[j]? = some v → Value.okWide Try.prog W .any base t v := hval0
  have hsz : (DataW.weightsEach Try.prog (Try.f3.params.toList ++ Rows.diskKeepsSpec.plain.varTypes Try.prog) (ds ++ gs)).all (· ≤ reachBytes) = true := hsz0
  have hW' := hW
  obtain ⟨p, q, hA0, hV, rfl, hfz, hnd⟩ := hW
  have hA : DataW.TrodAll enc Try.prog W 0 (fun _ => true) true Try.f3.params.toList args.toList ds p := hA0
  rw [Try.params3] at hA hval hsz
  obtain ⟨v0, vs0, d0, ds0, p0, q0, hargs, rfl, rfl, h0, r0⟩ := trodAll_cons hA
  obtain ⟨v1, vs1, d1, ds1, p1, q1, rfl, rfl, rfl, h1, r1⟩ := trodAll_cons r0
  obtain ⟨v2, vs2, d2, ds2, p2, q2, rfl, rfl, rfl, h2, r2⟩ := trodAll_cons r1
  obtain ⟨rfl, rfl, rfl⟩ := trodAll_nil r2
  obtain rfl : args = #[v0, v1, v2] := by cases args; simp_all
  obtain ⟨rfl, rfl⟩ := trodVars_none hV
  obtain ⟨cs, R0, w0⟩ := rd_calls (hval 0 22 v0 rfl rfl) h0 (fun n hn => by have := List.all_eq_true.1 hsz n (DataW.weights_mem_each (j := 0) (t := 22) (d := d0) rfl rfl n hn); simpa using this)
  obtain ⟨m, rfl, rfl, rfl, w1⟩ := open_int Try.underlying5 (hval 1 5 v1 rfl rfl) h1
  have b1 := bounds_u8 w1
  obtain ⟨m, rfl⟩ := Int.eq_ofNat_of_zero_le b1.1
  obtain ⟨ks, R2⟩ := rd_bools Try.underlying23 Try.underlying4 (by kernel_rfl) (hval 2 23 v2 rfl rfl) h2
  clear hA0 hval0 hsz0
  simp only [List.append_nil] at hW'
  refine ((fun (_ : World) => diskKeeps_any v0 v2 cs ks m (by omega) W R0 w0 R2) W).mono fun e W' ⟨he, hb⟩ => ?_
  subst he
  exact ⟨_, rfl, law_post 4 Try.underlying4 (of_decide_eq_true (by kernel_rfl)) rfl rfl hW' rfl hb⟩
/-- THE STATEMENT. -/
theorem diskKeeps_holds : Rows.DiskKeepsSaid :=
  OpenClaim.holds_of_wide 3 Try.f3 rfl rfl rfl rfl rfl rfl rfl ⟨rfl, rfl, rfl, rfl, rfl⟩ rfl rfl rfl rfl rfl (by kernel_rfl) Try.func3 (by kernel_rfl)
    (of_decide_eq_true (by kernel_rfl)) (by unfold Func.isWrapper; first | (rw [if_pos (by decide +kernel)]; kernel_rfl) | (rw [if_neg (by decide +kernel)]; exact ⟨rfl, rfl⟩))
    (fun os started H enc _ => diskKeeps_lifted os started H enc)
end Go.Proofs.Ytkmgmfahhidbbaa
