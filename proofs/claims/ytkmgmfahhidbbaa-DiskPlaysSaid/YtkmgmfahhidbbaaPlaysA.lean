/-
  DiskPlays: what a disk answers, call by call, which sectors it has, what is loose, what a crash keeps. No conditions.
-/
import Derived.Test.YtkmgmfahhidbbaaPlays2
import Derived.Test.YtkmgmfahhidbbaaPlays3
namespace Go.Proofs.Ytkmgmfahhidbbaa
open Go.ChangeShapes Go.WideShapes Go.ChangeAt Go.RowKit
open Go.ChangeMaps (open_string shut_string)
set_option maxRecDepth 100000 in
set_option maxHeartbeats 1000000 in
theorem diskPlays_any (sec : Int) (img : ByteArray) (by' : Bool) (v : Value) (cs : List CallM) (hs1 : -9223372036854775808 ≤ sec) (hs2 : sec ≤ 9223372036854775807) (him : img.size ≤ maxLen) (w : World) (h : RdCalls w v cs) (hok : ∀ x ∈ cs, x.Ok) :
    Calls Try.prog 6 #[.int .i64 sec, .string img, .bool by', v] w fun e w' => e = .returned (.bool true) ∧ Below w.heap.size w w' := by
  unfold maxLen at him
  by_cases hhv : heavyB cs = true
  · have := hhv
    have HC := Lib.hid h
    have HOK := Lib.hid hok
    have HHV := Lib.hid hhv
    obtain ⟨p, c, rfl, h2, h3, h4⟩ := h
    clear h4 hok
    clear hhv this
    go_enter Try.func6, Try.ntmps6
    go_wp2_with fail
    refine (heavy_any _ _ cs HC.out HOK.out).mono ?_
    rintro e w1 ⟨rfl, hB⟩
    rw [HHV.out]
    go_wp2_with fail
    refine (alive_any _).mono ?_; rintro e w3 ⟨rfl, hb⟩; replace hB := hB.step hb
    go_wp2
    go_ret
    exact ⟨rfl, hB⟩
  have hhv' : heavyB cs = false := by cases hx : heavyB cs <;> simp_all
  have hl : cs.length ≤ 100 := by
    unfold heavyB at hhv'
    simp at hhv'
    omega
  clear hhv
  by_cases hi : img.size ≤ 2048
  · by_cases hsec : sec ≤ 64 ∨ 16384 < sec
    · cases by'
      · exact diskPlays_false w sec img v cs h hok hl hhv' hi hs1 hs2 hsec
      · exact diskPlays_true w sec img v cs h hok hl hhv' hi hs1 hs2 hsec
    have f1 : ¬ (2048 : Int) < img.size := by omega
    have f2 : (64 : Int) < sec := by omega
    have f3 : sec ≤ (16384 : Int) := by omega
    have HC := Lib.hid h
    have HOK := Lib.hid hok
    have HHV := Lib.hid hhv'
    obtain ⟨p, c, rfl, h2, h3, h4⟩ := h
    clear h4 hok
    clear hhv' hsec hi
    go_enter Try.func6, Try.ntmps6
    go_wp2_with fail
    refine (heavy_any _ _ cs HC.out HOK.out).mono ?_
    rintro e w1 ⟨rfl, hB⟩
    rw [HHV.out]
    go_wp2_with fail
    refine (alive_any _).mono ?_; rintro e w3 ⟨rfl, hb⟩; replace hB := hB.step hb
    go_wp2
    go_ret
    exact ⟨rfl, hB⟩
  · have f1 : (2048 : Int) < img.size := by omega
    have HC := Lib.hid h
    have HOK := Lib.hid hok
    have HHV := Lib.hid hhv'
    obtain ⟨p, c, rfl, h2, h3, h4⟩ := h
    clear h4 hok
    clear hhv' hi
    go_enter Try.func6, Try.ntmps6
    go_wp2_with fail
    refine (heavy_any _ _ cs HC.out HOK.out).mono ?_
    rintro e w1 ⟨rfl, hB⟩
    rw [HHV.out]
    go_wp2_with fail
    refine (alive_any _).mono ?_; rintro e w3 ⟨rfl, hb⟩; replace hB := hB.step hb
    go_wp2
    go_ret
    exact ⟨rfl, hB⟩
set_option maxRecDepth 100000 in
theorem diskPlays_lifted (os : Os) (started : os.Started) (H : Type) (enc : TypeId × Value → H) :
    ReturnsInHanded {} Try.checked os 6 .any (Rows.diskPlaysSpec.pre6 enc Try.prog Try.f6 Rows.diskPlaysRow.domain false) (Rows.diskPlaysSpec.post enc Try.prog Try.f6 false true false false) := by
  refine returnsInHanded_of_change_sized (C := Try.checked) own started (by kernel_rfl) Try.func6
    (ChangeSpec.witness6 (enc := enc) (C := Try.checked) false ⟨#[], #[.int .i64 0, .string ByteArray.empty, .bool false, .slice none 0 0], []⟩ 8 (by kernel_rfl) (by kernel_rfl) (by kernel_rfl) (by kernel_rfl)) ?_
  intro W base args ds gs before hval0 hW hcnd hsz0 _
  have hval : ∀ (j : Nat) t v, Try.f6.params[j]? = some t → args[j]? = some v → Value.okWide Try.prog W .any base t v := hval0
  have hsz : (DataW.weightsEach Try.prog (Try.f6.params.toList ++ Rows.diskPlaysSpec.plain.varTypes Try.prog) (ds ++ gs)).all (· ≤ reachBytes) = true := hsz0
  have hW' := hW
  obtain ⟨p, q, hA0, hV, rfl, hfz, hnd⟩ := hW
  have hA : DataW.TrodAll enc Try.prog W 0 (fun _ => true) true Try.f6.params.toList args.toList ds p := hA0
  rw [Try.params6] at hA hval hsz
  obtain ⟨v0, vs0, d0, ds0, p0, q0, hargs, rfl, rfl, h0, r0⟩ := trodAll_cons hA
  obtain ⟨v1, vs1, d1, ds1, p1, q1, rfl, rfl, rfl, h1, r1⟩ := trodAll_cons r0
  obtain ⟨v2, vs2, d2, ds2, p2, q2, rfl, rfl, rfl, h2, r2⟩ := trodAll_cons r1
  obtain ⟨v3, vs3, d3, ds3, p3, q3, rfl, rfl, rfl, h3, r3⟩ := trodAll_cons r2
  obtain ⟨rfl, rfl, rfl⟩ := trodAll_nil r3
  obtain rfl : args = #[v0, v1, v2, v3] := by cases args; simp_all
  obtain ⟨rfl, rfl⟩ := trodVars_none hV
  obtain ⟨sec, rfl, rfl, rfl, w0⟩ := open_int Try.underlying3 (hval 0 3 v0 rfl rfl) h0
  have b0 := bounds_i64 w0
  obtain ⟨img, rfl, rfl, rfl, w1⟩ := open_string Try.underlying9 (hval 1 9 v1 rfl rfl) h1
  have z1 := size_reach (sized_string hsz (j := 1) (t := 9) rfl rfl)
  obtain ⟨bb, rfl, rfl, rfl⟩ := open_bool Try.underlying4 (hval 2 4 v2 rfl rfl) h2
  obtain ⟨cs, R3, w3⟩ := rd_calls (hval 3 22 v3 rfl rfl) h3 (fun n hn => by have := List.all_eq_true.1 hsz n (DataW.weights_mem_each (j := 3) (t := 22) (d := d3) rfl rfl n hn); simpa using this)
  clear hA0 hval0 hsz0
  simp only [List.append_nil] at hW'
  refine ((fun (_ : World) => diskPlays_any sec img bb v3 cs b0.1 b0.2 w1 W R3 w3) W).mono fun e W' ⟨he, hb⟩ => ?_
  subst he
  exact ⟨_, rfl, law_post 4 Try.underlying4 (of_decide_eq_true (by kernel_rfl)) rfl rfl hW' rfl hb⟩
/-- THE STATEMENT. -/
theorem diskPlays_holds : Rows.DiskPlaysSaid :=
  OpenClaim.holds_of_wide 6 Try.f6 rfl rfl rfl rfl rfl rfl rfl ⟨rfl, rfl, rfl, rfl, rfl⟩ rfl rfl rfl rfl rfl (by kernel_rfl) Try.func6 (by kernel_rfl)
    (of_decide_eq_true (by kernel_rfl)) (by unfold Func.isWrapper; first | (rw [if_pos (by decide +kernel)]; kernel_rfl) | (rw [if_neg (by decide +kernel)]; exact ⟨rfl, rfl⟩))
    (fun os started H enc _ => diskPlays_lifted os started H enc)
end Go.Proofs.Ytkmgmfahhidbbaa
