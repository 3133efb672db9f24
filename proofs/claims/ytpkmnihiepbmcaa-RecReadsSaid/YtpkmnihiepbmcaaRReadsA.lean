/-
  RecReads: which record bytes are: any bytes, or a record's in which some are other ones, or that are cut off. No conditions.
-/
import Derived.Test.YtpkmnihiepbmcaaRec16
import Derived.Test.YtpkmnihiepbmcaaRecA
import Derived.Test.YtpkmnihiepbmcaaRd
import Derived.Test.YtpkmnihiepbmcaaFrame
namespace Go.Proofs.Ytpkmnihiepbmcaa
open Go.ChangeShapes Go.WideShapes Go.ChangeAt Go.RowKit
open Go.ChangeMaps (open_string shut_string)
set_option maxRecDepth 100000 in
theorem recReads_lifted (os : Os) (started : os.Started) (H : Type) (enc : TypeId × Value → H) :
    ReturnsInHanded {} Try.checked os 4 .any (Rows.recReadsSpec.pre6 enc Try.prog Try.f4 Rows.recReadsRow.domain false) (Rows.recReadsSpec.post enc Try.prog Try.f4 false true false false) := by
  refine returnsInHanded_of_change_sized (C := Try.checked) own started (by kernel_rfl) Try.func4
    (ChangeSpec.witness6 (enc := enc) (C := Try.checked) false ⟨#[], #[.string ByteArray.empty, .agg #[.int .u8 0, .int .u64 0, .int .u64 0, .int .u32 0, .int .u16 0, .int .u64 0, .int .u64 0, .string ByteArray.empty, .slice none 0 0, .slice none 0 0, .int .u64 0, .int .u64 0], .bool false, .slice none 0 0, .slice none 0 0, .int .u16 0], []⟩ 8 (by kernel_rfl) (by kernel_rfl) (by kernel_rfl) (by kernel_rfl)) ?_
  intro W base args ds gs before hval0 hW hcnd hsz0 _
  have hval : ∀ (j : Nat) t v, Try.f4.params[j]? = some t → args[j]? = some v → Value.okWide Try.prog W .any base t v := hval0
  have hsz : (DataW.weightsEach Try.prog (Try.f4.params.toList ++ Rows.recReadsSpec.plain.varTypes Try.prog) (ds ++ gs)).all (· ≤ reachBytes) = true := hsz0
  have hW' := hW
  obtain ⟨p, q, hA0, hV, rfl, hfz, hnd⟩ := hW
  have hA : DataW.TrodAll enc Try.prog W 0 (fun _ => true) true Try.f4.params.toList args.toList ds p := hA0
  rw [Try.params4] at hA hval hsz
  obtain ⟨v0, vs0, d0, ds0, p0, q0, hargs, rfl, rfl, h0, r0⟩ := trodAll_cons hA
  obtain ⟨v1, vs1, d1, ds1, p1, q1, rfl, rfl, rfl, h1, r1⟩ := trodAll_cons r0
  obtain ⟨v2, vs2, d2, ds2, p2, q2, rfl, rfl, rfl, h2, r2⟩ := trodAll_cons r1
  obtain ⟨v3, vs3, d3, ds3, p3, q3, rfl, rfl, rfl, h3, r3⟩ := trodAll_cons r2
  obtain ⟨v4, vs4, d4, ds4, p4, q4, rfl, rfl, rfl, h4, r4⟩ := trodAll_cons r3
  obtain ⟨v5, vs5, d5, ds5, p5, q5, rfl, rfl, rfl, h5, r5⟩ := trodAll_cons r4
  obtain ⟨rfl, rfl, rfl⟩ := trodAll_nil r5
  obtain rfl : args = #[v0, v1, v2, v3, v4, v5] := by cases args; simp_all
  obtain ⟨rfl, rfl⟩ := trodVars_none hV
  obtain ⟨s, rfl, rfl, rfl, w0⟩ := open_string Try.underlying9 (hval 0 9 v0 rfl rfl) h0
  have z0 := size_reach (sized_string hsz (j := 0) (t := 9) rfl rfl)
  obtain ⟨r, vd1, vt1, rfl, k1, R1⟩ := open_rec (hval 1 32 v1 rfl rfl) h1
  obtain ⟨own, rfl, rfl, rfl⟩ := open_bool Try.underlying4 (hval 2 4 v2 rfl rfl) h2
  obtain ⟨az, R3, w3⟩ := rd_ints Try.underlying41 Try.underlying24 (by kernel_rfl) (hval 3 41 v3 rfl rfl) h3
  obtain ⟨tz, R4, w4⟩ := rd_ints Try.underlying42 Try.underlying5 (by kernel_rfl) (hval 4 42 v4 rfl rfl) h4
  obtain ⟨cut, rfl, rfl, rfl, w5⟩ := open_int Try.underlying24 (hval 5 24 v5 rfl rfl) h5
  have b5 := bounds_u16 w5
  obtain ⟨cut, rfl⟩ := Int.eq_ofNat_of_zero_le b5.1
  clear hA0 hval0 hsz0
  simp only [List.append_nil] at hW'
  refine ((fun (_ : World) => recReads_any s w0 r k1 own vd1 vt1 v3 v4 az tz cut (by omega) W R1 R3 R4 (fun z hz => by have := bounds_u16 (w3 z hz); omega) (fun z hz => by have := bounds_u8 (w4 z hz); omega)) W).mono fun e W' ⟨he, hb⟩ => ?_
  subst he
  exact ⟨_, rfl, law_post 4 Try.underlying4 (of_decide_eq_true (by kernel_rfl)) rfl rfl hW' rfl hb⟩
/-- THE STATEMENT. -/
theorem recReads_holds : Rows.RecReadsSaid :=
  OpenClaim.holds_of_wide 4 Try.f4 rfl rfl rfl rfl rfl rfl rfl ⟨rfl, rfl, rfl, rfl, rfl⟩ rfl rfl rfl rfl rfl (by kernel_rfl) Try.func4 (by kernel_rfl)
    (of_decide_eq_true (by kernel_rfl)) (by unfold Func.isWrapper; first | (rw [if_pos (by decide +kernel)]; kernel_rfl) | (rw [if_neg (by decide +kernel)]; exact ⟨rfl, rfl⟩))
    (fun os started H enc _ => recReads_lifted os started H enc)
end Go.Proofs.Ytpkmnihiepbmcaa
