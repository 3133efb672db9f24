/-
  FrameTells: what a frame is, how long, and what bytes have at their front, and one behind the other. No conditions.
-/
import Derived.Test.YtfejjjbcloiddaaTellsN
import Derived.Test.YtfejjjbcloiddaaRd
namespace Go.Proofs.Ytfejjjbcloiddaa
open Go.ChangeShapes Go.WideShapes Go.ChangeAt Go.RowKit
open Go.ChangeMaps (open_string shut_string)
set_option maxRecDepth 100000 in
set_option maxHeartbeats 1000000 in
theorem frameTells_any (lsn : Nat) (text s : ByteArray) (own : Bool) (va vt : Value) (az tz : List Int) (n : Int) (hl : lsn < 18446744073709551616) (ht : text.size ≤ maxLen) (hs : s.size ≤ maxLen)
    (w : World) (ha : Rd w va (az.map (Value.int .u16))) (hto : Rd w vt (tz.map (Value.int .u8))) (hab : ∀ z ∈ az, (Lit.int .u16 z).wf = true) (htb : ∀ z ∈ tz, (Lit.int .u8 z).wf = true)
    (hn1 : -9223372036854775808 ≤ n) (hn2 : n ≤ 9223372036854775807) :
    Calls Try.prog 5 #[.int .u64 lsn, .string text, .string s, .bool own, va, vt, .int .i64 n] w fun e w' => e = .returned (.bool true) ∧ Below w.heap.size w w' := by
  by_cases hall : text.size ≤ 8192 ∧ s.size ≤ 4096 ∧ az.length ≤ 8 ∧ tz.length ≤ 8
  · obtain ⟨c1, c2, c3, c4⟩ := hall
    exact frameTells_ok lsn text s own va vt az tz n hl c1 c2 w ha hto (fun z hz => by have := bounds_u16 (hab z hz); omega) (fun z hz => by have := bounds_u8 (htb z hz); omega) c3 c4 hn1 hn2
  have hcases : (8192 < text.size) ∨ (¬ 8192 < text.size ∧ 4096 < s.size) ∨ (¬ 8192 < text.size ∧ ¬ 4096 < s.size ∧ 8 < az.length) ∨ (¬ 8192 < text.size ∧ ¬ 4096 < s.size ∧ ¬ 8 < az.length ∧ 8 < tz.length) := by omega
  obtain ⟨pa, ca, rfl, ha2, ha3, ha4⟩ := ha
  obtain ⟨pt, ct, rfl, ht2, ht3, ht4⟩ := hto
  rw [List.length_map] at *
  unfold maxLen at ha3 ht3 ht hs
  clear hall ha4 ht4 hab htb
  rcases hcases with d1 | ⟨d1, d2⟩ | ⟨d1, d2, d3⟩ | ⟨d1, d2, d3, d4⟩
  · have f1 : (8192 : Int) < text.size := by omega
    go_enter Try.func5, Try.ntmps5
    go_wp2_with fail
    refine (works10_any _).mono ?_; rintro e w3 ⟨rfl, hb⟩
    go_wp2
    go_ret
    exact ⟨rfl, hb⟩
  · have f1 : ¬ (8192 : Int) < text.size := by omega
    have f2 : (4096 : Int) < s.size := by omega
    go_enter Try.func5, Try.ntmps5
    go_wp2_with fail
    refine (works10_any _).mono ?_; rintro e w3 ⟨rfl, hb⟩
    go_wp2
    go_ret
    exact ⟨rfl, hb⟩
  · have f1 : ¬ (8192 : Int) < text.size := by omega
    have f2 : ¬ (4096 : Int) < s.size := by omega
    have f3 : (8 : Int) < az.length := by omega
    go_enter Try.func5, Try.ntmps5
    go_wp2_with fail
    refine (works10_any _).mono ?_; rintro e w3 ⟨rfl, hb⟩
    go_wp2
    go_ret
    exact ⟨rfl, hb⟩
  · have f1 : ¬ (8192 : Int) < text.size := by omega
    have f2 : ¬ (4096 : Int) < s.size := by omega
    have f3 : ¬ (8 : Int) < az.length := by omega
    have f4 : (8 : Int) < tz.length := by omega
    go_enter Try.func5, Try.ntmps5
    go_wp2_with fail
    refine (works10_any _).mono ?_; rintro e w3 ⟨rfl, hb⟩
    go_wp2
    go_ret
    exact ⟨rfl, hb⟩
set_option maxRecDepth 100000 in
theorem frameTells_lifted (os : Os) (started : os.Started) (H : Type) (enc : TypeId × Value → H) :
    ReturnsInHanded {} Try.checked os 5 .any (Rows.frameTellsSpec.pre6 enc Try.prog Try.f5 Rows.frameTellsRow.domain false) (Rows.frameTellsSpec.post enc Try.prog Try.f5 false true false false) := by
  refine returnsInHanded_of_change_sized (C := Try.checked) own started (by kernel_rfl) Try.func5
    (ChangeSpec.witness6 (enc := enc) (C := Try.checked) false ⟨#[], #[.int .u64 0, .string ByteArray.empty, .string ByteArray.empty, .bool false, .slice none 0 0, .slice none 0 0, .int .i64 0], []⟩ 8 (by kernel_rfl) (by kernel_rfl) (by kernel_rfl) (by kernel_rfl)) ?_
  intro W base args ds gs before hval0 hW hcnd hsz0 _
  have hval : ∀ (j : Nat) t v, Try.f5.params[j]? = some t → args[j]? = some v → Value.okWide Try.prog W .any base t v := hval0
  have hsz : (DataW.weightsEach Try.prog (Try.f5.params.toList ++ Rows.frameTellsSpec.plain.varTypes Try.prog) (ds ++ gs)).all (· ≤ reachBytes) = true := hsz0
  have hW' := hW
  obtain ⟨p, q, hA0, hV, rfl, hfz, hnd⟩ := hW
  have hA : DataW.TrodAll enc Try.prog W 0 (fun _ => true) true Try.f5.params.toList args.toList ds p := hA0
  rw [Try.params5] at hA hval hsz
  obtain ⟨v0, vs0, d0, ds0, p0, q0, hargs, rfl, rfl, h0, r0⟩ := trodAll_cons hA
  obtain ⟨v1, vs1, d1, ds1, p1, q1, rfl, rfl, rfl, h1, r1⟩ := trodAll_cons r0
  obtain ⟨v2, vs2, d2, ds2, p2, q2, rfl, rfl, rfl, h2, r2⟩ := trodAll_cons r1
  obtain ⟨v3, vs3, d3, ds3, p3, q3, rfl, rfl, rfl, h3, r3⟩ := trodAll_cons r2
  obtain ⟨v4, vs4, d4, ds4, p4, q4, rfl, rfl, rfl, h4, r4⟩ := trodAll_cons r3
  obtain ⟨v5, vs5, d5, ds5, p5, q5, rfl, rfl, rfl, h5, r5⟩ := trodAll_cons r4
  obtain ⟨v6, vs6, d6, ds6, p6, q6, rfl, rfl, rfl, h6, r6⟩ := trodAll_cons r5
  obtain ⟨rfl, rfl, rfl⟩ := trodAll_nil r6
  obtain rfl : args = #[v0, v1, v2, v3, v4, v5, v6] := by cases args; simp_all
  obtain ⟨rfl, rfl⟩ := trodVars_none hV
  obtain ⟨a, rfl, rfl, rfl, w0⟩ := open_int Try.underlying22 (hval 0 22 v0 rfl rfl) h0
  have b0 := bounds_u64 w0
  obtain ⟨a, rfl⟩ := Int.eq_ofNat_of_zero_le b0.1
  obtain ⟨s, rfl, rfl, rfl, w1⟩ := open_string Try.underlying9 (hval 1 9 v1 rfl rfl) h1
  have z1 := size_reach (sized_string hsz (j := 1) (t := 9) rfl rfl)
  obtain ⟨t, rfl, rfl, rfl, w2⟩ := open_string Try.underlying9 (hval 2 9 v2 rfl rfl) h2
  have z2 := size_reach (sized_string hsz (j := 2) (t := 9) rfl rfl)
  obtain ⟨own, rfl, rfl, rfl⟩ := open_bool Try.underlying4 (hval 3 4 v3 rfl rfl) h3
  obtain ⟨az, R4, w4⟩ := rd_ints Try.underlying35 Try.underlying31 (by kernel_rfl) (hval 4 35 v4 rfl rfl) h4
  obtain ⟨tz, R5, w5⟩ := rd_ints Try.underlying32 Try.underlying5 (by kernel_rfl) (hval 5 32 v5 rfl rfl) h5
  obtain ⟨n, rfl, rfl, rfl, w6⟩ := open_int Try.underlying3 (hval 6 3 v6 rfl rfl) h6
  have b6 := bounds_i64 w6
  clear hA0 hval0 hsz0
  simp only [List.append_nil] at hW'
  refine ((fun (_ : World) => frameTells_any a s t own v4 v5 az tz n (by omega) w1 w2 W R4 R5 w4 w5 b6.1 b6.2) W).mono fun e W' ⟨he, hb⟩ => ?_
  subst he
  exact ⟨_, rfl, law_post 4 Try.underlying4 (of_decide_eq_true (by kernel_rfl)) rfl rfl hW' rfl hb⟩
/-- THE STATEMENT. -/
theorem frameTells_holds : Rows.FrameTellsSaid :=
  OpenClaim.holds_of_wide 5 Try.f5 rfl rfl rfl rfl rfl rfl rfl ⟨rfl, rfl, rfl, rfl, rfl⟩ rfl rfl rfl rfl rfl (by kernel_rfl) Try.func5 (by kernel_rfl)
    (of_decide_eq_true (by kernel_rfl)) (by unfold Func.isWrapper; first | (rw [if_pos (by decide +kernel)]; kernel_rfl) | (rw [if_neg (by decide +kernel)]; exact ⟨rfl, rfl⟩))
    (fun os started H enc _ => frameTells_lifted os started H enc)
end Go.Proofs.Ytfejjjbcloiddaa
