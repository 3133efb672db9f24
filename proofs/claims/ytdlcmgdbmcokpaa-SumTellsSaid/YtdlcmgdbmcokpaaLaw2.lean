/-
  The four statements of layer 2 (sum): each law returns true, whatever its arguments (strings within the form's reach).
-/
import Derived.Test.YtdlcmgdbmcokpaaSum
import Derived.Test.YtdlcmgdbmcokpaaFrame
import Derived.Deep.RegionWith
namespace Go.Proofs.Ytdlcmgdbmcokpaa
open Go.ChangeShapes Go.WideShapes Go.ChangeAt Go.RowKit
open Go.ChangeMaps (open_string shut_string)
theorem k_seal_abc : PSum.sealL [97, 98, 99] = [97, 98, 99, 183, 63, 75, 54] := by decide +kernel
theorem k_open_abc : openS [97, 98, 99, 183, 63, 75, 54] = [97, 98, 99] := by decide +kernel
theorem k_openOk_abc : PSum.openOk [97, 98, 99, 183, 63, 75, 54] = true := by decide +kernel
theorem k_openOk_no : PSum.openOk [97, 98, 99] = false := by decide +kernel
theorem k_of_digits : ofN [49, 50, 51, 52, 53, 54, 55, 56, 57] = 3808858755 := by decide +kernel
theorem k_of_nil : ofN [] = 0 := by decide +kernel
theorem k_seal_nil : PSum.sealL [] = [0, 0, 0, 0] := by decide +kernel
set_option maxHeartbeats 1000000 in
theorem alive_any (w : World) : Calls Try.prog 7 #[] w fun e w' => e = .returned (.bool true) ∧ Below w.heap.size w w' := by
  have e1 := k_seal_abc
  have e2 := k_open_abc
  have e3 := k_openOk_abc
  have e4 := k_openOk_no
  have e5 := k_of_digits
  have e6 := k_of_nil
  have e7 := k_seal_nil
  go_enter Try.func7, Try.ntmps7
  go_wp2_with fail
  refine (seal_any _ (by decide) _).mono ?_; rintro e w1 ⟨rfl, hb1⟩
  go_wp2_with fail
  refine (open_any _ (by decide) _).mono ?_; rintro e w2 ⟨rfl, hb2⟩
  go_wp2_with fail
  refine (open_any _ (by decide) _).mono ?_; rintro e w3 ⟨rfl, hb3⟩
  go_wp2_with fail
  refine (of_any _ (by decide) _).mono ?_; rintro e w4 ⟨rfl, hb4⟩
  go_wp2_with fail
  refine (of_any _ (by decide) _).mono ?_; rintro e w5 ⟨rfl, hb5⟩
  go_wp2_with fail
  refine (seal_any _ (by decide) _).mono ?_; rintro e w6 ⟨rfl, hb6⟩
  go_wp2
  go_ret
  exact ⟨rfl, hb1.step (hb2.step (hb3.step (hb4.step (hb5.step hb6))))⟩

set_option maxHeartbeats 2000000 in
theorem sumTells_any (s t : ByteArray) (c : Nat) (hc : c < 4294967296) (hs : s.size ≤ maxLen) (ht : t.size ≤ maxLen) (w : World) : Calls Try.prog 3 #[.string s, .string t, .int .u32 c] w fun e w' => e = .returned (.bool true) ∧ Below w.heap.size w w' := by
  unfold maxLen at hs ht
  have hB := Below.refl w.heap.size w
  by_cases h1 : 4096 < s.size
  · have h1' : (4096 : Int) < s.size := by omega
    go_enter Try.func3, Try.ntmps3
    go_wp2_with fail
    refine (alive_any _).mono ?_; rintro e w' ⟨rfl, hb⟩
    go_wp2
    go_ret
    exact ⟨rfl, hb⟩
  · have h1' : ¬ (4096 : Int) < s.size := by omega
    by_cases h2 : 4096 < t.size
    · have h2' : (4096 : Int) < t.size := by omega
      go_enter Try.func3, Try.ntmps3
      go_wp2_with fail
      refine (alive_any _).mono ?_; rintro e w' ⟨rfl, hb⟩
      go_wp2
      go_ret
      exact ⟨rfl, hb⟩
    · have h2' : ¬ (4096 : Int) < t.size := by omega
      go_enter Try.func3, Try.ntmps3
      go_wp2_with fail
      refine (open_any _ (by omega) _).mono ?_; rintro e w1 ⟨rfl, hb⟩; replace hB := hB.step hb; clear hb
      go_wp2_with fail
      refine (ropen_any _ (by omega) _).mono ?_; rintro e w2 ⟨rfl, hb⟩; replace hB := hB.step hb; clear hb
      go_wp2_with fail
      refine (of_any _ (by unfold maxLen; omega) _).mono ?_; rintro e w3 ⟨rfl, hb⟩; replace hB := hB.step hb; clear hb
      go_wp2_with fail
      refine (rof_any _ (by unfold maxLen; omega) _).mono ?_; rintro e w4 ⟨rfl, rfl⟩
      go_wp2_with fail
      refine (more_any c hc _ (by unfold maxLen; omega) _).mono ?_; rintro e w5 ⟨rfl, hb⟩; replace hB := hB.step hb; clear hb
      go_wp2_with fail
      refine (rmore_any c hc _ (by unfold maxLen; omega) _).mono ?_; rintro e w6 ⟨rfl, rfl⟩
      go_wp2_with fail
      refine (seal_any _ (by omega) _).mono ?_; rintro e w7 ⟨rfl, hb⟩; replace hB := hB.step hb; clear hb
      go_wp2_with fail
      refine (rseal_any _ (by omega) _).mono ?_; rintro e w8 ⟨rfl, hb⟩; replace hB := hB.step hb; clear hb
      go_wp2_with fail
      refine (alive_any _).mono ?_; rintro e w9 ⟨rfl, hb⟩; replace hB := hB.step hb; clear hb
      go_wp2
      go_ret
      exact ⟨rfl, hB⟩

set_option maxRecDepth 100000 in
theorem sumTells_lifted (os : Os) (started : os.Started) (H : Type) (enc : TypeId × Value → H) :
    ReturnsInHanded {} Try.checked os 3 .any (Rows.sumTellsSpec.pre6 enc Try.prog Try.f3 Rows.sumTellsRow.domain false) (Rows.sumTellsSpec.post enc Try.prog Try.f3 false true false false) := by
  refine returnsInHanded_of_change_sized (C := Try.checked) own started (by kernel_rfl) Try.func3
    (ChangeSpec.witness6 (enc := enc) (C := Try.checked) false ⟨#[], #[.string ByteArray.empty, .string ByteArray.empty, .int .u32 0], []⟩ 8 (by kernel_rfl) (by kernel_rfl) (by kernel_rfl) (by kernel_rfl)) ?_
  intro W base args ds gs before hval0 hW hcnd hsz0 _
  have hval : ∀ (j : Nat) t v, Try.f3.params[j]? = some t → args[j]? = some v → Value.okWide Try.prog W .any base t v := hval0
  have hsz : (DataW.weightsEach Try.prog (Try.f3.params.toList ++ Rows.sumTellsSpec.plain.varTypes Try.prog) (ds ++ gs)).all (· ≤ reachBytes) = true := hsz0
  have hW' := hW
  obtain ⟨p, q, hA0, hV, rfl, hfz, hnd⟩ := hW
  have hA : DataW.TrodAll enc Try.prog W 0 (fun _ => true) true Try.f3.params.toList args.toList ds p := hA0
  rw [Try.params3] at hA hval hsz
  obtain ⟨v0, vs0, d0, ds0, p0, q0, hargs, rfl, rfl, h0, r0⟩ := trodAll_cons hA
  obtain ⟨v1, vs1, d1, ds1, p1, q1, rfl, rfl, rfl, h1, r1⟩ := trodAll_cons r0
  obtain ⟨v2, vs2, d2, ds2, p2, q2, rfl, rfl, rfl, h2, r2⟩ := trodAll_cons r1
  obtain ⟨rfl, rfl, rfl⟩ := trodAll_nil r2
  obtain rfl : args = #[v0, v1, v2] := by cases args; simp_all
  obtain ⟨rfl, rfl⟩ := trodVars_none hV
  obtain ⟨a0, rfl, rfl, rfl, w0⟩ := open_string Try.underlying9 (hval 0 9 v0 rfl rfl) h0
  have z0 := size_reach (sized_string hsz (j := 0) (t := 9) rfl rfl)
  obtain ⟨a1, rfl, rfl, rfl, w1⟩ := open_string Try.underlying9 (hval 1 9 v1 rfl rfl) h1
  have z1 := size_reach (sized_string hsz (j := 1) (t := 9) rfl rfl)
  obtain ⟨c, rfl, rfl, rfl, w2⟩ := open_int Try.underlying22 (hval 2 22 v2 rfl rfl) h2
  have b2 := bounds_u32 w2
  obtain ⟨c, rfl⟩ := Int.eq_ofNat_of_zero_le b2.1
  clear hA0 hval0 hsz0
  simp only [List.append_nil] at hW'
  refine (sumTells_any a0 a1 c (by omega) w0 w1 W).mono fun e W' ⟨he, hb⟩ => ?_
  subst he
  exact ⟨_, rfl, law_post 4 Try.underlying4 (of_decide_eq_true (by kernel_rfl)) rfl rfl hW' rfl hb⟩
/-- THE STATEMENT. -/
theorem sumTells_holds : Rows.SumTellsSaid :=
  OpenClaim.holds_of_wide 3 Try.f3 rfl rfl rfl rfl rfl rfl rfl ⟨rfl, rfl, rfl, rfl, rfl⟩ rfl rfl rfl rfl rfl (by kernel_rfl) Try.func3 (by kernel_rfl)
    (of_decide_eq_true (by kernel_rfl)) (by unfold Func.isWrapper; first | (rw [if_pos (by decide +kernel)]; kernel_rfl) | (rw [if_neg (by decide +kernel)]; exact ⟨rfl, rfl⟩))
    (fun os started H enc _ => sumTells_lifted os started H enc)

theorem size_mk (l : List UInt8) : (ByteArray.mk l.toArray).size = l.length := rfl
theorem openS_seal (l : List UInt8) : openS (PSum.sealL l) = l := by
  unfold openS; rw [PSum.open_seal, if_pos rfl, PSum.seal_length]
  unfold PSum.sealL; simp
theorem goes1 (l m : List UInt8) : moreN (ofN l) m = ofN (l ++ m) := by
  unfold ofN moreN
  rw [← PSum.more_append]; congr 1
  rw [BitVec.ofNat_toNat, BitVec.setWidth_eq]
theorem goes2 (c : Nat) (l m : List UInt8) : moreN (moreN c l) m = moreN c (l ++ m) := by
  unfold moreN
  rw [← PSum.more_append]; congr 1
  rw [BitVec.ofNat_toNat, BitVec.setWidth_eq]
theorem goes3 (c : Nat) (hc : c < 4294967296) : moreN c [] = c := by
  unfold moreN
  rw [PSum.more_nil, BitVec.toNat_ofNat]; omega
theorem moreN_lt (c : Nat) (l : List UInt8) : moreN c l < 4294967296 := (PSum.more (BitVec.ofNat 32 c) l).isLt
set_option maxHeartbeats 2000000 in
theorem sumGoes_any (s t : ByteArray) (c : Nat) (hc : c < 4294967296) (hs : s.size ≤ maxLen) (ht : t.size ≤ maxLen) (hst : s.size ≤ 140737488351232) (htt : t.size ≤ 140737488351232) (w : World) : Calls Try.prog 5 #[.string s, .string t, .int .u32 c] w fun e w' => e = .returned (.bool true) ∧ Below w.heap.size w w' := by
  unfold maxLen at hs ht
  have hB := Below.refl w.heap.size w
  by_cases h1 : 4096 < s.size + t.size
  · have h1' : (4096 : Int) < (s.size : Int) + t.size := by omega
    go_enter Try.func5, Try.ntmps5
    go_wp2_with fail
    refine (alive_any _).mono ?_; rintro e w' ⟨rfl, hb⟩
    go_wp2
    go_ret
    exact ⟨rfl, hb⟩
  · have h1' : ¬ (4096 : Int) < (s.size : Int) + t.size := by omega
    have g1 := goes1
    have g2 := goes2
    have g3 := goes3 c hc
    have g4 := PSum.open_seal
    have g5 := openS_seal
    have hsz : (s ++ t).size = s.size + t.size := ByteArray.size_append
    go_enter Try.func5, Try.ntmps5
    go_wp2_with fail
    refine (of_any _ (by unfold maxLen; omega) _).mono ?_; rintro e w1 ⟨rfl, hb⟩; replace hB := hB.step hb; clear hb
    go_wp2_with fail
    refine (more_any _ (ofN_lt _) _ (by unfold maxLen; omega) _).mono ?_; rintro e w2 ⟨rfl, hb⟩; replace hB := hB.step hb; clear hb
    go_wp2_with fail
    refine (of_any _ (by unfold maxLen; omega) _).mono ?_; rintro e w3 ⟨rfl, hb⟩; replace hB := hB.step hb; clear hb
    go_wp2_with fail
    refine (more_any _ hc _ (by unfold maxLen; omega) _).mono ?_; rintro e w4 ⟨rfl, hb⟩; replace hB := hB.step hb; clear hb
    go_wp2_with fail
    refine (more_any _ (moreN_lt _ _) _ (by unfold maxLen; omega) _).mono ?_; rintro e w5 ⟨rfl, hb⟩; replace hB := hB.step hb; clear hb
    go_wp2_with fail
    refine (more_any _ hc _ (by unfold maxLen; omega) _).mono ?_; rintro e w6 ⟨rfl, hb⟩; replace hB := hB.step hb; clear hb
    go_wp2_with fail
    refine (more_any _ hc _ (by decide) _).mono ?_; rintro e w7 ⟨rfl, hb⟩; replace hB := hB.step hb; clear hb
    go_wp2_with fail
    refine (seal_any _ (by omega) _).mono ?_; rintro e w8 ⟨rfl, hb⟩; replace hB := hB.step hb; clear hb
    go_wp2_with fail
    refine (seal_any _ (by rw [size_mk, PSum.seal_length]; simp; omega) _).mono ?_; rintro e w9 ⟨rfl, hb⟩; replace hB := hB.step hb; clear hb
    go_wp2_with fail
    refine (open_any _ (by rw [size_mk, PSum.seal_length, PSum.seal_length]; simp; omega) _).mono ?_; rintro e w10 ⟨rfl, hb⟩; replace hB := hB.step hb; clear hb
    go_wp2_with fail
    refine (open_any _ (by rw [size_mk, PSum.seal_length]; simp; omega) _).mono ?_; rintro e w11 ⟨rfl, hb⟩; replace hB := hB.step hb; clear hb
    go_wp2_with fail
    refine (alive_any _).mono ?_; rintro e w12 ⟨rfl, hb⟩; replace hB := hB.step hb; clear hb
    go_wp2
    go_ret
    exact ⟨rfl, hB⟩
set_option maxRecDepth 100000 in
theorem sumGoes_lifted (os : Os) (started : os.Started) (H : Type) (enc : TypeId × Value → H) :
    ReturnsInHanded {} Try.checked os 5 .any (Rows.sumGoesSpec.pre6 enc Try.prog Try.f5 Rows.sumGoesRow.domain false) (Rows.sumGoesSpec.post enc Try.prog Try.f5 false true false false) := by
  refine returnsInHanded_of_change_sized (C := Try.checked) own started (by kernel_rfl) Try.func5
    (ChangeSpec.witness6 (enc := enc) (C := Try.checked) false ⟨#[], #[.string ByteArray.empty, .string ByteArray.empty, .int .u32 0], []⟩ 8 (by kernel_rfl) (by kernel_rfl) (by kernel_rfl) (by kernel_rfl)) ?_
  intro W base args ds gs before hval0 hW hcnd hsz0 _
  have hval : ∀ (j : Nat) t v, Try.f5.params[j]? = some t → args[j]? = some v → Value.okWide Try.prog W .any base t v := hval0
  have hsz : (DataW.weightsEach Try.prog (Try.f5.params.toList ++ Rows.sumGoesSpec.plain.varTypes Try.prog) (ds ++ gs)).all (· ≤ reachBytes) = true := hsz0
  have hW' := hW
  obtain ⟨p, q, hA0, hV, rfl, hfz, hnd⟩ := hW
  have hA : DataW.TrodAll enc Try.prog W 0 (fun _ => true) true Try.f5.params.toList args.toList ds p := hA0
  rw [Try.params5] at hA hval hsz
  obtain ⟨v0, vs0, d0, ds0, p0, q0, hargs, rfl, rfl, h0, r0⟩ := trodAll_cons hA
  obtain ⟨v1, vs1, d1, ds1, p1, q1, rfl, rfl, rfl, h1, r1⟩ := trodAll_cons r0
  obtain ⟨v2, vs2, d2, ds2, p2, q2, rfl, rfl, rfl, h2, r2⟩ := trodAll_cons r1
  obtain ⟨rfl, rfl, rfl⟩ := trodAll_nil r2
  obtain rfl : args = #[v0, v1, v2] := by cases args; simp_all
  obtain ⟨rfl, rfl⟩ := trodVars_none hV
  obtain ⟨a0, rfl, rfl, rfl, w0⟩ := open_string Try.underlying9 (hval 0 9 v0 rfl rfl) h0
  have z0 := size_reach (sized_string hsz (j := 0) (t := 9) rfl rfl)
  obtain ⟨a1, rfl, rfl, rfl, w1⟩ := open_string Try.underlying9 (hval 1 9 v1 rfl rfl) h1
  have z1 := size_reach (sized_string hsz (j := 1) (t := 9) rfl rfl)
  obtain ⟨c, rfl, rfl, rfl, w2⟩ := open_int Try.underlying22 (hval 2 22 v2 rfl rfl) h2
  have b2 := bounds_u32 w2
  obtain ⟨c, rfl⟩ := Int.eq_ofNat_of_zero_le b2.1
  clear hA0 hval0 hsz0
  simp only [List.append_nil] at hW'
  refine (sumGoes_any a0 a1 c (by omega) w0 w1 z0 z1 W).mono fun e W' ⟨he, hb⟩ => ?_
  subst he
  exact ⟨_, rfl, law_post 4 Try.underlying4 (of_decide_eq_true (by kernel_rfl)) rfl rfl hW' rfl hb⟩
/-- THE STATEMENT. -/
theorem sumGoes_holds : Rows.SumGoesSaid :=
  OpenClaim.holds_of_wide 5 Try.f5 rfl rfl rfl rfl rfl rfl rfl ⟨rfl, rfl, rfl, rfl, rfl⟩ rfl rfl rfl rfl rfl (by kernel_rfl) Try.func5 (by kernel_rfl)
    (of_decide_eq_true (by kernel_rfl)) (by unfold Func.isWrapper; first | (rw [if_pos (by decide +kernel)]; kernel_rfl) | (rw [if_neg (by decide +kernel)]; exact ⟨rfl, rfl⟩))
    (fun os started H enc _ => sumGoes_lifted os started H enc)
/-! ### bits turned -/
theorem bytes_at (l : List UInt8) (j : Nat) (hj : j < l.length) : l.getD j 0 = l[j] := by simp [List.getD, hj]
/-- The world of a loop that writes into a slice of bytes. -/
theorem bitX (b : UInt8) (j : Nat) : bits BinOp.xor IntKind.u8 (b.toNat : Int) ((2 ^ j % 256 : Nat) : Int) = ((b ^^^ PSum.bit j).toNat : Int) := by
  have h := u8_xor_nat b.toNat (2 ^ j % 256) b.toNat_lt (Nat.mod_lt _ (by decide))
  rw [h, UInt8.toNat_xor]
  congr 2
theorem bitX' (b : UInt8) (j : Nat) : bits BinOp.xor IntKind.u8 (b.toNat : Int) ((2 : Int) ^ j % 256) = ((b ^^^ PSum.bit j).toNat : Int) := by
  rw [← bitX]
  congr 1
theorem turned_yes (l : List UInt8) (k i : Nat) (x : PSum.W) (h : x.getLsbD i = true) : PSum.turned l k x (i + 1) = PSum.flip (PSum.turned l k x i) (k + i) := by simp [PSum.turned, h]
theorem turned_no (l : List UInt8) (k i : Nat) (x : PSum.W) (h : ¬ x.getLsbD i = true) : PSum.turned l k x (i + 1) = PSum.turned l k x i := by simp [PSum.turned, h]
theorem turn_bit (x i : Nat) (hx : x < 4294967296) : (x / 2 ^ i % 2 = 1) ↔ (BitVec.ofNat 32 x).getLsbD i = true := by
  rw [BitVec.getLsbD_ofNat, Nat.testBit_eq_decide_div_mod_eq]
  by_cases h : i < 32
  · simp [h]
  · have h2 : 2 ^ 32 ≤ 2 ^ i := Nat.pow_le_pow_right (by decide) (by omega)
    have : x / 2 ^ i = 0 := Nat.div_eq_of_lt (by omega)
    simp [h, this]
set_option maxRecDepth 100000 in
set_option maxHeartbeats 2000000 in
theorem sumTurned_any (s : ByteArray) (pos x : Nat) (hp : pos < 65536) (hx : x < 4294967296) (hs : s.size ≤ maxLen) (w : World) : Calls Try.prog 4 #[.string s, .int .u16 pos, .int .u32 x] w fun e w' => e = .returned (.bool true) ∧ Below w.heap.size w w' := by
  unfold maxLen at hs
  have hB := Below.refl w.heap.size w
  by_cases h1 : 4096 < s.size
  · have h1' : (4096 : Int) < s.size := by omega
    go_enter Try.func4, Try.ntmps4
    go_wp2_with fail
    refine (alive_any _).mono ?_; rintro e w' ⟨rfl, hb⟩
    go_wp2
    go_ret
    exact ⟨rfl, hb⟩
  · have h1' : ¬ (4096 : Int) < s.size := by omega
    have g4 := PSum.open_seal s.data.toList
    have g5 := openS_seal s.data.toList
    have g6 := PSum.seal_length s.data.toList
    go_enter Try.func4, Try.ntmps4
    go_wp2_with fail
    refine (seal_any _ (by omega) _).mono ?_; rintro e w1 ⟨rfl, hb⟩; replace hB := hB.step hb; clear hb
    go_wp2_with fail
    refine (open_any _ (by rw [size_mk, PSum.seal_length]; simp; omega) _).mono ?_; rintro e w2 ⟨rfl, hb⟩; replace hB := hB.step hb; clear hb
    obtain ⟨k, hk, hkl⟩ : ∃ k : Nat, ((pos : Int) % (8 * ((s.size : Int) + 4) - 31)) = (k : Int) ∧ k + 32 ≤ 8 * (s.size + 4) := by
      refine ⟨((pos : Int) % (8 * ((s.size : Int) + 4) - 31)).toNat, ?_, ?_⟩
      · have := Int.emod_nonneg (pos : Int) (show (8 * ((s.size : Int) + 4) - 31) ≠ 0 by omega)
        omega
      · have := Int.emod_lt_of_pos (pos : Int) (show 0 < (8 * ((s.size : Int) + 4) - 31) by omega)
        omega
    have hlen : (PSum.sealL s.data.toList).length = s.size + 4 := by rw [PSum.seal_length]; simp
    have hS0 := Sl.of_string w2 w.heap.size hB.size ⟨(PSum.sealL s.data.toList).toArray⟩ 5 (by rw [size_mk, hlen]; unfold maxLen; omega) _ rfl
    rw [size_mk, hlen] at hS0
    have hS0' := Lib.hid hS0
    have hlen' := Lib.hid hlen
    clear hS0 hlen
    have hk' := Lib.hid hk
    clear hk
    go_wp2_with fail
    generalize grownCap w2 (s.size + 4) 0 5 = cp at *
    rw [hk'.out]
    clear hk'
    go_loopw [12] (fun iv wr => ∃ i : Nat, i ≤ 32 ∧ iv = .int .i64 i ∧ Sl wr w.heap.size 5 1 (.slice (some ⟨w2.heap.size, 0, none⟩) (s.size + 4) cp) (s.size + 4) (bytesV (PSum.turned (PSum.sealL s.data.toList) k (BitVec.ofNat 32 x) i)) ∧ Below w.heap.size w wr) (fun iv _ => 32 - (intOf iv).toNat)
    case atStart => exact ⟨0, by omega, rfl, hS0'.out, (hB.alloc hB.size _).drew⟩
    case round =>
      obtain ⟨i, hi, rfl, hS, hBr⟩ := hrel
      have hB2 := Lib.hid hB.size
      clear g4 g5 g6 hB hS0'
      by_cases hlt : i < 32
      · have hil : (i : Int) < 32 := by omega
        have hrt := PSum.turned_length (PSum.sealL s.data.toList) k (BitVec.ofNat 32 x) i
        rw [hlen'.out] at hrt
        have hj : (k + i) / 8 < s.size + 4 := by omega
        have hcell := hS.byte hj
        have hfro := hS.unshut (j := (k + i) / 8) (by omega)
        rw [Nat.zero_add] at hcell hfro
        have hset := fun u => Lib.hid (hS.set (j := (k + i) / 8) (by omega) u)
        have hS' := Lib.hid hS
        clear hrt hS
        generalize hT : PSum.turned (PSum.sealL s.data.toList) k (BitVec.ofNat 32 x) i = T at *
        generalize hbb : T.getD ((k + i) / 8) 0 = b at *
        have hT' := Lib.hid hT
        have hbb' := Lib.hid hbb
        clear hT hbb
        by_cases hbit : x / 2 ^ i % 2 = 1
        · have htest : (((x : Int) / 2 ^ i).tmod 2 == 1) = true := by
            have : ((x : Int) / 2 ^ i).tmod 2 = ((x / 2 ^ i % 2 : Nat) : Int) := by
              rw [show (x : Int) / 2 ^ i = ((x / 2 ^ i : Nat) : Int) by push_cast; rfl]
              rfl
            rw [this, hbit]; rfl
          have hbit' := Lib.hid hbit
          clear hbit
          go_wp2
          refine ⟨⟨i + 1, by omega, by go_num, ?_, hBr.setCell hB2.out _⟩, by simp [intOf]; omega⟩
          rw [bitX', turned_yes _ _ _ _ ((turn_bit x i hx).1 hbit'.out), hT'.out]
          have h := (hset (.int .u8 ((b ^^^ PSum.bit ((k + i) % 8)).toNat : Int))).out
          rw [bytesV_set, Nat.zero_add] at h
          unfold PSum.flip
          rw [hbb'.out]
          exact h
        · have htest : (((x : Int) / 2 ^ i).tmod 2 == 1) = false := by
            have : ((x : Int) / 2 ^ i).tmod 2 = ((x / 2 ^ i % 2 : Nat) : Int) := by
              rw [show (x : Int) / 2 ^ i = ((x / 2 ^ i : Nat) : Int) by push_cast; rfl]
              rfl
            rw [this, beq_eq_false_iff_ne]
            omega
          have hbit' := Lib.hid hbit
          clear hbit
          go_wp2
          refine ⟨⟨i + 1, by omega, by go_num, ?_, hBr⟩, by simp [intOf]; omega⟩
          rw [turned_no _ _ _ _ (fun h => hbit'.out ((turn_bit x i hx).2 h)), hT'.out]
          exact hS'.out
      · have hi32 : i = 32 := by omega
        clear hlt hi
        subst hi32
        have hcv := conv_sl hS
        have hlT := PSum.turned_length (PSum.sealL s.data.toList) k (BitVec.ofNat 32 x) 32
        rw [hlen'.out] at hlT
        have hop := PSum.open_turned s.data.toList k (BitVec.ofNat 32 x) (by rw [hlen'.out]; exact hkl)
        generalize PSum.turned (PSum.sealL s.data.toList) k (BitVec.ofNat 32 x) 32 = T at *
        have hz : (BitVec.ofNat 32 x = 0) ↔ x = 0 := by
          constructor
          · intro h
            have := congrArg BitVec.toNat h
            rw [BitVec.toNat_ofNat] at this
            simp at this
            omega
          · rintro rfl; rfl
        have hfin : Hid (PSum.openOk T = decide (x = 0)) := by
          unfold Hid
          rw [hop]; congr 1; exact propext hz
        clear hop hz hS
        go_wp2_with fail
        refine (open_any _ (by rw [size_mk, hlT]; omega) _).mono ?_; rintro e w3 ⟨rfl, hb⟩; replace hBr := hBr.step hb; clear hb
        by_cases hx0 : x = 0
        · have hok : PSum.openOk T = true := by rw [hfin.out, decide_eq_true hx0]
          have hxe : ((x : Int) == 0) = true := by rw [hx0]; rfl
          have hxe' := Lib.hid hx0
          clear hx0
          go_wp2_with fail
          refine (alive_any _).mono ?_; rintro e w4 ⟨rfl, hb⟩; replace hBr := hBr.step hb; clear hb
          go_wp2
          go_ret
          exact ⟨rfl, hBr⟩
        · have hok : PSum.openOk T = false := by rw [hfin.out, decide_eq_false hx0]
          have hxe : ((x : Int) == 0) = false := by rw [beq_eq_false_iff_ne]; omega
          have hxe' := Lib.hid hx0
          clear hx0
          go_wp2_with fail
          refine (alive_any _).mono ?_; rintro e w4 ⟨rfl, hb⟩; replace hBr := hBr.step hb; clear hb
          go_wp2
          go_ret
          exact ⟨rfl, hBr⟩
set_option maxRecDepth 100000 in
theorem sumTurned_lifted (os : Os) (started : os.Started) (H : Type) (enc : TypeId × Value → H) :
    ReturnsInHanded {} Try.checked os 4 .any (Rows.sumTurnedSpec.pre6 enc Try.prog Try.f4 Rows.sumTurnedRow.domain false) (Rows.sumTurnedSpec.post enc Try.prog Try.f4 false true false false) := by
  refine returnsInHanded_of_change_sized (C := Try.checked) own started (by kernel_rfl) Try.func4
    (ChangeSpec.witness6 (enc := enc) (C := Try.checked) false ⟨#[], #[.string ByteArray.empty, .int .u16 0, .int .u32 0], []⟩ 8 (by kernel_rfl) (by kernel_rfl) (by kernel_rfl) (by kernel_rfl)) ?_
  intro W base args ds gs before hval0 hW hcnd hsz0 _
  have hval : ∀ (j : Nat) t v, Try.f4.params[j]? = some t → args[j]? = some v → Value.okWide Try.prog W .any base t v := hval0
  have hsz : (DataW.weightsEach Try.prog (Try.f4.params.toList ++ Rows.sumTurnedSpec.plain.varTypes Try.prog) (ds ++ gs)).all (· ≤ reachBytes) = true := hsz0
  have hW' := hW
  obtain ⟨p, q, hA0, hV, rfl, hfz, hnd⟩ := hW
  have hA : DataW.TrodAll enc Try.prog W 0 (fun _ => true) true Try.f4.params.toList args.toList ds p := hA0
  rw [Try.params4] at hA hval hsz
  obtain ⟨v0, vs0, d0, ds0, p0, q0, hargs, rfl, rfl, h0, r0⟩ := trodAll_cons hA
  obtain ⟨v1, vs1, d1, ds1, p1, q1, rfl, rfl, rfl, h1, r1⟩ := trodAll_cons r0
  obtain ⟨v2, vs2, d2, ds2, p2, q2, rfl, rfl, rfl, h2, r2⟩ := trodAll_cons r1
  obtain ⟨rfl, rfl, rfl⟩ := trodAll_nil r2
  obtain rfl : args = #[v0, v1, v2] := by cases args; simp_all
  obtain ⟨rfl, rfl⟩ := trodVars_none hV
  obtain ⟨a0, rfl, rfl, rfl, w0⟩ := open_string Try.underlying9 (hval 0 9 v0 rfl rfl) h0
  have z0 := size_reach (sized_string hsz (j := 0) (t := 9) rfl rfl)
  obtain ⟨pos, rfl, rfl, rfl, w1⟩ := open_int Try.underlying30 (hval 1 30 v1 rfl rfl) h1
  have b1 := bounds_u16 w1
  obtain ⟨pos, rfl⟩ := Int.eq_ofNat_of_zero_le b1.1
  obtain ⟨c, rfl, rfl, rfl, w2⟩ := open_int Try.underlying22 (hval 2 22 v2 rfl rfl) h2
  have b2 := bounds_u32 w2
  obtain ⟨c, rfl⟩ := Int.eq_ofNat_of_zero_le b2.1
  clear hA0 hval0 hsz0
  simp only [List.append_nil] at hW'
  refine (sumTurned_any a0 pos c (by omega) (by omega) w0 W).mono fun e W' ⟨he, hb⟩ => ?_
  subst he
  exact ⟨_, rfl, law_post 4 Try.underlying4 (of_decide_eq_true (by kernel_rfl)) rfl rfl hW' rfl hb⟩
/-- THE STATEMENT. -/
theorem sumTurned_holds : Rows.SumTurnedSaid :=
  OpenClaim.holds_of_wide 4 Try.f4 rfl rfl rfl rfl rfl rfl rfl ⟨rfl, rfl, rfl, rfl, rfl⟩ rfl rfl rfl rfl rfl (by kernel_rfl) Try.func4 (by kernel_rfl)
    (of_decide_eq_true (by kernel_rfl)) (by unfold Func.isWrapper; first | (rw [if_pos (by decide +kernel)]; kernel_rfl) | (rw [if_neg (by decide +kernel)]; exact ⟨rfl, rfl⟩))
    (fun os started H enc _ => sumTurned_lifted os started H enc)
/-! ### exclusive ors -/
def xor3 (a b c : List UInt8) (n i : Nat) : List UInt8 := PSum.xors (PSum.xors (a.take i) (b.take i)) (c.take i) ++ List.replicate (n - i) 0
theorem xor_byte (a b : UInt8) : bits BinOp.xor IntKind.u8 (a.toNat : Int) (b.toNat : Int) = ((a ^^^ b).toNat : Int) := by
  rw [u8_xor_nat _ _ a.toNat_lt b.toNat_lt, UInt8.toNat_xor]
theorem xor_byte2 (a b c : UInt8) : bits BinOp.xor IntKind.u8 ((a.toNat ^^^ b.toNat : Nat) : Int) (c.toNat : Int) = ((a ^^^ b ^^^ c).toNat : Int) := by
  rw [← xor_byte, UInt8.toNat_xor]
theorem xors_snoc (l m : List UInt8) (a b : UInt8) (h : l.length = m.length) : PSum.xors (l ++ [a]) (m ++ [b]) = PSum.xors l m ++ [a ^^^ b] := by
  unfold PSum.xors; rw [List.zipWith_append h]; rfl
theorem xors_length (l m : List UInt8) (h : l.length = m.length) : (PSum.xors l m).length = l.length := by unfold PSum.xors; simp [h]
theorem xor3_step (s t u : ByteArray) (n i : Nat) (h1 : n ≤ s.size) (h2 : n ≤ t.size) (h3 : n ≤ u.size) (hi : i < n) :
    (xor3 s.data.toList t.data.toList u.data.toList n i).set i (s[i] ^^^ t[i] ^^^ u[i]) = xor3 s.data.toList t.data.toList u.data.toList n (i + 1) := by
  have ls : s.data.toList.length = s.size := by simp
  have lt : t.data.toList.length = t.size := by simp
  have lu : u.data.toList.length = u.size := by simp
  unfold xor3
  rw [take_snoc s i (by omega), take_snoc t i (by omega), take_snoc u i (by omega)]
  have l1 : (s.data.toList.take i).length = (t.data.toList.take i).length := by rw [List.length_take, List.length_take]; omega
  have l2 : (PSum.xors (s.data.toList.take i) (t.data.toList.take i)).length = (u.data.toList.take i).length := by rw [xors_length _ _ l1, List.length_take, List.length_take]; omega
  rw [xors_snoc _ _ _ _ l1, xors_snoc _ _ _ _ l2]
  have l3 : (PSum.xors (PSum.xors (s.data.toList.take i) (t.data.toList.take i)) (u.data.toList.take i)).length = i := by rw [xors_length _ _ l2, l2, List.length_take]; omega
  generalize PSum.xors (PSum.xors (s.data.toList.take i) (t.data.toList.take i)) (u.data.toList.take i) = L at *
  rw [List.set_append_right _ _ (by omega), l3, Nat.sub_self]
  rw [show n - i = (n - (i + 1)) + 1 by omega, List.replicate_succ, List.set_cons_zero, List.append_assoc]
  rfl
theorem xor3_length (s t u : ByteArray) (n : Nat) (h1 : n ≤ s.size) (h2 : n ≤ t.size) (h3 : n ≤ u.size) : (xor3 s.data.toList t.data.toList u.data.toList n n).length = n := by
  have ls : s.data.toList.length = s.size := by simp
  have lt : t.data.toList.length = t.size := by simp
  have lu : u.data.toList.length = u.size := by simp
  unfold xor3
  have l1 : (s.data.toList.take n).length = (t.data.toList.take n).length := by rw [List.length_take, List.length_take]; omega
  have l2 : (PSum.xors (s.data.toList.take n) (t.data.toList.take n)).length = (u.data.toList.take n).length := by rw [xors_length _ _ l1, List.length_take, List.length_take]; omega
  rw [List.length_append, xors_length _ _ l2, l2, List.length_take, List.length_replicate]; omega
theorem xor3_full (s t u : ByteArray) (n : Nat) (h1 : n ≤ s.size) (h2 : n ≤ t.size) (h3 : n ≤ u.size) :
    ofN (xor3 s.data.toList t.data.toList u.data.toList n n) = ofN (s.data.toList.take n) ^^^ ofN (t.data.toList.take n) ^^^ ofN (u.data.toList.take n) := by
  have ls : s.data.toList.length = s.size := by simp
  have lt : t.data.toList.length = t.size := by simp
  have lu : u.data.toList.length = u.size := by simp
  have e : ∀ l, ofN l = (PSum.of l).toNat := fun l => rfl
  unfold xor3
  rw [Nat.sub_self, List.replicate_zero, List.append_nil, e, e, e, e, PSum.of_xor3 _ _ _ (by rw [List.length_take, List.length_take]; omega) (by rw [List.length_take, List.length_take]; omega)]
  rw [BitVec.toNat_xor, BitVec.toNat_xor]
set_option maxRecDepth 100000 in
set_option maxHeartbeats 2000000 in
theorem sumParts_any (s t u : ByteArray) (hs : s.size ≤ maxLen) (ht : t.size ≤ maxLen) (hu : u.size ≤ maxLen) (w : World) : Calls Try.prog 6 #[.string s, .string t, .string u] w fun e w' => e = .returned (.bool true) ∧ Below w.heap.size w w' := by
  unfold maxLen at hs ht hu
  have hB := Below.refl w.heap.size w
  obtain ⟨n, hmin0, h1, h2, h3⟩ : ∃ n : Nat, (if (u.size : Int) < (if (t.size : Int) < s.size then (t.size : Int) else s.size) then (u.size : Int) else (if (t.size : Int) < s.size then (t.size : Int) else s.size)) = (n : Int) ∧ n ≤ s.size ∧ n ≤ t.size ∧ n ≤ u.size := by
    refine ⟨min (min s.size t.size) u.size, ?_, by omega, by omega, by omega⟩
    split <;> split <;> omega
  have hmin : ∀ w, (Builtin.min_ #[3, 3, 3] 3 #[.int .i64 s.size, .int .i64 t.size, .int .i64 u.size]).run Try.prog w = .ok (.int .i64 n) w := by
    intro w; rw [← hmin0]; simp [Builtin.min_, Builtin.min2]
  clear hmin0
  by_cases hn : 4096 < n
  · have hn' : (4096 : Int) < n := by omega
    go_enter Try.func6, Try.ntmps6
    go_wp2_with fail
    refine (alive_any _).mono ?_; rintro e w' ⟨rfl, hb⟩
    go_wp2
    go_ret
    exact ⟨rfl, hb⟩
  · have hn' : ¬ (4096 : Int) < n := by omega
    have hmk := make_bytes n (by omega)
    go_enter Try.func6, Try.ntmps6
    go_wp2_with fail
    clear hmk hmin
    have hS0 := Sl.of_made w w.heap.size (Nat.le_refl _) 5 n (by unfold maxLen; omega)
    go_loopw [9] (fun iv wr => ∃ i : Nat, i ≤ n ∧ iv = .int .i64 i ∧ Sl wr w.heap.size 5 1 (.slice (some ⟨w.heap.size, 0, none⟩) n n) n (bytesV (xor3 s.data.toList t.data.toList u.data.toList n i)) ∧ Below w.heap.size w wr) (fun iv _ => n - (intOf iv).toNat)
    case atStart => exact ⟨0, by omega, rfl, by simpa [xor3, PSum.xors] using hS0, hB.alloc hB.size _⟩
    case round =>
      obtain ⟨i, hi, rfl, hS, hBr⟩ := hrel
      clear hB hS0
      by_cases hlt : i < n
      · have hcell := hS.byte hlt
        have hfro := hS.unshut (j := i) (by omega)
        rw [Nat.zero_add] at hcell hfro
        have hset := fun v => Lib.hid (hS.set (j := i) (by omega) v)
        have hx1 := xor_byte s[i] t[i]
        have hx2 := xor_byte (s[i] ^^^ t[i]) u[i]
        have hstep := Lib.hid (xor3_step s t u n i h1 h2 h3 hlt)
        clear hS
        generalize xor3 s.data.toList t.data.toList u.data.toList n i = L at *
        generalize L.getD i 0 = b at *
        have hi1 : i < s.size := by omega
        have hi2 : i < t.size := by omega
        have hi3 : i < u.size := by omega
        go_wp2
        go_region
        all_goals
          go_wp2
          refine ⟨⟨i + 1, by omega, by go_num, ?_, ?_⟩, by simp [intOf]; omega⟩
          · have h := (hset (.int .u8 ((s[i] ^^^ t[i] ^^^ u[i]).toNat : Int))).out
            rw [bytesV_set, hstep.out, Nat.zero_add] at h
            rw [xor_byte2]
            exact h
          · exact (hBr.setCell (Nat.le_refl _) _).drew
      · have hin : i = n := by omega
        clear hlt hi
        subst hin
        have hcv := conv_sl hS
        have ls : s.data.toList.length = s.size := by simp
        have lt : t.data.toList.length = t.size := by simp
        have lu : u.data.toList.length = u.size := by simp
        have hx3 := xor3_full s t u i h1 h2 h3
        have hL := xor3_length s t u i h1 h2 h3
        clear ls lt lu
        generalize xor3 s.data.toList t.data.toList u.data.toList i i = L at *
        have hcv2 : (convert 31 9 (.slice (some ⟨w.heap.size, 0, none⟩) i i)).run Try.prog wr.drew = .ok (.string ⟨L.toArray⟩) wr.drew := conv_sl hS.drew
        have eS := List.take_of_length_le (l := s.data.toList) (i := s.size)
        have szL : (⟨L.toArray⟩ : ByteArray).size ≤ maxLen := by rw [size_mk, hL]; unfold maxLen; omega
        have szE : ∀ a : ByteArray, a.size ≤ 2 ^ 63 - 1 → (a.extract 0 i).size ≤ maxLen := by
          intro a ha; rw [ByteArray.size_extract]; unfold maxLen; omega
        have szS := Lib.hid (szE s hs)
        have szT := Lib.hid (szE t ht)
        have szU := Lib.hid (szE u hu)
        have szL' := Lib.hid szL
        have hA := u32_xor_nat _ _ (ofN_lt (s.data.toList.take i)) (ofN_lt (t.data.toList.take i))
        have hAB : ofN (s.data.toList.take i) ^^^ ofN (t.data.toList.take i) < 4294967296 := Nat.xor_lt_two_pow (n := 32) (ofN_lt _) (ofN_lt _)
        have hC := u32_xor_nat _ _ hAB (ofN_lt (u.data.toList.take i))
        clear szE szL eS hS hcv hAB hL hs ht hu
        have hBr' := hBr.drew
        clear hBr
        go_wp2
        go_region_with (first
          | (go_at_call 10; refine (of_any _ ?_ _).mono ?_; (first | exact szL'.out | exact szS.out | exact szT.out | exact szU.out); rintro e w' ⟨rfl, hb⟩; replace hBr' := hBr'.step hb; clear hb)
          | (go_at_call 7; refine (alive_any _).mono ?_; rintro e w' ⟨rfl, hb⟩; replace hBr' := hBr'.step hb; clear hb))
        go_wp2
        go_ret
        exact ⟨rfl, hBr'⟩
set_option maxRecDepth 100000 in
theorem sumParts_lifted (os : Os) (started : os.Started) (H : Type) (enc : TypeId × Value → H) :
    ReturnsInHanded {} Try.checked os 6 .any (Rows.sumPartsSpec.pre6 enc Try.prog Try.f6 Rows.sumPartsRow.domain false) (Rows.sumPartsSpec.post enc Try.prog Try.f6 false true false false) := by
  refine returnsInHanded_of_change_sized (C := Try.checked) own started (by kernel_rfl) Try.func6
    (ChangeSpec.witness6 (enc := enc) (C := Try.checked) false ⟨#[], #[.string ByteArray.empty, .string ByteArray.empty, .string ByteArray.empty], []⟩ 8 (by kernel_rfl) (by kernel_rfl) (by kernel_rfl) (by kernel_rfl)) ?_
  intro W base args ds gs before hval0 hW hcnd hsz0 _
  have hval : ∀ (j : Nat) t v, Try.f6.params[j]? = some t → args[j]? = some v → Value.okWide Try.prog W .any base t v := hval0
  have hsz : (DataW.weightsEach Try.prog (Try.f6.params.toList ++ Rows.sumPartsSpec.plain.varTypes Try.prog) (ds ++ gs)).all (· ≤ reachBytes) = true := hsz0
  have hW' := hW
  obtain ⟨p, q, hA0, hV, rfl, hfz, hnd⟩ := hW
  have hA : DataW.TrodAll enc Try.prog W 0 (fun _ => true) true Try.f6.params.toList args.toList ds p := hA0
  rw [Try.params6] at hA hval hsz
  obtain ⟨v0, vs0, d0, ds0, p0, q0, hargs, rfl, rfl, h0, r0⟩ := trodAll_cons hA
  obtain ⟨v1, vs1, d1, ds1, p1, q1, rfl, rfl, rfl, h1, r1⟩ := trodAll_cons r0
  obtain ⟨v2, vs2, d2, ds2, p2, q2, rfl, rfl, rfl, h2, r2⟩ := trodAll_cons r1
  obtain ⟨rfl, rfl, rfl⟩ := trodAll_nil r2
  obtain rfl : args = #[v0, v1, v2] := by cases args; simp_all
  obtain ⟨rfl, rfl⟩ := trodVars_none hV
  obtain ⟨a0, rfl, rfl, rfl, w0⟩ := open_string Try.underlying9 (hval 0 9 v0 rfl rfl) h0
  have z0 := size_reach (sized_string hsz (j := 0) (t := 9) rfl rfl)
  obtain ⟨a1, rfl, rfl, rfl, w1⟩ := open_string Try.underlying9 (hval 1 9 v1 rfl rfl) h1
  have z1 := size_reach (sized_string hsz (j := 1) (t := 9) rfl rfl)
  obtain ⟨a2, rfl, rfl, rfl, w2⟩ := open_string Try.underlying9 (hval 2 9 v2 rfl rfl) h2
  have z2 := size_reach (sized_string hsz (j := 2) (t := 9) rfl rfl)
  clear hA0 hval0 hsz0
  simp only [List.append_nil] at hW'
  refine (sumParts_any a0 a1 a2 w0 w1 w2 W).mono fun e W' ⟨he, hb⟩ => ?_
  subst he
  exact ⟨_, rfl, law_post 4 Try.underlying4 (of_decide_eq_true (by kernel_rfl)) rfl rfl hW' rfl hb⟩
/-- THE STATEMENT. -/
theorem sumParts_holds : Rows.SumPartsSaid :=
  OpenClaim.holds_of_wide 6 Try.f6 rfl rfl rfl rfl rfl rfl rfl ⟨rfl, rfl, rfl, rfl, rfl⟩ rfl rfl rfl rfl rfl (by kernel_rfl) Try.func6 (by kernel_rfl)
    (of_decide_eq_true (by kernel_rfl)) (by unfold Func.isWrapper; first | (rw [if_pos (by decide +kernel)]; kernel_rfl) | (rw [if_neg (by decide +kernel)]; exact ⟨rfl, rfl⟩))
    (fun os started H enc _ => sumParts_lifted os started H enc)
end Go.Proofs.Ytdlcmgdbmcokpaa
