/-
  FrameTurned returns true, whatever its arguments.
-/
import Derived.Test.YtfejjjbcloiddaaLaw10
import Derived.Test.YtfejjjbcloiddaaPTurn
namespace Go.Proofs.Ytfejjjbcloiddaa
open Go.ChangeShapes Go.WideShapes Go.ChangeAt Go.RowKit
open Go.ChangeMaps (open_string shut_string)
theorem bitX (b : UInt8) (j : Nat) : bits BinOp.xor IntKind.u8 (b.toNat : Int) ((2 ^ j % 256 : Nat) : Int) = ((b ^^^ PSum.bit j).toNat : Int) := by
  have h := u8_xor_nat b.toNat (2 ^ j % 256) b.toNat_lt (Nat.mod_lt _ (by decide))
  rw [h, UInt8.toNat_xor]
  congr 2
theorem bitX' (b : UInt8) (j : Nat) : bits BinOp.xor IntKind.u8 (b.toNat : Int) ((2 : Int) ^ j % 256) = ((b ^^^ PSum.bit j).toNat : Int) := by
  rw [← bitX]
  congr 1
theorem turned_yes (l : List UInt8) (k i : Nat) (x : PSum.W) (h : x.getLsbD i = true) : PSum.turned l k x (i + 1) = PSum.flip (PSum.turned l k x i) (k + i) := by simp [PSum.turned, h]
theorem turned_no (l : List UInt8) (k i : Nat) (x : PSum.W) (h : ¬ x.getLsbD i = true) : PSum.turned l k x (i + 1) = PSum.turned l k x i := by simp [PSum.turned, h]
theorem turn_bit (x i : Nat) (hx : x < 4294967296) : (x / 2 ^ i % 2 = 1) ↔ (BitVec.ofNat 32 x).getLsbD i = true := by
  rw [BitVec.getLsbD_ofNat, Nat.testBit_eq_decide_div_mod_eq]
  by_cases h : i < 32
  · simp [h]
  · have h2 : 2 ^ 32 ≤ 2 ^ i := Nat.pow_le_pow_right (by decide) (by omega)
    have : x / 2 ^ i = 0 := Nat.div_eq_of_lt (by omega)
    simp [h, this]
theorem test_bit (x i : Nat) (hx : x < 4294967296) : bits BinOp.and IntKind.u32 ((x : Int) / 2 ^ i) 1 = ((x / 2 ^ i % 2 : Nat) : Int) := by
  have h := u32_and_nat (x / 2 ^ i) 1 (Nat.lt_of_le_of_lt (Nat.div_le_self _ _) hx) (by decide)
  rw [Nat.and_one_is_mod] at h
  rw [show (x : Int) / 2 ^ i = ((x / 2 ^ i : Nat) : Int) by push_cast; rfl]
  exact h
theorem mod_yes (x i : Nat) (h : x / 2 ^ i % 2 = 1) : decide (x % 2 ^ (i + 1) ≠ 0) = true := by
  rw [Nat.mod_pow_succ, h]
  have := Nat.two_pow_pos i
  exact decide_eq_true (by omega)
theorem mod_no (x i : Nat) (h : ¬ x / 2 ^ i % 2 = 1) : decide (x % 2 ^ (i + 1) ≠ 0) = decide (x % 2 ^ i ≠ 0) := by
  rw [Nat.mod_pow_succ, show x / 2 ^ i % 2 = 0 by omega, Nat.mul_zero, Nat.add_zero]
set_option maxRecDepth 100000 in
set_option maxHeartbeats 20000000 in
theorem frameTurned_any (lsn : Nat) (s : ByteArray) (x pos hd : Nat) (hl : lsn < 18446744073709551616) (hx : x < 4294967296) (hp : pos < 65536) (hh : hd < 65536) (hs : s.size ≤ maxLen) (w : World) : Calls Try.prog 4 #[.int .u64 lsn, .string s, .int .u32 x, .int .u16 pos, .int .u16 hd] w fun e w' => e = .returned (.bool true) ∧ Below w.heap.size w w' := by
  have hs' := Lib.hid hs
  unfold maxLen at hs
  have hB := Below.refl w.heap.size w
  by_cases h1 : 1024 < s.size
  · have h1' : (1024 : Int) < s.size := by omega
    go_enter Try.func4, Try.ntmps4
    go_wp2_with fail
    refine (works10_any _).mono ?_; rintro e w' ⟨rfl, hb⟩
    go_wp2
    go_ret
    exact ⟨rfl, hb⟩
  have h1' : ¬ (1024 : Int) < s.size := by omega
  by_cases h2 : s = ByteArray.empty
  · subst h2
    go_enter Try.func4, Try.ntmps4
    go_wp2_with fail
    refine (works10_any _).mono ?_; rintro e w' ⟨rfl, hb⟩
    go_wp2
    go_ret
    exact ⟨rfl, hb⟩
  have hs0 : 1 ≤ s.size := by
    rcases Nat.eq_zero_or_pos s.size with h | h
    · exact absurd (ByteArray.size_eq_zero_iff.1 h) h2
    · exact h
  have h2' : s.toList.isEmpty = false := by
    rw [bytes_eq, List.isEmpty_eq_false_iff]
    intro h
    have := congrArg List.length h
    rw [list_size, List.length_nil] at this
    omega
  by_cases h3 : lsn = 0
  · subst h3
    go_enter Try.func4, Try.ntmps4
    go_wp2_with fail
    refine (works10_any _).mono ?_; rintro e w' ⟨rfl, hb⟩
    go_wp2
    go_ret
    exact ⟨rfl, hb⟩
  have h3' : ((lsn : Int) == 0) = false := by rw [beq_eq_false_iff_ne]; omega
  have hm : PFrm.may lsn s.data.toList = true := (PFrm.may_iff _ _).2 ⟨by rw [list_size]; omega, by rw [list_size]; omega, h3⟩
  have he := Lib.hid (enc_may _ _ hm)
  have hfl : (PFrm.frame lsn s.data.toList).length = s.size + 14 := by rw [PFrm.frame_length, list_size]
  go_enter Try.func4, Try.ntmps4
  go_wp2_with fail
  refine (encode_any lsn s hl hs'.out _).mono ?_; rintro e w1 ⟨rfl, hb⟩; replace hB := hB.step hb; clear hb
  rw [he.out]
  obtain ⟨k, hk, hkl⟩ : ∃ k : Nat, ((pos : Int) % (8 * (s.size : Int))) = (k : Int) ∧ k < 8 * s.size := by
    refine ⟨((pos : Int) % (8 * (s.size : Int))).toNat, ?_, ?_⟩
    · have := Int.emod_nonneg (pos : Int) (show (8 * (s.size : Int)) ≠ 0 by omega)
      omega
    · have := Int.emod_lt_of_pos (pos : Int) (show 0 < (8 * (s.size : Int)) by omega)
      omega
  have hS0 := Sl.of_string w1 w.heap.size hB.size ⟨(PFrm.frame lsn s.data.toList).toArray⟩ 5 (by rw [size_mk, hfl]; unfold maxLen; omega) _ rfl
  rw [size_mk, hfl] at hS0
  have hS0' := Lib.hid hS0
  have hk' := Lib.hid hk
  clear hS0 hk
  go_wp2_with fail
  generalize grownCap w1 (s.size + 14) 0 5 = cp at *
  rw [hk'.out]
  clear hk'
  go_loopw [15, 16] (fun sv iv wr => ∃ i : Nat, i ≤ 32 ∧ k + i ≤ 8 * s.size ∧ iv = .int .i64 i ∧ sv = .bool (decide (x % 2 ^ i ≠ 0)) ∧ Sl wr w.heap.size 5 1 (.slice (some ⟨w1.heap.size, 0, none⟩) (s.size + 14) cp) (s.size + 14) (bytesV (PSum.turned (PFrm.frame lsn s.data.toList) (112 + k) (BitVec.ofNat 32 x) i)) ∧ Below w.heap.size w wr) (fun _ iv _ => 32 - (intOf iv).toNat)
  case atStart => exact ⟨0, by omega, by omega, rfl, by simp [Nat.mod_one], hS0'.out, (hB.alloc hB.size _).drew⟩
  case round =>
    obtain ⟨i, hi, hki, rfl, rfl, hS, hBr⟩ := hrel
    have hB2 := Lib.hid hB.size
    clear hB hS0'
    by_cases hgo : i < 32 ∧ k + i < 8 * s.size
    · have hil : (i : Int) < 32 := by omega
      have hil2 : (k : Int) + i < 8 * s.size := by omega
      have hrt := PSum.turned_length (PFrm.frame lsn s.data.toList) (112 + k) (BitVec.ofNat 32 x) i
      rw [hfl] at hrt
      have hj : 14 + (k + i) / 8 < s.size + 14 := by omega
      have hcell := hS.byte hj
      have hfro := hS.unshut (j := 14 + (k + i) / 8) (by omega)
      rw [Nat.zero_add] at hcell hfro
      have hset := fun u => Lib.hid (hS.set (j := 14 + (k + i) / 8) (by omega) u)
      have hS' := Lib.hid hS
      have hgo' := Lib.hid hgo
      clear hrt hS hgo
      generalize hT : PSum.turned (PFrm.frame lsn s.data.toList) (112 + k) (BitVec.ofNat 32 x) i = T at *
      generalize hbb : T.getD (14 + (k + i) / 8) 0 = b at *
      have hT' := Lib.hid hT
      have hbb' := Lib.hid hbb
      clear hT hbb
      by_cases hbit : x / 2 ^ i % 2 = 1
      · have htest : (bits BinOp.and IntKind.u32 ((x : Int) / 2 ^ i) 1 == 1) = true := by rw [test_bit x i hx, hbit]; rfl
        have hbit' := Lib.hid hbit
        clear hbit
        go_wp2
        refine ⟨⟨i + 1, by omega, by have := hgo'.out; omega, by go_num, by rw [mod_yes x i hbit'.out], ?_, hBr.setCell hB2.out _⟩, by simp [intOf]; omega⟩
        rw [bitX', turned_yes _ _ _ _ ((turn_bit x i hx).1 hbit'.out), hT'.out]
        have h := (hset (.int .u8 ((b ^^^ PSum.bit ((k + i) % 8)).toNat : Int))).out
        rw [bytesV_set, Nat.zero_add] at h
        unfold PSum.flip
        rw [show (112 + k + i) / 8 = 14 + (k + i) / 8 by omega, show (112 + k + i) % 8 = (k + i) % 8 by omega, hbb'.out]
        exact h
      · have htest : (bits BinOp.and IntKind.u32 ((x : Int) / 2 ^ i) 1 == 1) = false := by rw [test_bit x i hx, beq_eq_false_iff_ne]; omega
        have hbit' := Lib.hid hbit
        clear hbit
        go_wp2
        refine ⟨⟨i + 1, by omega, by have := hgo'.out; omega, by go_num, by rw [mod_no x i hbit'.out], ?_, hBr⟩, by simp [intOf]; omega⟩
        rw [turned_no _ _ _ _ (fun h => hbit'.out ((turn_bit x i hx).2 h)), hT'.out]
        exact hS'.out
    · have hcv := conv_sl hS
      have hlT := PSum.turned_length (PFrm.frame lsn s.data.toList) (112 + k) (BitVec.ofNat 32 x) i
      rw [hfl] at hlT
      have hd1 := PFrm.decode_text lsn s.data.toList k x i hm hl hi hx (by rw [list_size]; exact hki)
      generalize PSum.turned (PFrm.frame lsn s.data.toList) (112 + k) (BitVec.ofNat 32 x) i = T at *
      have hd2 := PFrm.decode_head lsn s.data.toList (hd % 96) hm hl (by omega)
      have hk0 := Lib.hid hgo
      clear hS
      obtain ⟨t1, n1, c1, hde1⟩ : ∃ t1 n1 c1, PFrm.decode T lsn = (t1, n1, c1) := ⟨_, _, _, rfl⟩
      rw [hde1] at hd1
      obtain ⟨t2, n2, c2, hde2⟩ : ∃ t2 n2 c2, PFrm.decode (PSum.flip (PFrm.frame lsn s.data.toList) (16 + hd % 96)) lsn = (t2, n2, c2) := ⟨_, _, _, rfl⟩
      rw [hde2] at hd2
      simp only at hd1 hd2
      have hde1' := Lib.hid hde1
      have hde2' := Lib.hid hde2
      have hd1' := Lib.hid hd1
      have hd2' := Lib.hid hd2
      clear hde1 hde2 hgo hd1 hd2
      have hz : (x % 2 ^ i = 0 ∧ c1 = 0) ∨ (¬ x % 2 ^ i = 0 ∧ c1 = 100) := by
        by_cases h : x % 2 ^ i = 0
        · exact .inl ⟨h, hd1'.out.trans (if_pos h)⟩
        · exact .inr ⟨h, hd1'.out.trans (if_neg h)⟩
      have h6 : ((hd : Int) % 96 < 64 ∧ c2 = 7) ∨ (¬ (hd : Int) % 96 < 64 ∧ c2 = 100) := by
        by_cases h : hd % 96 < 64
        · exact .inl ⟨by omega, hd2'.out.trans (if_pos h)⟩
        · exact .inr ⟨by omega, hd2'.out.trans (if_neg h)⟩
      have hend : ((i : Int) < 32 ∧ ¬ ((k : Int) + i < 8 * s.size)) ∨ (¬ (i : Int) < 32 ∧ True) := by
        have h := hk0.out
        by_cases h32 : i < 32
        · exact .inl ⟨by omega, by omega⟩
        · exact .inr ⟨by omega, trivial⟩
      clear hd1' hd2'
      rcases hend with ⟨hil, hlast⟩ | ⟨hil, hlast⟩ <;> rcases hz with ⟨hz, rfl⟩ | ⟨hz, rfl⟩ <;> rcases h6 with ⟨h6, rfl⟩ | ⟨h6, rfl⟩
      all_goals (
        go_wp2_with fail
        refine (decode_any _ lsn hl (by rw [size_mk, hlT]; unfold maxLen; omega) _).mono ?_; rintro e w3 ⟨rfl, hb⟩; replace hBr := hBr.step hb; clear hb
        rw [hde1'.out]
        have hS2 := Sl.of_string w3 w.heap.size hBr.size ⟨(PFrm.frame lsn s.data.toList).toArray⟩ 5 (by rw [size_mk, hfl]; unfold maxLen; omega) _ rfl
        rw [size_mk, hfl] at hS2
        change Sl ((w3.alloc _).drew) _ _ _ _ _ _ at hS2
        have hcell := hS2.byte (j := 2 + hd % 96 / 8) (by omega)
        have hfro := hS2.unshut (j := 2 + hd % 96 / 8) (by omega)
        rw [Nat.zero_add] at hcell hfro
        have hset := hS2.set (j := 2 + hd % 96 / 8) (by omega) (.int .u8 (bits BinOp.xor IntKind.u8 ((((PFrm.frame lsn s.data.toList).getD (2 + hd % 96 / 8) 0).toNat : Nat) : Int) ((2 : Int) ^ (hd % 8) % 256)))
        rw [show (bytesV (PFrm.frame lsn s.data.toList)).set (2 + hd % 96 / 8) (.int .u8 (bits BinOp.xor IntKind.u8 ((((PFrm.frame lsn s.data.toList).getD (2 + hd % 96 / 8) 0).toNat : Nat) : Int) ((2 : Int) ^ (hd % 8) % 256))) = bytesV (PSum.flip (PFrm.frame lsn s.data.toList) (16 + hd % 96)) by
          rw [bitX', bytesV_set]
          unfold PSum.flip
          rw [show (16 + hd % 96) / 8 = 2 + hd % 96 / 8 by omega, show (16 + hd % 96) % 8 = hd % 8 by omega], Nat.zero_add] at hset
        change Sl (((w3.alloc _).setCell _ _).drew) _ _ _ _ _ _ at hset
        have hcv2 := conv_sl hset
        have hlF : (PSum.flip (PFrm.frame lsn s.data.toList) (16 + hd % 96)).length = s.size + 14 := by rw [PSum.flip_length, hfl]
        have hB3 := (hBr.alloc hBr.size (.cells (bytesRow ⟨(PFrm.frame lsn s.data.toList).toArray⟩ (grownCap w3 (s.size + 14) 0 5)) 5 ((bytesRow ⟨(PFrm.frame lsn s.data.toList).toArray⟩ (grownCap w3 (s.size + 14) 0 5)).size, (bytesRow ⟨(PFrm.frame lsn s.data.toList).toArray⟩ (grownCap w3 (s.size + 14) 0 5)).size + 1)))
        clear hS2 hset
        generalize hbb : (PFrm.frame lsn s.data.toList).getD (2 + hd % 96 / 8) 0 = b at *
        generalize hF2 : PSum.flip (PFrm.frame lsn s.data.toList) (16 + hd % 96) = F2 at *
        have hbb' := Lib.hid hbb
        have hF2' := Lib.hid hF2
        have hB3' := Lib.hid hB3
        have hB2b := Lib.hid hBr.size
        clear hbb hF2 hB3 hBr
        go_wp2_with fail
        refine (decode_any _ lsn hl (by rw [size_mk, hlF]; unfold maxLen; omega) _).mono ?_; rintro e w5 ⟨rfl, hb⟩
        have hB5 := Below.step ((hB3'.out.setCell hB2b.out _).drew) hb
        clear hb
        rw [hde2'.out]
        go_wp2_with fail
        refine (works10_any _).mono ?_; rintro e w6 ⟨rfl, hb⟩; replace hB5 := hB5.step hb; clear hb
        go_wp2
        go_ret
        exact ⟨rfl, hB5⟩)
set_option maxRecDepth 100000 in
theorem frameTurned_lifted (os : Os) (started : os.Started) (H : Type) (enc : TypeId × Value → H) :
    ReturnsInHanded {} Try.checked os 4 .any (Rows.frameTurnedSpec.pre6 enc Try.prog Try.f4 Rows.frameTurnedRow.domain false) (Rows.frameTurnedSpec.post enc Try.prog Try.f4 false true false false) := by
  refine returnsInHanded_of_change_sized (C := Try.checked) own started (by kernel_rfl) Try.func4
    (ChangeSpec.witness6 (enc := enc) (C := Try.checked) false ⟨#[], #[.int .u64 0, .string ByteArray.empty, .int .u32 0, .int .u16 0, .int .u16 0], []⟩ 8 (by kernel_rfl) (by kernel_rfl) (by kernel_rfl) (by kernel_rfl)) ?_
  intro W base args ds gs before hval0 hW hcnd hsz0 _
  have hval : ∀ (j : Nat) t v, Try.f4.params[j]? = some t → args[j]? = some v → Value.okWide Try.prog W .any base t v := hval0
  have hsz : (DataW.weightsEach Try.prog (Try.f4.params.toList ++ Rows.frameTurnedSpec.plain.varTypes Try.prog) (ds ++ gs)).all (· ≤ reachBytes) = true := hsz0
  have hW' := hW
  obtain ⟨p, q, hA0, hV, rfl, hfz, hnd⟩ := hW
  have hA : DataW.TrodAll enc Try.prog W 0 (fun _ => true) true Try.f4.params.toList args.toList ds p := hA0
  rw [Try.params4] at hA hval hsz
  obtain ⟨v0, vs0, d0, ds0, p0, q0, hargs, rfl, rfl, h0, r0⟩ := trodAll_cons hA
  obtain ⟨v1, vs1, d1, ds1, p1, q1, rfl, rfl, rfl, h1, r1⟩ := trodAll_cons r0
  obtain ⟨v2, vs2, d2, ds2, p2, q2, rfl, rfl, rfl, h2, r2⟩ := trodAll_cons r1
  obtain ⟨v3, vs3, d3, ds3, p3, q3, rfl, rfl, rfl, h3, r3⟩ := trodAll_cons r2
  obtain ⟨v4, vs4, d4, ds4, p4, q4, rfl, rfl, rfl, h4, r4⟩ := trodAll_cons r3
  obtain ⟨rfl, rfl, rfl⟩ := trodAll_nil r4
  obtain rfl : args = #[v0, v1, v2, v3, v4] := by cases args; simp_all
  obtain ⟨rfl, rfl⟩ := trodVars_none hV
  obtain ⟨l, rfl, rfl, rfl, w0⟩ := open_int Try.underlying22 (hval 0 22 v0 rfl rfl) h0
  have b0 := bounds_u64 w0
  obtain ⟨l, rfl⟩ := Int.eq_ofNat_of_zero_le b0.1
  obtain ⟨s, rfl, rfl, rfl, w1⟩ := open_string Try.underlying9 (hval 1 9 v1 rfl rfl) h1
  have z1 := size_reach (sized_string hsz (j := 1) (t := 9) rfl rfl)
  obtain ⟨x, rfl, rfl, rfl, w2⟩ := open_int Try.underlying30 (hval 2 30 v2 rfl rfl) h2
  have b2 := bounds_u32 w2
  obtain ⟨x, rfl⟩ := Int.eq_ofNat_of_zero_le b2.1
  obtain ⟨k, rfl, rfl, rfl, w3⟩ := open_int Try.underlying31 (hval 3 31 v3 rfl rfl) h3
  have b3 := bounds_u16 w3
  obtain ⟨k, rfl⟩ := Int.eq_ofNat_of_zero_le b3.1
  obtain ⟨h, rfl, rfl, rfl, w4⟩ := open_int Try.underlying31 (hval 4 31 v4 rfl rfl) h4
  have b4 := bounds_u16 w4
  obtain ⟨h, rfl⟩ := Int.eq_ofNat_of_zero_le b4.1
  clear hA0 hval0 hsz0
  simp only [List.append_nil] at hW'
  refine (frameTurned_any l s x k h (by omega) (by omega) (by omega) (by omega) w1 W).mono fun e W' ⟨he, hb⟩ => ?_
  subst he
  exact ⟨_, rfl, law_post 4 Try.underlying4 (of_decide_eq_true (by kernel_rfl)) rfl rfl hW' rfl hb⟩
/-- THE STATEMENT. -/
theorem frameTurned_holds : Rows.FrameTurnedSaid :=
  OpenClaim.holds_of_wide 4 Try.f4 rfl rfl rfl rfl rfl rfl rfl ⟨rfl, rfl, rfl, rfl, rfl⟩ rfl rfl rfl rfl rfl (by kernel_rfl) Try.func4 (by kernel_rfl)
    (of_decide_eq_true (by kernel_rfl)) (by unfold Func.isWrapper; first | (rw [if_pos (by decide +kernel)]; kernel_rfl) | (rw [if_neg (by decide +kernel)]; exact ⟨rfl, rfl⟩))
    (fun os started H enc _ => frameTurned_lifted os started H enc)
end Go.Proofs.Ytfejjjbcloiddaa
