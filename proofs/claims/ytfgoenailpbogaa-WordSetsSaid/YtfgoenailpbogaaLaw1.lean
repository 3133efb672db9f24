/-
  The four statements of layer 1 (word): each law returns true, whatever its arguments.
-/
import Derived.Test.YtfgoenailpbogaaWord
import Derived.Test.YtfgoenailpbogaaFrame
import Derived.Deep.RegionWith
namespace Go.Proofs.Ytfgoenailpbogaa
open Go.ChangeShapes Go.WideShapes Go.ChangeAt Go.RowKit
open Go.ChangeMaps (open_string shut_string)
theorem a_put1 : PWord.put 258 2 = ([1, 2], true) := by decide +kernel
theorem a_get1 : PWord.get [120, 1, 2] 1 2 = (258, true) := by decide +kernel
theorem a_put2 : PWord.put 256 1 = ([], false) := by decide +kernel
theorem a_get2 : PWord.get [97, 98] 1 2 = (0, false) := by decide +kernel
theorem a_set : PWord.set' [97, 98, 99, 100] 1 [120, 121] = ([97, 120, 121, 100], true) := by decide +kernel
theorem a_up1 : PWord.up 9 8 = 16 := by decide +kernel
theorem a_up2 : PWord.up 8 8 = 8 := by decide +kernel
theorem a_up3 : PWord.up 0 8 = 0 := by decide +kernel
set_option maxHeartbeats 1000000 in
theorem alive01_any (w : World) : Calls Try.prog 7 #[] w fun e w' => e = .returned (.bool true) ∧ Below w.heap.size w w' := by
  have e1 := a_put1
  have e2 := a_get1
  have e3 := a_put2
  have e4 := a_get2
  have e5 := a_set
  have e6 := a_up1
  have e7 := a_up2
  have e8 := a_up3
  have hB := Below.refl w.heap.size w
  go_enter Try.func7, Try.ntmps7
  go_wp2_with fail
  refine (put_any 258 2 (by decide) _).mono ?_; rintro e w1 ⟨rfl, hb⟩; replace hB := hB.step hb; clear hb
  go_wp2_with fail
  refine (get_any _ 1 2 (by decide) _).mono ?_; rintro e w2 ⟨rfl, hb⟩; replace hB := hB.step hb; clear hb
  go_wp2_with fail
  refine (put_any 256 1 (by decide) _).mono ?_; rintro e w3 ⟨rfl, hb⟩; replace hB := hB.step hb; clear hb
  go_wp2_with fail
  refine (get_any _ 1 2 (by decide) _).mono ?_; rintro e w4 ⟨rfl, hb⟩; replace hB := hB.step hb; clear hb
  go_wp2_with fail
  refine (set_any _ _ 1 (by decide) (by decide) _).mono ?_; rintro e w5 ⟨rfl, hb⟩; replace hB := hB.step hb; clear hb
  go_wp2_with fail
  refine (up_any 9 8 (by decide) (by decide) (by decide) (by decide) _).mono ?_; rintro e w6 ⟨rfl, rfl⟩
  go_wp2_with fail
  refine (up_any 8 8 (by decide) (by decide) (by decide) (by decide) _).mono ?_; rintro e w7 ⟨rfl, rfl⟩
  go_wp2_with fail
  refine (up_any 0 8 (by decide) (by decide) (by decide) (by decide) _).mono ?_; rintro e w8 ⟨rfl, rfl⟩
  go_wp2
  go_ret
  exact ⟨rfl, hB⟩
set_option maxRecDepth 100000 in
set_option maxHeartbeats 2000000 in
theorem wordBytes_any (n : Nat) (size : Int) (s : ByteArray) (pos : Int) (hn : n < 18446744073709551616) (hs : s.size ≤ maxLen) (w : World) : Calls Try.prog 3 #[.int .u64 n, .int .i64 size, .string s, .int .i64 pos] w fun e w' => e = .returned (.bool true) ∧ Below w.heap.size w w' := by
  have hs' := Lib.hid hs
  unfold maxLen at hs
  have hB := Below.refl w.heap.size w
  by_cases h1 : 4096 < s.size
  · have h1' : (4096 : Int) < s.size := by omega
    go_enter Try.func3, Try.ntmps3
    go_wp2_with fail
    refine (alive01_any _).mono ?_; rintro e w' ⟨rfl, hb⟩
    go_wp2
    go_ret
    exact ⟨rfl, hb⟩
  · have h1' : ¬ (4096 : Int) < s.size := by omega
    go_enter Try.func3, Try.ntmps3
    go_wp2_with fail
    refine (put_any n size hn _).mono ?_; rintro e w1 ⟨rfl, hb⟩; replace hB := hB.step hb; clear hb
    go_wp2_with fail
    refine (rput_any n size hn _).mono ?_; rintro e w2 ⟨rfl, hb⟩; replace hB := hB.step hb; clear hb
    go_wp2_with fail
    refine (get_any _ _ _ hs'.out _).mono ?_; rintro e w3 ⟨rfl, hb⟩; replace hB := hB.step hb; clear hb
    go_wp2_with fail
    refine (rget_any _ _ _ hs'.out _).mono ?_; rintro e w4 ⟨rfl, rfl⟩
    go_wp2_with fail
    refine (cut_any _ _ _ hs'.out _).mono ?_; rintro e w5 ⟨rfl, rfl⟩
    go_wp2_with fail
    refine (rcut_any _ _ _ hs'.out _).mono ?_; rintro e w6 ⟨rfl, rfl⟩
    go_wp2_with fail
    refine (alive01_any _).mono ?_; rintro e w7 ⟨rfl, hb⟩; replace hB := hB.step hb; clear hb
    go_wp2
    go_ret
    exact ⟨rfl, hB⟩
set_option maxRecDepth 100000 in
set_option maxHeartbeats 2000000 in
theorem wordSets_any (s part : ByteArray) (pos n t : Int) (hn : -9223372036854775808 ≤ n) (hn' : n ≤ 9223372036854775807) (ht : -9223372036854775808 ≤ t) (ht' : t ≤ 9223372036854775807) (hs : s.size ≤ maxLen) (hp : part.size ≤ maxLen) (w : World) : Calls Try.prog 4 #[.string s, .string part, .int .i64 pos, .int .i64 n, .int .i64 t] w fun e w' => e = .returned (.bool true) ∧ Below w.heap.size w w' := by
  have hs' := Lib.hid hs
  have hp' := Lib.hid hp
  unfold maxLen at hs hp
  have hB := Below.refl w.heap.size w
  by_cases h1 : 4096 < s.size
  · have h1' : (4096 : Int) < s.size := by omega
    go_enter Try.func4, Try.ntmps4
    go_wp2_with fail
    refine (alive01_any _).mono ?_; rintro e w' ⟨rfl, hb⟩
    go_wp2
    go_ret
    exact ⟨rfl, hb⟩
  · have h1' : ¬ (4096 : Int) < s.size := by omega
    by_cases h2 : 4096 < part.size
    · have h2' : (4096 : Int) < part.size := by omega
      go_enter Try.func4, Try.ntmps4
      go_wp2_with fail
      refine (alive01_any _).mono ?_; rintro e w' ⟨rfl, hb⟩
      go_wp2
      go_ret
      exact ⟨rfl, hb⟩
    · have h2' : ¬ (4096 : Int) < part.size := by omega
      go_enter Try.func4, Try.ntmps4
      go_wp2_with fail
      refine (set_any _ _ _ hs'.out hp'.out _).mono ?_; rintro e w1 ⟨rfl, hb⟩; replace hB := hB.step hb; clear hb
      go_wp2_with fail
      refine (rset_any _ _ _ hs'.out hp'.out _).mono ?_; rintro e w2 ⟨rfl, hb⟩; replace hB := hB.step hb; clear hb
      go_wp2_with fail
      refine (up_any n t hn hn' ht ht' _).mono ?_; rintro e w3 ⟨rfl, rfl⟩
      go_wp2_with fail
      refine (rup_any n t hn hn' ht ht' _).mono ?_; rintro e w4 ⟨rfl, rfl⟩
      go_wp2_with fail
      refine (alive01_any _).mono ?_; rintro e w5 ⟨rfl, hb⟩; replace hB := hB.step hb; clear hb
      go_wp2
      go_ret
      exact ⟨rfl, hB⟩
theorem less_is : ∀ (x y : List UInt8), Op.bytesLess x y = PWord.less x y
  | [], [] => rfl
  | [], _ :: _ => rfl
  | _ :: _, [] => rfl
  | a :: x, b :: y => by simp only [Op.bytesLess, PWord.less, less_is x y]
theorem fits_lt (n k : Nat) (h : n / 256 ^ k = 0) : n < 256 ^ k := by
  rcases Nat.lt_or_ge n (256 ^ k) with h1 | h1
  · exact h1
  · have := Nat.div_pos h1 (Nat.pow_pos (by decide)); omega
theorem put_not (n k : Nat) (h : n / 256 ^ k ≠ 0) : PWord.put n k = ([], false) := put_no n k (by rw [Int.toNat_natCast]; omega)
set_option maxRecDepth 100000 in
set_option maxHeartbeats 1000000 in
theorem wordOrder_any (n m size a t : Nat) (hn : n < 18446744073709551616) (hm : m < 18446744073709551616) (hsz : size < 256) (ha : a < 65536) (ht : t < 65536) (w : World) : Calls Try.prog 6 #[.int .u64 n, .int .u64 m, .int .u8 size, .int .u16 a, .int .u16 t] w fun e w' => e = .returned (.bool true) ∧ Below w.heap.size w w' := by
  have hB := Below.refl w.heap.size w
  obtain ⟨k, hk, hk1, hk8⟩ : ∃ k : Nat, 1 + (size : Int) % 8 = (k : Int) ∧ 1 ≤ k ∧ k ≤ 8 := ⟨1 + size % 8, by omega, by omega, by omega⟩
  obtain ⟨u, hu⟩ : ∃ u : Int, PWord.up (1 + (a : Int)) (1 + (t : Int)) = u := ⟨_, rfl⟩
  have hy := up_yes (1 + (a : Int)) (1 + (t : Int)) (by omega) (by omega) (by omega)
  obtain ⟨_, _, r3, r4, r5, r6⟩ := up_range (1 + (a : Int)) (1 + (t : Int)) (by omega) (by omega) (by omega)
  have um : u % (1 + (t : Int)) = 0 := by rw [← hu, hy]; exact Int.mul_emod_left _ _
  rw [← hy, hu] at r3 r4 r5 r6
  have um' : (u % (1 + (t : Int)) == 0) = true := by rw [um]; rfl
  have hu' := Lib.hid hu
  clear hu hy um
  have d1 : 0 < 1 + (t : Int) := by omega
  by_cases c1 : n / 256 ^ k = 0
  · have hpn := put_yes n k hk1 hk8 c1
    have hpn' := Lib.hid hpn
    by_cases c2 : m / 256 ^ k = 0
    · have hpm := put_yes m k hk1 hk8 c2
      have hpm' := Lib.hid hpm
      have hl := less_is (PWord.be k n) (PWord.be k m)
      rw [PWord.less_be k n m (fits_lt n k c1) (fits_lt m k c2)] at hl
      rcases Nat.lt_trichotomy n m with h | h | h
      · rw [decide_eq_true h] at hl
        have he : (PWord.be k n == PWord.be k m) = false := by
          rw [beq_eq_false_iff_ne]; intro h2
          exact absurd (PWord.be_inj k n m (fits_lt n k c1) (fits_lt m k c2) h2) (by omega)
        have hi : ((n : Int) == (m : Int)) = false := by rw [beq_eq_false_iff_ne]; omega
        clear hpn hpm c1 c2
        go_enter Try.func6, Try.ntmps6
        go_wp2_with fail
        refine (put_any n k hn _).mono ?_; rintro e w1 ⟨rfl, hb⟩; replace hB := hB.step hb; clear hb
        rw [hpn'.out]
        go_wp2_with fail
        refine (put_any m k hm _).mono ?_; rintro e w2 ⟨rfl, hb⟩; replace hB := hB.step hb; clear hb
        rw [hpm'.out]
        go_wp2_with fail
        refine (up_any _ _ (by omega) (by omega) (by omega) (by omega) _).mono ?_; rintro e w3 ⟨rfl, rfl⟩
        rw [hu'.out]
        go_wp2_with fail
        refine (alive01_any _).mono ?_; rintro e w4 ⟨rfl, hb⟩; replace hB := hB.step hb; clear hb
        go_wp2
        go_ret
        exact ⟨rfl, hB⟩
      · subst h
        rw [decide_eq_false (by omega)] at hl
        clear hpn hpm c1 c2
        go_enter Try.func6, Try.ntmps6
        go_wp2_with fail
        refine (put_any n k hn _).mono ?_; rintro e w1 ⟨rfl, hb⟩; replace hB := hB.step hb; clear hb
        rw [hpn'.out]
        go_wp2_with fail
        refine (put_any n k hn _).mono ?_; rintro e w2 ⟨rfl, hb⟩; replace hB := hB.step hb; clear hb
        rw [hpm'.out]
        go_wp2_with fail
        refine (up_any _ _ (by omega) (by omega) (by omega) (by omega) _).mono ?_; rintro e w3 ⟨rfl, rfl⟩
        rw [hu'.out]
        go_wp2_with fail
        refine (alive01_any _).mono ?_; rintro e w4 ⟨rfl, hb⟩; replace hB := hB.step hb; clear hb
        go_wp2
        go_ret
        exact ⟨rfl, hB⟩
      · rw [decide_eq_false (by omega)] at hl
        have he : (PWord.be k n == PWord.be k m) = false := by
          rw [beq_eq_false_iff_ne]; intro h2
          exact absurd (PWord.be_inj k n m (fits_lt n k c1) (fits_lt m k c2) h2) (by omega)
        have hi : ((n : Int) == (m : Int)) = false := by rw [beq_eq_false_iff_ne]; omega
        have hi2 : ¬ (n : Int) < (m : Int) := by omega
        clear hpn hpm c1 c2
        go_enter Try.func6, Try.ntmps6
        go_wp2_with fail
        refine (put_any n k hn _).mono ?_; rintro e w1 ⟨rfl, hb⟩; replace hB := hB.step hb; clear hb
        rw [hpn'.out]
        go_wp2_with fail
        refine (put_any m k hm _).mono ?_; rintro e w2 ⟨rfl, hb⟩; replace hB := hB.step hb; clear hb
        rw [hpm'.out]
        go_wp2_with fail
        refine (up_any _ _ (by omega) (by omega) (by omega) (by omega) _).mono ?_; rintro e w3 ⟨rfl, rfl⟩
        rw [hu'.out]
        go_wp2_with fail
        refine (alive01_any _).mono ?_; rintro e w4 ⟨rfl, hb⟩; replace hB := hB.step hb; clear hb
        go_wp2
        go_ret
        exact ⟨rfl, hB⟩
    · have hpm' := Lib.hid (put_not m k c2)
      have c2' := Lib.hid c2
      clear hpn c1 c2
      go_enter Try.func6, Try.ntmps6
      go_wp2_with fail
      refine (put_any n k hn _).mono ?_; rintro e w1 ⟨rfl, hb⟩; replace hB := hB.step hb; clear hb
      rw [hpn'.out]
      go_wp2_with fail
      refine (put_any m k hm _).mono ?_; rintro e w2 ⟨rfl, hb⟩; replace hB := hB.step hb; clear hb
      rw [hpm'.out]
      go_wp2_with fail
      refine (up_any _ _ (by omega) (by omega) (by omega) (by omega) _).mono ?_; rintro e w3 ⟨rfl, rfl⟩
      rw [hu'.out]
      go_wp2_with fail
      refine (alive01_any _).mono ?_; rintro e w4 ⟨rfl, hb⟩; replace hB := hB.step hb; clear hb
      go_wp2
      go_ret
      exact ⟨rfl, hB⟩
  · have hpn' := Lib.hid (put_not n k c1)
    have c1' := Lib.hid c1
    clear c1
    obtain ⟨b, hb0⟩ : ∃ b, PWord.put m k = b := ⟨_, rfl⟩
    have hpm' := Lib.hid hb0
    clear hb0
    go_enter Try.func6, Try.ntmps6
    go_wp2_with fail
    refine (put_any n k hn _).mono ?_; rintro e w1 ⟨rfl, hb⟩; replace hB := hB.step hb; clear hb
    rw [hpn'.out]
    go_wp2_with fail
    refine (put_any m k hm _).mono ?_; rintro e w2 ⟨rfl, hb⟩; replace hB := hB.step hb; clear hb
    rw [hpm'.out]
    go_wp2_with fail
    refine (up_any _ _ (by omega) (by omega) (by omega) (by omega) _).mono ?_; rintro e w3 ⟨rfl, rfl⟩
    rw [hu'.out]
    go_wp2_with fail
    refine (alive01_any _).mono ?_; rintro e w4 ⟨rfl, hb⟩; replace hB := hB.step hb; clear hb
    go_wp2
    go_ret
    exact ⟨rfl, hB⟩
theorem cut_set (s p : List UInt8) (i : Nat) (h : i + p.length ≤ s.length) : PWord.cut (s.take i ++ p ++ s.drop (i + p.length)) i p.length = (p, true) := by
  unfold PWord.cut PWord.inside
  have hl : (s.take i ++ p ++ s.drop (i + p.length)).length = s.length := by simp; omega
  rw [hl]
  have : (decide (0 ≤ (i : Int)) && decide (0 ≤ (p.length : Int)) && decide ((i : Int) + p.length ≤ s.length)) = true := by simp; omega
  rw [this, if_pos rfl]
  have hi : (s.take i).length = i := by rw [List.length_take]; omega
  simp only [Int.toNat_natCast]
  rw [List.append_assoc, List.drop_left' hi, List.take_left' rfl]
theorem get_set (s p : List UInt8) (i : Nat) (h : i + p.length ≤ s.length) (h1 : 1 ≤ p.length) (h8 : p.length ≤ 8) : PWord.get (s.take i ++ p ++ s.drop (i + p.length)) i p.length = (PWord.val p, true) := by
  have hc := cut_set s p i h
  have hc2 : PWord.inside (s.take i ++ p ++ s.drop (i + p.length)).length i p.length = true := by
    cases hh : PWord.inside (s.take i ++ p ++ s.drop (i + p.length)).length i p.length
    · unfold PWord.cut at hc; rw [hh] at hc; simp at hc
    · rfl
  unfold PWord.get
  unfold PWord.cut at hc
  rw [hc2] at hc ⊢
  have e1 : decide (1 ≤ (p.length : Int)) = true := by simp; omega
  have e8 : decide ((p.length : Int) ≤ 8) = true := by simp; omega
  rw [e1, e8]
  simp only [if_true, Bool.and_self] at hc ⊢
  injection hc with hc _
  rw [hc]
theorem set_no' (s : ByteArray) (P : List UInt8) (pos : Int) (h : PWord.inside s.size pos P.length = false) : PWord.set' s.data.toList pos P = ([], false) := by
  unfold PWord.set'; rw [list_size, h]; rfl
theorem set_yes' (s : ByteArray) (P : List UInt8) (i : Nat) (h : i + P.length ≤ s.size) : PWord.set' s.data.toList i P = (s.data.toList.take i ++ P ++ s.data.toList.drop (i + P.length), true) := by
  have hi : PWord.inside s.size i P.length = true := (inside_iff _ _ _).2 (by omega)
  unfold PWord.set'; rw [list_size, hi]; rfl
set_option maxRecDepth 100000 in
set_option maxHeartbeats 2000000 in
theorem wordBack_any (n size : Nat) (s : ByteArray) (pos : Nat) (hn : n < 18446744073709551616) (hsz : size < 256) (hp : pos < 65536) (hs : s.size ≤ maxLen) (w : World) : Calls Try.prog 5 #[.int .u64 n, .int .u8 size, .string s, .int .u16 pos] w fun e w' => e = .returned (.bool true) ∧ Below w.heap.size w w' := by
  have hs' := Lib.hid hs
  unfold maxLen at hs
  have hB := Below.refl w.heap.size w
  by_cases h1 : 4096 < s.size
  · have h1' : (4096 : Int) < s.size := by omega
    go_enter Try.func5, Try.ntmps5
    go_wp2_with fail
    refine (alive01_any _).mono ?_; rintro e w' ⟨rfl, hb⟩
    go_wp2
    go_ret
    exact ⟨rfl, hb⟩
  · have h1' : ¬ (4096 : Int) < s.size := by omega
    obtain ⟨k, hk, hk1, hk8⟩ : ∃ k : Nat, 1 + (size : Int) % 8 = (k : Int) ∧ 1 ≤ k ∧ k ≤ 8 := ⟨1 + size % 8, by omega, by omega, by omega⟩
    by_cases hk7 : k < 8
    · obtain ⟨M, hM⟩ : ∃ M : Nat, 256 ^ k = M := ⟨_, rfl⟩
      have hM0 : 0 < M := by rw [← hM]; exact Nat.pow_pos (by decide)
      have hM64 : M < 18446744073709551616 := by
        have : 256 ^ k ≤ 256 ^ 7 := Nat.pow_le_pow_right (by decide) (by omega)
        have h7 : (256 : Nat) ^ 7 = 72057594037927936 := by decide
        omega
      have hpw : (2 : Int) ^ (8 * k) = (M : Int) := by
        rw [← hM, Int.pow_mul, Int.natCast_pow]; rfl
      have hwrap : IntKind.u64.wrap ((2 : Int) ^ (8 * k)) = (M : Int) := by
        rw [hpw, IntKind.wrap_u64]; omega
      obtain ⟨N, hmod⟩ : ∃ N : Nat, (n : Int) % (M : Int) = (N : Int) := ⟨n % M, by omega⟩
      have hNM : N < M := by have := Int.emod_lt_of_pos (n : Int) (show 0 < (M : Int) by omega); omega
      have hN : N < 18446744073709551616 := by omega
      have hNf : N / 256 ^ k = 0 := by rw [hM]; exact Nat.div_eq_of_lt hNM
      have hMne : ¬ (M : Int) = 0 := by omega
      clear hpw hM
      have hpn' := Lib.hid (put_yes N k hk1 hk8 hNf)
      have hPl := PWord.be_length k N
      have hPv : PWord.val (PWord.be k N) = N := by rw [PWord.val_be, Nat.mod_eq_of_lt (fits_lt N k hNf)]
      generalize PWord.be k N = P at *
      clear hNf
      go_enter Try.func5, Try.ntmps5
      go_wp2_with fail
      refine (put_any N k hN _).mono ?_; rintro e w1 ⟨rfl, hb⟩; replace hB := hB.step hb; clear hb
      rw [hpn'.out]
      by_cases h2 : s.size < k
      · have h2' : (s.size : Int) < k := by omega
        have hno := set_no' s P 0 (by cases hh : PWord.inside s.size 0 P.length <;> first | rfl | (have := (inside_iff _ _ _).1 hh; omega))
        have hno' := Lib.hid hno
        clear hno
        go_wp2_with fail
        refine (set_any s _ 0 hs'.out (by rw [size_mk, hPl]; unfold maxLen; omega) _).mono ?_; rintro e w2 ⟨rfl, hb⟩; replace hB := hB.step hb; clear hb
        rw [show (⟨P.toArray⟩ : ByteArray).data.toList = P by simp, hno'.out]
        go_wp2_with fail
        refine (alive01_any _).mono ?_; rintro e w3 ⟨rfl, hb⟩; replace hB := hB.step hb; clear hb
        go_wp2
        go_ret
        exact ⟨rfl, hB⟩
      · have h2' : ¬ (s.size : Int) < k := by omega
        obtain ⟨i, hi, hil⟩ : ∃ i : Nat, (pos : Int) % ((s.size : Int) - k + 1) = (i : Int) ∧ i + k ≤ s.size := by
          have q0 := Int.emod_nonneg (pos : Int) (show (s.size : Int) - k + 1 ≠ 0 by omega)
          have q1 := Int.emod_lt_of_pos (pos : Int) (show 0 < (s.size : Int) - k + 1 by omega)
          exact ⟨((pos : Int) % ((s.size : Int) - k + 1)).toNat, by omega, by omega⟩
        have dd : 0 < (s.size : Int) - k + 1 := by omega
        have hyes := set_yes' s P i (by omega)
        obtain ⟨t, ht⟩ : ∃ t : ByteArray, (⟨(s.data.toList.take i ++ P ++ s.data.toList.drop (i + P.length)).toArray⟩ : ByteArray) = t := ⟨_, rfl⟩
        have htl : t.data.toList = s.data.toList.take i ++ P ++ s.data.toList.drop (i + P.length) := by rw [← ht]
        have hts : t.size = s.size := by rw [← list_size, htl]; simp; omega
        have hcut := cut_set s.data.toList P i (by rw [list_size]; omega)
        have hget := get_set s.data.toList P i (by rw [list_size]; omega) (by omega) (by omega)
        have he1 : t.extract 0 i = s.extract 0 i := by
          rw [extract_take, extract_take, htl, List.append_assoc, List.take_left' (by rw [List.length_take, list_size]; omega)]
        have he2 : t.extract (i + k) s.size = s.extract (i + k) s.size := by
          rw [extract_mid, extract_mid, htl, hPl, List.drop_left' (by simp; omega)]
        rw [← htl, hPl] at hcut hget
        rw [hPv] at hget
        have hyes' := Lib.hid hyes
        have ht' := Lib.hid ht
        have hcut' := Lib.hid hcut
        have hget' := Lib.hid hget
        clear hyes ht htl hcut hget h1 h2
        have e3 : ((i : Int) + k).toNat = i + k := by omega
        have e4 : (i : Int) + k ≤ s.size := by omega
        have e5 : (i : Int) ≤ s.size := by omega
        have e7 : 0 ≤ (i : Int) + k := by omega
        have e8 : (i : Int) + k ≤ t.size := by omega
        go_wp2_with fail
        refine (set_any s _ i hs'.out (by rw [size_mk, hPl]; unfold maxLen; omega) _).mono ?_; rintro e w2 ⟨rfl, hb⟩; replace hB := hB.step hb; clear hb
        rw [show (⟨P.toArray⟩ : ByteArray).data.toList = P by simp, hyes'.out]
        rw [ht'.out]
        go_wp2_with fail
        refine (get_any t i k (by rw [hts]; exact hs'.out) _).mono ?_; rintro e w3 ⟨rfl, hb⟩; replace hB := hB.step hb; clear hb
        rw [hget'.out]
        go_wp2_with fail
        refine (cut_any t i k (by rw [hts]; exact hs'.out) _).mono ?_; rintro e w4 ⟨rfl, rfl⟩
        rw [hcut'.out]
        have hBd := hB.drew
        clear hB
        go_wp2
        refine wp_region_still_tail 47 (by kernel_rfl) (by kernel_rfl) ?_
        simp only [List.take_succ_cons, List.take_zero, List.drop_succ_cons, List.drop_zero]
        refine still_of_quiet _ _ ?_
        repeat (go_big_quiet_step (fail))
        refine wpQuiet_nil ?_
        go_wp2_with (go_at_call 7; refine (alive01_any _).mono ?_; rintro e w5 ⟨rfl, hb⟩; replace hBd := hBd.step hb; clear hb)
        go_ret
        exact ⟨rfl, hBd⟩
    · have hk8' : k = 8 := by omega
      obtain ⟨N, hNn⟩ : ∃ N : Nat, n = N := ⟨n, rfl⟩
      subst hNn
      have hN := hn
      have hNf : n / 256 ^ k = 0 := by
        rw [hk8', show (256 : Nat) ^ 8 = 18446744073709551616 by decide]; exact Nat.div_eq_of_lt hn
      have hk7' : ¬ (k : Int) < 8 := by omega
      clear hk8'
      have hpn' := Lib.hid (put_yes n k hk1 hk8 hNf)
      have hPl := PWord.be_length k n
      have hPv : PWord.val (PWord.be k n) = n := by rw [PWord.val_be, Nat.mod_eq_of_lt (fits_lt n k hNf)]
      generalize PWord.be k n = P at *
      clear hNf
      go_enter Try.func5, Try.ntmps5
      go_wp2_with fail
      refine (put_any n k hN _).mono ?_; rintro e w1 ⟨rfl, hb⟩; replace hB := hB.step hb; clear hb
      rw [hpn'.out]
      by_cases h2 : s.size < k
      · have h2' : (s.size : Int) < k := by omega
        have hno := set_no' s P 0 (by cases hh : PWord.inside s.size 0 P.length <;> first | rfl | (have := (inside_iff _ _ _).1 hh; omega))
        have hno' := Lib.hid hno
        clear hno
        go_wp2_with fail
        refine (set_any s _ 0 hs'.out (by rw [size_mk, hPl]; unfold maxLen; omega) _).mono ?_; rintro e w2 ⟨rfl, hb⟩; replace hB := hB.step hb; clear hb
        rw [show (⟨P.toArray⟩ : ByteArray).data.toList = P by simp, hno'.out]
        go_wp2_with fail
        refine (alive01_any _).mono ?_; rintro e w3 ⟨rfl, hb⟩; replace hB := hB.step hb; clear hb
        go_wp2
        go_ret
        exact ⟨rfl, hB⟩
      · have h2' : ¬ (s.size : Int) < k := by omega
        obtain ⟨i, hi, hil⟩ : ∃ i : Nat, (pos : Int) % ((s.size : Int) - k + 1) = (i : Int) ∧ i + k ≤ s.size := by
          have q0 := Int.emod_nonneg (pos : Int) (show (s.size : Int) - k + 1 ≠ 0 by omega)
          have q1 := Int.emod_lt_of_pos (pos : Int) (show 0 < (s.size : Int) - k + 1 by omega)
          exact ⟨((pos : Int) % ((s.size : Int) - k + 1)).toNat, by omega, by omega⟩
        have dd : 0 < (s.size : Int) - k + 1 := by omega
        have hyes := set_yes' s P i (by omega)
        obtain ⟨t, ht⟩ : ∃ t : ByteArray, (⟨(s.data.toList.take i ++ P ++ s.data.toList.drop (i + P.length)).toArray⟩ : ByteArray) = t := ⟨_, rfl⟩
        have htl : t.data.toList = s.data.toList.take i ++ P ++ s.data.toList.drop (i + P.length) := by rw [← ht]
        have hts : t.size = s.size := by rw [← list_size, htl]; simp; omega
        have hcut := cut_set s.data.toList P i (by rw [list_size]; omega)
        have hget := get_set s.data.toList P i (by rw [list_size]; omega) (by omega) (by omega)
        have he1 : t.extract 0 i = s.extract 0 i := by
          rw [extract_take, extract_take, htl, List.append_assoc, List.take_left' (by rw [List.length_take, list_size]; omega)]
        have he2 : t.extract (i + k) s.size = s.extract (i + k) s.size := by
          rw [extract_mid, extract_mid, htl, hPl, List.drop_left' (by simp; omega)]
        rw [← htl, hPl] at hcut hget
        rw [hPv] at hget
        have hyes' := Lib.hid hyes
        have ht' := Lib.hid ht
        have hcut' := Lib.hid hcut
        have hget' := Lib.hid hget
        clear hyes ht htl hcut hget h1 h2
        have e3 : ((i : Int) + k).toNat = i + k := by omega
        have e4 : (i : Int) + k ≤ s.size := by omega
        have e5 : (i : Int) ≤ s.size := by omega
        have e7 : 0 ≤ (i : Int) + k := by omega
        have e8 : (i : Int) + k ≤ t.size := by omega
        go_wp2_with fail
        refine (set_any s _ i hs'.out (by rw [size_mk, hPl]; unfold maxLen; omega) _).mono ?_; rintro e w2 ⟨rfl, hb⟩; replace hB := hB.step hb; clear hb
        rw [show (⟨P.toArray⟩ : ByteArray).data.toList = P by simp, hyes'.out]
        rw [ht'.out]
        go_wp2_with fail
        refine (get_any t i k (by rw [hts]; exact hs'.out) _).mono ?_; rintro e w3 ⟨rfl, hb⟩; replace hB := hB.step hb; clear hb
        rw [hget'.out]
        go_wp2_with fail
        refine (cut_any t i k (by rw [hts]; exact hs'.out) _).mono ?_; rintro e w4 ⟨rfl, rfl⟩
        rw [hcut'.out]
        have hBd := hB.drew
        clear hB
        go_wp2
        refine wp_region_still_tail 47 (by kernel_rfl) (by kernel_rfl) ?_
        simp only [List.take_succ_cons, List.take_zero, List.drop_succ_cons, List.drop_zero]
        refine still_of_quiet _ _ ?_
        repeat (go_big_quiet_step (fail))
        refine wpQuiet_nil ?_
        go_wp2_with (go_at_call 7; refine (alive01_any _).mono ?_; rintro e w5 ⟨rfl, hb⟩; replace hBd := hBd.step hb; clear hb)
        go_ret
        exact ⟨rfl, hBd⟩
set_option maxRecDepth 100000 in
theorem wordBytes_lifted (os : Os) (started : os.Started) (H : Type) (enc : TypeId × Value → H) :
    ReturnsInHanded {} Try.checked os 3 .any (Rows.wordBytesSpec.pre6 enc Try.prog Try.f3 Rows.wordBytesRow.domain false) (Rows.wordBytesSpec.post enc Try.prog Try.f3 false true false false) := by
  refine returnsInHanded_of_change_sized (C := Try.checked) own started (by kernel_rfl) Try.func3
    (ChangeSpec.witness6 (enc := enc) (C := Try.checked) false ⟨#[], #[.int .u64 0, .int .i64 0, .string ByteArray.empty, .int .i64 0], []⟩ 8 (by kernel_rfl) (by kernel_rfl) (by kernel_rfl) (by kernel_rfl)) ?_
  intro W base args ds gs before hval0 hW hcnd hsz0 _
  have hval : ∀ (j : Nat) t v, Try.f3.params[j]? = some t → args[j]? = some v → Value.okWide Try.prog W .any base t v := hval0
  have hsz : (DataW.weightsEach Try.prog (Try.f3.params.toList ++ Rows.wordBytesSpec.plain.varTypes Try.prog) (ds ++ gs)).all (· ≤ reachBytes) = true := hsz0
  have hW' := hW
  obtain ⟨p, q, hA0, hV, rfl, hfz, hnd⟩ := hW
  have hA : DataW.TrodAll enc Try.prog W 0 (fun _ => true) true Try.f3.params.toList args.toList ds p := hA0
  rw [Try.params3] at hA hval hsz
  obtain ⟨v0, vs0, d0, ds0, p0, q0, hargs, rfl, rfl, h0, r0⟩ := trodAll_cons hA
  obtain ⟨v1, vs1, d1, ds1, p1, q1, rfl, rfl, rfl, h1, r1⟩ := trodAll_cons r0
  obtain ⟨v2, vs2, d2, ds2, p2, q2, rfl, rfl, rfl, h2, r2⟩ := trodAll_cons r1
  obtain ⟨v3, vs3, d3, ds3, p3, q3, rfl, rfl, rfl, h3, r3⟩ := trodAll_cons r2
  obtain ⟨rfl, rfl, rfl⟩ := trodAll_nil r3
  obtain rfl : args = #[v0, v1, v2, v3] := by cases args; simp_all
  obtain ⟨rfl, rfl⟩ := trodVars_none hV
  obtain ⟨n, rfl, rfl, rfl, w0⟩ := open_int Try.underlying22 (hval 0 22 v0 rfl rfl) h0
  have b0 := bounds_u64 w0
  obtain ⟨n, rfl⟩ := Int.eq_ofNat_of_zero_le b0.1
  obtain ⟨size, rfl, rfl, rfl, w1⟩ := open_int Try.underlying3 (hval 1 3 v1 rfl rfl) h1
  have b1 := bounds_i64 w1
  obtain ⟨s, rfl, rfl, rfl, w2⟩ := open_string Try.underlying9 (hval 2 9 v2 rfl rfl) h2
  have z2 := size_reach (sized_string hsz (j := 2) (t := 9) rfl rfl)
  obtain ⟨pos, rfl, rfl, rfl, w3⟩ := open_int Try.underlying3 (hval 3 3 v3 rfl rfl) h3
  have b3 := bounds_i64 w3
  clear hA0 hval0 hsz0
  simp only [List.append_nil] at hW'
  refine (wordBytes_any n size s pos (by omega) w2 W).mono fun e W' ⟨he, hb⟩ => ?_
  subst he
  exact ⟨_, rfl, law_post 4 Try.underlying4 (of_decide_eq_true (by kernel_rfl)) rfl rfl hW' rfl hb⟩
/-- THE STATEMENT. -/
theorem wordBytes_holds : Rows.WordBytesSaid :=
  OpenClaim.holds_of_wide 3 Try.f3 rfl rfl rfl rfl rfl rfl rfl ⟨rfl, rfl, rfl, rfl, rfl⟩ rfl rfl rfl rfl rfl (by kernel_rfl) Try.func3 (by kernel_rfl)
    (of_decide_eq_true (by kernel_rfl)) (by unfold Func.isWrapper; first | (rw [if_pos (by decide +kernel)]; kernel_rfl) | (rw [if_neg (by decide +kernel)]; exact ⟨rfl, rfl⟩))
    (fun os started H enc _ => wordBytes_lifted os started H enc)
set_option maxRecDepth 100000 in
theorem wordSets_lifted (os : Os) (started : os.Started) (H : Type) (enc : TypeId × Value → H) :
    ReturnsInHanded {} Try.checked os 4 .any (Rows.wordSetsSpec.pre6 enc Try.prog Try.f4 Rows.wordSetsRow.domain false) (Rows.wordSetsSpec.post enc Try.prog Try.f4 false true false false) := by
  refine returnsInHanded_of_change_sized (C := Try.checked) own started (by kernel_rfl) Try.func4
    (ChangeSpec.witness6 (enc := enc) (C := Try.checked) false ⟨#[], #[.string ByteArray.empty, .string ByteArray.empty, .int .i64 0, .int .i64 0, .int .i64 0], []⟩ 8 (by kernel_rfl) (by kernel_rfl) (by kernel_rfl) (by kernel_rfl)) ?_
  intro W base args ds gs before hval0 hW hcnd hsz0 _
  have hval : ∀ (j : Nat) t v, Try.f4.params[j]? = some t → args[j]? = some v → Value.okWide Try.prog W .any base t v := hval0
  have hsz : (DataW.weightsEach Try.prog (Try.f4.params.toList ++ Rows.wordSetsSpec.plain.varTypes Try.prog) (ds ++ gs)).all (· ≤ reachBytes) = true := hsz0
  have hW' := hW
  obtain ⟨p, q, hA0, hV, rfl, hfz, hnd⟩ := hW
  have hA : DataW.TrodAll enc Try.prog W 0 (fun _ => true) true Try.f4.params.toList args.toList ds p := hA0
  rw [Try.params4] at hA hval hsz
  obtain ⟨v0, vs0, d0, ds0, p0, q0, hargs, rfl, rfl, h0, r0⟩ := trodAll_cons hA
  obtain ⟨v1, vs1, d1, ds1, p1, q1, rfl, rfl, rfl, h1, r1⟩ := trodAll_cons r0
  obtain ⟨v2, vs2, d2, ds2, p2, q2, rfl, rfl, rfl, h2, r2⟩ := trodAll_cons r1
  obtain ⟨v3, vs3, d3, ds3, p3, q3, rfl, rfl, rfl, h3, r3⟩ := trodAll_cons r2
  obtain ⟨v4, vs4, d4, ds4, p4, q4, rfl, rfl, rfl, h4, r4⟩ := trodAll_cons r3
  obtain ⟨rfl, rfl, rfl⟩ := trodAll_nil r4
  obtain rfl : args = #[v0, v1, v2, v3, v4] := by cases args; simp_all
  obtain ⟨rfl, rfl⟩ := trodVars_none hV
  obtain ⟨s, rfl, rfl, rfl, w0⟩ := open_string Try.underlying9 (hval 0 9 v0 rfl rfl) h0
  have z0 := size_reach (sized_string hsz (j := 0) (t := 9) rfl rfl)
  obtain ⟨part, rfl, rfl, rfl, w1⟩ := open_string Try.underlying9 (hval 1 9 v1 rfl rfl) h1
  have z1 := size_reach (sized_string hsz (j := 1) (t := 9) rfl rfl)
  obtain ⟨pos, rfl, rfl, rfl, w2⟩ := open_int Try.underlying3 (hval 2 3 v2 rfl rfl) h2
  have b2 := bounds_i64 w2
  obtain ⟨n, rfl, rfl, rfl, w3⟩ := open_int Try.underlying3 (hval 3 3 v3 rfl rfl) h3
  have b3 := bounds_i64 w3
  obtain ⟨t, rfl, rfl, rfl, w4⟩ := open_int Try.underlying3 (hval 4 3 v4 rfl rfl) h4
  have b4 := bounds_i64 w4
  clear hA0 hval0 hsz0
  simp only [List.append_nil] at hW'
  refine (wordSets_any s part pos n t (by omega) (by omega) (by omega) (by omega) w0 w1 W).mono fun e W' ⟨he, hb⟩ => ?_
  subst he
  exact ⟨_, rfl, law_post 4 Try.underlying4 (of_decide_eq_true (by kernel_rfl)) rfl rfl hW' rfl hb⟩
/-- THE STATEMENT. -/
theorem wordSets_holds : Rows.WordSetsSaid :=
  OpenClaim.holds_of_wide 4 Try.f4 rfl rfl rfl rfl rfl rfl rfl ⟨rfl, rfl, rfl, rfl, rfl⟩ rfl rfl rfl rfl rfl (by kernel_rfl) Try.func4 (by kernel_rfl)
    (of_decide_eq_true (by kernel_rfl)) (by unfold Func.isWrapper; first | (rw [if_pos (by decide +kernel)]; kernel_rfl) | (rw [if_neg (by decide +kernel)]; exact ⟨rfl, rfl⟩))
    (fun os started H enc _ => wordSets_lifted os started H enc)
set_option maxRecDepth 100000 in
theorem wordBack_lifted (os : Os) (started : os.Started) (H : Type) (enc : TypeId × Value → H) :
    ReturnsInHanded {} Try.checked os 5 .any (Rows.wordBackSpec.pre6 enc Try.prog Try.f5 Rows.wordBackRow.domain false) (Rows.wordBackSpec.post enc Try.prog Try.f5 false true false false) := by
  refine returnsInHanded_of_change_sized (C := Try.checked) own started (by kernel_rfl) Try.func5
    (ChangeSpec.witness6 (enc := enc) (C := Try.checked) false ⟨#[], #[.int .u64 0, .int .u8 0, .string ByteArray.empty, .int .u16 0], []⟩ 8 (by kernel_rfl) (by kernel_rfl) (by kernel_rfl) (by kernel_rfl)) ?_
  intro W base args ds gs before hval0 hW hcnd hsz0 _
  have hval : ∀ (j : Nat) t v, Try.f5.params[j]? = some t → args[j]? = some v → Value.okWide Try.prog W .any base t v := hval0
  have hsz : (DataW.weightsEach Try.prog (Try.f5.params.toList ++ Rows.wordBackSpec.plain.varTypes Try.prog) (ds ++ gs)).all (· ≤ reachBytes) = true := hsz0
  have hW' := hW
  obtain ⟨p, q, hA0, hV, rfl, hfz, hnd⟩ := hW
  have hA : DataW.TrodAll enc Try.prog W 0 (fun _ => true) true Try.f5.params.toList args.toList ds p := hA0
  rw [Try.params5] at hA hval hsz
  obtain ⟨v0, vs0, d0, ds0, p0, q0, hargs, rfl, rfl, h0, r0⟩ := trodAll_cons hA
  obtain ⟨v1, vs1, d1, ds1, p1, q1, rfl, rfl, rfl, h1, r1⟩ := trodAll_cons r0
  obtain ⟨v2, vs2, d2, ds2, p2, q2, rfl, rfl, rfl, h2, r2⟩ := trodAll_cons r1
  obtain ⟨v3, vs3, d3, ds3, p3, q3, rfl, rfl, rfl, h3, r3⟩ := trodAll_cons r2
  obtain ⟨rfl, rfl, rfl⟩ := trodAll_nil r3
  obtain rfl : args = #[v0, v1, v2, v3] := by cases args; simp_all
  obtain ⟨rfl, rfl⟩ := trodVars_none hV
  obtain ⟨n, rfl, rfl, rfl, w0⟩ := open_int Try.underlying22 (hval 0 22 v0 rfl rfl) h0
  have b0 := bounds_u64 w0
  obtain ⟨n, rfl⟩ := Int.eq_ofNat_of_zero_le b0.1
  obtain ⟨size, rfl, rfl, rfl, w1⟩ := open_int Try.underlying5 (hval 1 5 v1 rfl rfl) h1
  have b1 := bounds_u8 w1
  obtain ⟨size, rfl⟩ := Int.eq_ofNat_of_zero_le b1.1
  obtain ⟨s, rfl, rfl, rfl, w2⟩ := open_string Try.underlying9 (hval 2 9 v2 rfl rfl) h2
  have z2 := size_reach (sized_string hsz (j := 2) (t := 9) rfl rfl)
  obtain ⟨pos, rfl, rfl, rfl, w3⟩ := open_int Try.underlying33 (hval 3 33 v3 rfl rfl) h3
  have b3 := bounds_u16 w3
  obtain ⟨pos, rfl⟩ := Int.eq_ofNat_of_zero_le b3.1
  clear hA0 hval0 hsz0
  simp only [List.append_nil] at hW'
  refine (wordBack_any n size s pos (by omega) (by omega) (by omega) w2 W).mono fun e W' ⟨he, hb⟩ => ?_
  subst he
  exact ⟨_, rfl, law_post 4 Try.underlying4 (of_decide_eq_true (by kernel_rfl)) rfl rfl hW' rfl hb⟩
/-- THE STATEMENT. -/
theorem wordBack_holds : Rows.WordBackSaid :=
  OpenClaim.holds_of_wide 5 Try.f5 rfl rfl rfl rfl rfl rfl rfl ⟨rfl, rfl, rfl, rfl, rfl⟩ rfl rfl rfl rfl rfl (by kernel_rfl) Try.func5 (by kernel_rfl)
    (of_decide_eq_true (by kernel_rfl)) (by unfold Func.isWrapper; first | (rw [if_pos (by decide +kernel)]; kernel_rfl) | (rw [if_neg (by decide +kernel)]; exact ⟨rfl, rfl⟩))
    (fun os started H enc _ => wordBack_lifted os started H enc)
set_option maxRecDepth 100000 in
theorem wordOrder_lifted (os : Os) (started : os.Started) (H : Type) (enc : TypeId × Value → H) :
    ReturnsInHanded {} Try.checked os 6 .any (Rows.wordOrderSpec.pre6 enc Try.prog Try.f6 Rows.wordOrderRow.domain false) (Rows.wordOrderSpec.post enc Try.prog Try.f6 false true false false) := by
  refine returnsInHanded_of_change_sized (C := Try.checked) own started (by kernel_rfl) Try.func6
    (ChangeSpec.witness6 (enc := enc) (C := Try.checked) false ⟨#[], #[.int .u64 0, .int .u64 0, .int .u8 0, .int .u16 0, .int .u16 0], []⟩ 8 (by kernel_rfl) (by kernel_rfl) (by kernel_rfl) (by kernel_rfl)) ?_
  intro W base args ds gs before hval0 hW hcnd hsz0 _
  have hval : ∀ (j : Nat) t v, Try.f6.params[j]? = some t → args[j]? = some v → Value.okWide Try.prog W .any base t v := hval0
  have hsz : (DataW.weightsEach Try.prog (Try.f6.params.toList ++ Rows.wordOrderSpec.plain.varTypes Try.prog) (ds ++ gs)).all (· ≤ reachBytes) = true := hsz0
  have hW' := hW
  obtain ⟨p, q, hA0, hV, rfl, hfz, hnd⟩ := hW
  have hA : DataW.TrodAll enc Try.prog W 0 (fun _ => true) true Try.f6.params.toList args.toList ds p := hA0
  rw [Try.params6] at hA hval hsz
  obtain ⟨v0, vs0, d0, ds0, p0, q0, hargs, rfl, rfl, h0, r0⟩ := trodAll_cons hA
  obtain ⟨v1, vs1, d1, ds1, p1, q1, rfl, rfl, rfl, h1, r1⟩ := trodAll_cons r0
  obtain ⟨v2, vs2, d2, ds2, p2, q2, rfl, rfl, rfl, h2, r2⟩ := trodAll_cons r1
  obtain ⟨v3, vs3, d3, ds3, p3, q3, rfl, rfl, rfl, h3, r3⟩ := trodAll_cons r2
  obtain ⟨v4, vs4, d4, ds4, p4, q4, rfl, rfl, rfl, h4, r4⟩ := trodAll_cons r3
  obtain ⟨rfl, rfl, rfl⟩ := trodAll_nil r4
  obtain rfl : args = #[v0, v1, v2, v3, v4] := by cases args; simp_all
  obtain ⟨rfl, rfl⟩ := trodVars_none hV
  obtain ⟨n, rfl, rfl, rfl, w0⟩ := open_int Try.underlying22 (hval 0 22 v0 rfl rfl) h0
  have b0 := bounds_u64 w0
  obtain ⟨n, rfl⟩ := Int.eq_ofNat_of_zero_le b0.1
  obtain ⟨m, rfl, rfl, rfl, w1⟩ := open_int Try.underlying22 (hval 1 22 v1 rfl rfl) h1
  have b1 := bounds_u64 w1
  obtain ⟨m, rfl⟩ := Int.eq_ofNat_of_zero_le b1.1
  obtain ⟨size, rfl, rfl, rfl, w2⟩ := open_int Try.underlying5 (hval 2 5 v2 rfl rfl) h2
  have b2 := bounds_u8 w2
  obtain ⟨size, rfl⟩ := Int.eq_ofNat_of_zero_le b2.1
  obtain ⟨a, rfl, rfl, rfl, w3⟩ := open_int Try.underlying33 (hval 3 33 v3 rfl rfl) h3
  have b3 := bounds_u16 w3
  obtain ⟨a, rfl⟩ := Int.eq_ofNat_of_zero_le b3.1
  obtain ⟨t, rfl, rfl, rfl, w4⟩ := open_int Try.underlying33 (hval 4 33 v4 rfl rfl) h4
  have b4 := bounds_u16 w4
  obtain ⟨t, rfl⟩ := Int.eq_ofNat_of_zero_le b4.1
  clear hA0 hval0 hsz0
  simp only [List.append_nil] at hW'
  refine (wordOrder_any n m size a t (by omega) (by omega) (by omega) (by omega) (by omega) W).mono fun e W' ⟨he, hb⟩ => ?_
  subst he
  exact ⟨_, rfl, law_post 4 Try.underlying4 (of_decide_eq_true (by kernel_rfl)) rfl rfl hW' rfl hb⟩
/-- THE STATEMENT. -/
theorem wordOrder_holds : Rows.WordOrderSaid :=
  OpenClaim.holds_of_wide 6 Try.f6 rfl rfl rfl rfl rfl rfl rfl ⟨rfl, rfl, rfl, rfl, rfl⟩ rfl rfl rfl rfl rfl (by kernel_rfl) Try.func6 (by kernel_rfl)
    (of_decide_eq_true (by kernel_rfl)) (by unfold Func.isWrapper; first | (rw [if_pos (by decide +kernel)]; kernel_rfl) | (rw [if_neg (by decide +kernel)]; exact ⟨rfl, rfl⟩))
    (fun os started H enc _ => wordOrder_lifted os started H enc)
end Go.Proofs.Ytfgoenailpbogaa
