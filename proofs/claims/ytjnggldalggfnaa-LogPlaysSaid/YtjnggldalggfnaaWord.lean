/-
  Numbers in bytes: what each function of the program and of the document computes.
-/
import Derived.Test.YtjnggldalggfnaaBase
import Derived.Deep.QuietTactic
import Derived.BigQuiet
namespace Go.Proofs.Ytjnggldalggfnaa
open Go.RowKit
theorem extract_mid (s : ByteArray) (a b : Nat) : s.extract a b = ⟨((s.data.toList.drop a).take (b - a)).toArray⟩ := by
  have := ByteArray.extract_mk s.data.toList a b
  rw [Array.toArray_toList] at this; exact this
theorem list_size (s : ByteArray) : s.data.toList.length = s.size := by simp
theorem cut_no (s : ByteArray) (pos size : Int) (h : pos < 0 ∨ size < 0 ∨ (s.size : Int) < pos ∨ (s.size : Int) - pos < size) : PWord.cut s.data.toList pos size = ([], false) := by
  unfold PWord.cut PWord.inside
  rw [list_size]
  have : (decide (0 ≤ pos) && decide (0 ≤ size) && decide (pos + size ≤ (s.size : Int))) = false := by
    simp only [Bool.and_eq_false_iff, decide_eq_false_iff_not]
    omega
  rw [this]; rfl
theorem cut_yes (s : ByteArray) (pos size : Int) (h1 : 0 ≤ pos) (h2 : 0 ≤ size) (h3 : pos + size ≤ (s.size : Int)) : PWord.cut s.data.toList pos size = ((s.data.toList.drop pos.toNat).take size.toNat, true) := by
  unfold PWord.cut PWord.inside
  rw [list_size]
  have : (decide (0 ≤ pos) && decide (0 ≤ size) && decide (pos + size ≤ (s.size : Int))) = true := by simp [h1, h2, h3]
  rw [this]; rfl
set_option maxHeartbeats 1000000 in
theorem cut_any (s : ByteArray) (pos size : Int) (hs : s.size ≤ maxLen) (w : World) : Calls Try.prog 77 #[.string s, .int .i64 pos, .int .i64 size] w fun e w' => e = .returned (.tuple #[.string ⟨(PWord.cut s.data.toList pos size).1.toArray⟩, .bool (PWord.cut s.data.toList pos size).2]) ∧ w = w' := by
  unfold maxLen at hs
  by_cases c1 : pos < 0
  · have hno := Lib.hid (cut_no s pos size (by omega))
    go_enter Try.func77, Try.ntmps77
    go_wp2
    go_ret2
    rw [hno.out]
    exact ⟨rfl, rfl⟩
  by_cases c2 : size < 0
  · have hno := Lib.hid (cut_no s pos size (by omega))
    go_enter Try.func77, Try.ntmps77
    go_wp2
    go_ret2
    rw [hno.out]
    exact ⟨rfl, rfl⟩
  by_cases c3 : (s.size : Int) < pos
  · have hno := Lib.hid (cut_no s pos size (by omega))
    go_enter Try.func77, Try.ntmps77
    go_wp2
    go_ret2
    rw [hno.out]
    exact ⟨rfl, rfl⟩
  by_cases c4 : (s.size : Int) - pos < size
  · have hno := Lib.hid (cut_no s pos size (by omega))
    go_enter Try.func77, Try.ntmps77
    go_wp2
    go_ret2
    rw [hno.out]
    exact ⟨rfl, rfl⟩
  · have hyes := Lib.hid (cut_yes s pos size (by omega) (by omega) (by omega))
    have d0 : 0 ≤ pos := by omega
    have d1 : 0 ≤ size := by omega
    have d2 : pos ≤ (s.size : Int) := by omega
    have d3 : size ≤ (s.size : Int) - pos := by omega
    have d4 : pos + size ≤ (s.size : Int) := by omega
    have d5 : 0 ≤ pos + size := by omega
    have d6 : pos ≤ pos + size := by omega
    clear c1 c2 c3 c4
    go_enter Try.func77, Try.ntmps77
    go_wp2
    go_ret2
    rw [hyes.out]
    refine ⟨?_, rfl⟩
    rw [extract_mid, show (pos + size).toNat - pos.toNat = size.toNat by omega]
    rfl
set_option maxHeartbeats 1000000 in
theorem rcut_any (s : ByteArray) (pos size : Int) (hs : s.size ≤ maxLen) (w : World) : Calls Try.prog 91 #[.string s, .int .i64 pos, .int .i64 size] w fun e w' => e = .returned (.tuple #[.string ⟨(PWord.cut s.data.toList pos size).1.toArray⟩, .bool (PWord.cut s.data.toList pos size).2]) ∧ w = w' := by
  unfold maxLen at hs
  by_cases c1 : pos < 0
  · have hno := Lib.hid (cut_no s pos size (by omega))
    go_enter Try.func91, Try.ntmps91
    go_wp2
    go_ret2
    rw [hno.out]
    exact ⟨rfl, rfl⟩
  by_cases c2 : size < 0
  · have hno := Lib.hid (cut_no s pos size (by omega))
    go_enter Try.func91, Try.ntmps91
    go_wp2
    go_ret2
    rw [hno.out]
    exact ⟨rfl, rfl⟩
  by_cases c3 : (s.size : Int) < pos
  · have hno := Lib.hid (cut_no s pos size (by omega))
    go_enter Try.func91, Try.ntmps91
    go_wp2
    go_ret2
    rw [hno.out]
    exact ⟨rfl, rfl⟩
  by_cases c4 : (s.size : Int) - pos < size
  · have hno := Lib.hid (cut_no s pos size (by omega))
    go_enter Try.func91, Try.ntmps91
    go_wp2
    go_ret2
    rw [hno.out]
    exact ⟨rfl, rfl⟩
  · have hyes := Lib.hid (cut_yes s pos size (by omega) (by omega) (by omega))
    have d0 : 0 ≤ pos := by omega
    have d1 : 0 ≤ size := by omega
    have d2 : pos ≤ (s.size : Int) := by omega
    have d3 : size ≤ (s.size : Int) - pos := by omega
    have d4 : pos + size ≤ (s.size : Int) := by omega
    have d5 : 0 ≤ pos + size := by omega
    have d6 : pos ≤ pos + size := by omega
    clear c1 c2 c3 c4
    go_enter Try.func91, Try.ntmps91
    go_wp2
    go_ret2
    rw [hyes.out]
    refine ⟨?_, rfl⟩
    rw [extract_mid, show (pos + size).toNat - pos.toNat = size.toNat by omega]
    rfl
/-! ### Put -/
theorem be_get (k n j : Nat) (h : j < k) : (PWord.be k n)[j]? = some (UInt8.ofNat (n / 256 ^ (k - 1 - j))) := by
  induction k generalizing n with
  | zero => omega
  | succ k ih =>
    rw [PWord.be]
    by_cases hj : j < k
    · rw [List.getElem?_append_left (by rw [PWord.be_length]; exact hj), ih _ hj, Nat.div_div_eq_div_mul]
      congr 3
      rw [show k + 1 - 1 - j = (k - 1 - j) + 1 by omega, Nat.pow_succ, Nat.mul_comm]
    · have : j = k := by omega
      subst this
      rw [List.getElem?_append_right (by rw [PWord.be_length]; omega), PWord.be_length]
      simp
def zc113 : Array Value := Array.replicate 8 (.int .u8 0)
@[go_sem] theorem zero_arr113 (w : World) : (zeroValue 113).run Try.prog w = .ok (.agg zc113) w := by kernel_rfl
structure BeUpto (C : Array Value) (n i : Nat) : Prop where
  size : C.size = 8
  is : ∀ j, j < i → C[7 - j]? = some (.int .u8 ((UInt8.ofNat (n / 256 ^ j)).toNat : Int))
theorem BeUpto.zero (n : Nat) : BeUpto zc113 n 0 := ⟨by kernel_rfl, fun j h => by omega⟩
theorem BeUpto.at {C : Array Value} {n i : Nat} (h : BeUpto C n i) {k : Nat} (hk : k < 8) : ∃ v, C[k]? = some v := ⟨C[k]'(by rw [h.size]; exact hk), by simp⟩
theorem BeUpto.put {C : Array Value} {n i : Nat} (h : BeUpto C n i) (hk : i < 8) : BeUpto (C.setIfInBounds (7 - i) (.int .u8 ((UInt8.ofNat (n / 256 ^ i)).toNat : Int))) n (i + 1) := by
  refine ⟨by simp [h.size], fun j hj => ?_⟩
  rw [Array.getElem?_setIfInBounds]
  by_cases e : j = i
  · subst e; simp [h.size]; omega
  · rw [if_neg (by omega)]; exact h.is j (by omega)
theorem shr8 (n i : Nat) : (n : Int) / 2 ^ (8 * i) = ((n / 256 ^ i : Nat) : Int) := by
  rw [show (256 : Nat) ^ i = 2 ^ (8 * i) by rw [Nat.pow_mul]]
  push_cast; rfl
theorem byte_int (n : Nat) : Value.int .u8 ((n : Int) % 256) = Value.int .u8 (((UInt8.ofNat n).toNat : Nat) : Int) := by
  rw [UInt8.toNat_ofNat']; congr 1
theorem byte_pow (n i : Nat) : Value.int .u8 ((n : Int) / 256 ^ i % 256) = Value.int .u8 (((UInt8.ofNat (n / 256 ^ i)).toNat : Nat) : Int) := by
  rw [← byte_int, Int.natCast_ediv, Int.natCast_pow]; rfl
theorem conv_be (w : World) (C : Array Value) (n k : Nat) (h1 : 1 ≤ k) (h8 : k ≤ 8) (hC : BeUpto C n 8) : (convert 43 9 (.slice (some ⟨w.heap.size, 8 - k, none⟩) k k)).run Try.prog (w.alloc (.cells C 113)) = .ok (.string ⟨(PWord.be k n).toArray⟩) (w.alloc (.cells C 113)) := by
  have := run_convert_bytes_back (P := Try.prog) (l := PWord.be k n) (w.alloc (.cells C 113)) 43 9 5 ⟨w.heap.size, 8 - k, none⟩ k Try.underlying43 Try.underlying5 Try.underlying9 (by
    intro j hj
    rw [PWord.be_length] at hj
    rw [Addr.add_mid, World.cell?_alloc_new, show 8 - k + j = 7 - (k - 1 - j) by omega, hC.is _ (by omega)]
    have hb := be_get k n j hj
    rw [List.getElem?_eq_getElem (by rw [PWord.be_length]; exact hj)] at hb
    injection hb with hb
    rw [hb])
  rw [PWord.be_length] at this
  exact this
theorem put_no (n : Nat) (size : Int) (h : size < 1 ∨ 8 < size ∨ n / 256 ^ size.toNat ≠ 0) : PWord.put n size = ([], false) := by
  unfold PWord.put PWord.fits
  have : (decide (1 ≤ size) && decide (size ≤ 8) && decide (n / 256 ^ size.toNat = 0)) = false := by
    simp only [Bool.and_eq_false_iff, decide_eq_false_iff_not]
    omega
  rw [this]; rfl
theorem put_yes (n k : Nat) (h1 : 1 ≤ k) (h2 : k ≤ 8) (h : n / 256 ^ k = 0) : PWord.put n k = (PWord.be k n, true) := by
  unfold PWord.put PWord.fits
  have : (decide (1 ≤ (k : Int)) && decide ((k : Int) ≤ 8) && decide (n / 256 ^ ((k : Int)).toNat = 0)) = true := by
    rw [Int.toNat_natCast, h]; simp; omega
  rw [this]; rfl
set_option maxRecDepth 100000 in
set_option maxHeartbeats 1000000 in
theorem put_any (n : Nat) (size : Int) (hn : n < 18446744073709551616) (w : World) : Calls Try.prog 57 #[.int .u64 n, .int .i64 size] w fun e w' => e = .returned (.tuple #[.string ⟨(PWord.put n size).1.toArray⟩, .bool (PWord.put n size).2]) ∧ Below w.heap.size w w' := by
  by_cases c1 : size < 1
  · have hno := Lib.hid (put_no n size (by omega))
    go_enter Try.func57, Try.ntmps57
    go_wp2
    go_ret2
    rw [hno.out]
    exact ⟨rfl, Below.refl _ _⟩
  by_cases c2 : 8 < size
  · have hno := Lib.hid (put_no n size (by omega))
    go_enter Try.func57, Try.ntmps57
    go_wp2
    go_ret2
    rw [hno.out]
    exact ⟨rfl, Below.refl _ _⟩
  obtain ⟨k, rfl⟩ := Int.eq_ofNat_of_zero_le (show 0 ≤ size by omega)
  have hk1 : 1 ≤ k := by omega
  have hk8 : k ≤ 8 := by omega
  have hsh0 := shr8 n k
  by_cases c3 : n / 256 ^ k = 0
  · have hyes := Lib.hid (put_yes n k (by omega) (by omega) c3)
    have htest : ((n : Int) / 2 ^ (8 * k) != 0) = false := by rw [hsh0, c3]; rfl
    clear hsh0 c3
    go_enter Try.func57, Try.ntmps57
    go_wp2
    all_goals
      go_loopw [25] (fun iv wr => ∃ (i : Nat) (C : Array Value), i ≤ 8 ∧ iv = .int .i64 i ∧ BeUpto C n i ∧ wr = w.alloc (.cells C 113)) (fun iv _ => 8 - (intOf iv).toNat)
      case atStart => exact ⟨0, _, by omega, rfl, BeUpto.zero n, rfl⟩
      case round =>
        obtain ⟨i, C, hi, rfl, hC, rfl⟩ := hrel
        by_cases hlt : i < 8
        · obtain ⟨v, hv⟩ := hC.at (k := 7 - i) (by omega)
          have hsh := shr8 n i
          have e7 : (7 - (i : Int)).toNat = 7 - i := by omega
          have e7' : 0 ≤ 7 - (i : Int) := by omega
          have e7'' : 7 - (i : Int) < 8 := by omega
          have hbi := Lib.hid (byte_int (n / 256 ^ i))
          clear htest
          go_wp2
          refine ⟨⟨i + 1, _, by omega, by go_num, hC.put hlt, by rw [byte_pow]⟩, by simp [intOf]; omega⟩
        · have hi8 : i = 8 := by omega
          clear hlt hi
          subst hi8
          have e8 : (8 - (k : Int)).toNat = 8 - k := by omega
          have e8' : 0 ≤ 8 - (k : Int) := by omega
          have e8'' : 8 - (k : Int) ≤ 8 := by omega
          have e88 : 8 - (8 - k) = k := by omega
          have hcv := conv_be w C n k hk1 hk8 hC
          clear htest
          go_wp2
          go_ret2
          rw [hyes.out]
          exact ⟨rfl, (Below.refl _ _).alloc (Nat.le_refl _) _⟩
  · have hno := Lib.hid (put_no n k (by rw [Int.toNat_natCast]; omega))
    have htest : ((n : Int) / 2 ^ (8 * k) != 0) = true := by rw [hsh0, bne_iff_ne]; omega
    have hk7 : (k : Int) < 8 := by
      have : k ≠ 8 := by rintro rfl; exact c3 (Nat.div_eq_of_lt hn)
      omega
    clear hsh0 c3
    go_enter Try.func57, Try.ntmps57
    go_wp2
    go_ret2
    rw [hno.out]
    exact ⟨rfl, Below.refl _ _⟩
theorem be_cons (j n : Nat) : PWord.be (j + 1) n = UInt8.ofNat (n / 256 ^ j) :: PWord.be j n := by
  induction j generalizing n with
  | zero => simp [PWord.be]
  | succ j ih =>
    rw [PWord.be, ih, PWord.be, Nat.div_div_eq_div_mul, List.cons_append]
    congr 3
    rw [Nat.pow_succ, Nat.mul_comm]
def putL (k n j : Nat) : List UInt8 := List.replicate (k - j) 0 ++ PWord.be j n
theorem putL_length (k n j : Nat) (h : j ≤ k) : (putL k n j).length = k := by simp [putL, PWord.be_length]; omega
theorem putL_set (k n j : Nat) (h : j < k) : (putL k n j).set (k - 1 - j) (UInt8.ofNat (n / 256 ^ j)) = putL k n (j + 1) := by
  unfold putL
  rw [be_cons, show k - j = (k - 1 - j) + 1 by omega, List.replicate_succ', List.append_assoc, List.set_append_right _ _ (by simp), show k - (j + 1) = k - 1 - j by omega]
  simp
theorem div_pow_step (n j : Nat) : ((n / 256 ^ j : Nat) : Int) / 256 = ((n / 256 ^ (j + 1) : Nat) : Int) := by
  rw [Nat.pow_succ, ← Nat.div_div_eq_div_mul]; omega
set_option maxRecDepth 100000 in
set_option maxHeartbeats 1000000 in
theorem rput_any (n : Nat) (size : Int) (hn : n < 18446744073709551616) (w : World) : Calls Try.prog 88 #[.int .u64 n, .int .i64 size] w fun e w' => e = .returned (.tuple #[.string ⟨(PWord.put n size).1.toArray⟩, .bool (PWord.put n size).2]) ∧ Below w.heap.size w w' := by
  by_cases c1 : size < 1
  · have hno := Lib.hid (put_no n size (by omega))
    go_enter Try.func88, Try.ntmps88
    go_wp2
    go_ret2
    rw [hno.out]
    exact ⟨rfl, Below.refl _ _⟩
  by_cases c2 : 8 < size
  · have hno := Lib.hid (put_no n size (by omega))
    go_enter Try.func88, Try.ntmps88
    go_wp2
    go_ret2
    rw [hno.out]
    exact ⟨rfl, Below.refl _ _⟩
  obtain ⟨k, rfl⟩ := Int.eq_ofNat_of_zero_le (show 0 ≤ size by omega)
  have hk1 : 1 ≤ k := by omega
  have hk8 : k ≤ 8 := by omega
  have hmk := make_bytes k (by omega)
  go_enter Try.func88, Try.ntmps88
  go_wp2
  clear hmk
  have hS0 := Sl.of_made w w.heap.size (Nat.le_refl _) 5 k (by unfold maxLen; omega)
  go_loopw [0, 7] (fun nv iv wr => ∃ j : Nat, j ≤ k ∧ iv = .int .i64 ((k : Int) - 1 - j) ∧ nv = .int .u64 ((n / 256 ^ j : Nat) : Int) ∧ Sl wr w.heap.size 5 1 (.slice (some ⟨w.heap.size, 0, none⟩) k k) k (bytesV (putL k n j)) ∧ Below w.heap.size w wr) (fun _ iv _ => (intOf iv + 1).toNat)
  case atStart => exact ⟨0, by omega, by simp, by simp, by simpa [putL, PWord.be] using hS0, (Below.refl _ _).alloc (Nat.le_refl _) _⟩
  case round =>
    obtain ⟨j, hj, rfl, rfl, hS, hB⟩ := hrel
    clear hS0
    have hle := Nat.div_le_self n (256 ^ j)
    by_cases hlt : j < k
    · have hcell := hS.byte (j := k - 1 - j) (by omega)
      have hfro := hS.unshut (j := k - 1 - j) (by omega)
      rw [Nat.zero_add] at hcell hfro
      have hset := fun v => Lib.hid (hS.set (j := k - 1 - j) (by omega) v)
      have hd := Lib.hid (div_pow_step n j)
      have hbi := Lib.hid (byte_int (n / 256 ^ j))
      have e1 : ((k : Int) - 1 - j).toNat = k - 1 - j := by omega
      have e2 : 0 ≤ (k : Int) - 1 - j := by omega
      have e3 : (k : Int) - 1 - j < k := by omega
      have hps := Lib.hid (putL_set k n j hlt)
      clear hS
      generalize (putL k n j).getD (k - 1 - j) 0 = b at *
      generalize hq : n / 256 ^ j = q at *
      clear hq
      go_wp2
      refine ⟨⟨j + 1, by omega, by rw [show ((k : Int) - 1 - j - 1) = (k : Int) - 1 - ((j + 1 : Nat) : Int) by omega], by rw [← hd.out], ?_, hB.setCell (Nat.le_refl _) _⟩, by simp [intOf]; omega⟩
      have h := (hset (.int .u8 ((UInt8.ofNat q).toNat : Int))).out
      rw [bytesV_set, hps.out, Nat.zero_add, ← hbi.out] at h
      exact h
    · have hjk : j = k := by omega
      clear hlt hj
      subst hjk
      have e1 : ¬ (0 : Int) ≤ (j : Int) - 1 - j := by omega
      have hL : putL j n j = PWord.be j n := by simp [putL]
      rw [hL] at hS
      have hcv := conv_sl hS
      clear hS hL
      by_cases c3 : n / 256 ^ j = 0
      · have hyes := Lib.hid (put_yes n j (by omega) (by omega) c3)
        rw [c3]
        clear c3 hle
        go_wp2
        go_ret2
        rw [hyes.out]
        exact ⟨rfl, hB⟩
      · have hno := Lib.hid (put_no n j (by rw [Int.toNat_natCast]; omega))
        have htest : (((n / 256 ^ j : Nat) : Int) != 0) = true := by rw [bne_iff_ne]; omega
        generalize n / 256 ^ j = q at *
        have c3' := Lib.hid c3
        clear c3
        go_wp2
        go_ret2
        rw [hno.out]
        exact ⟨rfl, hB⟩
/-! ### Get -/
theorem or_byte (m b : Nat) (hm : m < 72057594037927936) (hb : b < 256) : bits BinOp.or IntKind.u64 ((m : Int) * 256) (b : Int) = ((256 * m + b : Nat) : Int) := by
  have h := u64_or_nat (256 * m) b (by omega) (by omega)
  have e : (m : Int) * 256 = ((256 * m : Nat) : Int) := by omega
  rw [e, h]
  congr 1
  exact nat_join 8 (256 * m) b (by omega) (by omega)
theorem val_take_lt (s : ByteArray) (k : Nat) (h : k ≤ s.size) (h7 : k ≤ 7) : PWord.val (s.data.toList.take k) < 72057594037927936 := by
  have := PWord.val_lt k (s.data.toList.take k) (by rw [List.length_take, list_size]; omega)
  have h2 : 256 ^ k ≤ 256 ^ 7 := Nat.pow_le_pow_right (by decide) h7
  have h3 : (256 : Nat) ^ 7 = 72057594037927936 := by decide
  omega
theorem val_take_succ (s : ByteArray) (k : Nat) (h : k < s.size) : PWord.val (s.data.toList.take (k + 1)) = 256 * PWord.val (s.data.toList.take k) + s[k].toNat := by
  rw [take_snoc s k h, PWord.val_snoc]
theorem get_no (s : ByteArray) (pos size : Int) (h : (PWord.cut s.data.toList pos size).2 = false ∨ size < 1 ∨ 8 < size) : PWord.get s.data.toList pos size = (0, false) := by
  unfold PWord.get
  have hc : (PWord.cut s.data.toList pos size).2 = PWord.inside s.data.toList.length pos size := by
    unfold PWord.cut; split <;> simp_all
  rw [hc] at h
  have : (PWord.inside s.data.toList.length pos size && decide (1 ≤ size) && decide (size ≤ 8)) = false := by
    simp only [Bool.and_eq_false_iff, decide_eq_false_iff_not]
    rcases h with h | h | h
    · exact .inl (.inl h)
    · exact .inl (.inr (by omega))
    · exact .inr (by omega)
  rw [this]; rfl
theorem get_yes (s : ByteArray) (pos size : Int) (h : (PWord.cut s.data.toList pos size).2 = true) (h1 : 1 ≤ size) (h8 : size ≤ 8) : PWord.get s.data.toList pos size = (PWord.val (PWord.cut s.data.toList pos size).1, true) ∧ ((PWord.cut s.data.toList pos size).1.length : Int) = size := by
  have hc : (PWord.cut s.data.toList pos size).2 = PWord.inside s.data.toList.length pos size := by
    unfold PWord.cut; split <;> simp_all
  rw [hc] at h
  unfold PWord.get PWord.cut
  rw [h, decide_eq_true h1, decide_eq_true h8]
  refine ⟨rfl, ?_⟩
  rw [if_pos rfl]
  unfold PWord.inside at h
  simp only [Bool.and_eq_true, decide_eq_true_eq] at h
  rw [List.length_take, List.length_drop]
  omega
set_option maxRecDepth 100000 in
set_option maxHeartbeats 1000000 in
theorem get_any (s : ByteArray) (pos size : Int) (hs : s.size ≤ maxLen) (w : World) : Calls Try.prog 62 #[.string s, .int .i64 pos, .int .i64 size] w fun e w' => e = .returned (.tuple #[.int .u64 ((PWord.get s.data.toList pos size).1 : Int), .bool (PWord.get s.data.toList pos size).2]) ∧ Below w.heap.size w w' := by
  cases hc : (PWord.cut s.data.toList pos size).2
  · have hno := Lib.hid (get_no s pos size (.inl hc))
    go_enter Try.func62, Try.ntmps62
    go_wp2_with fail
    refine (cut_any _ _ _ hs _).mono ?_; rintro e w' ⟨rfl, rfl⟩
    rw [hc]
    clear hc
    go_wp2
    go_ret2
    rw [hno.out]
    exact ⟨rfl, Below.refl _ _⟩
  · by_cases c1 : size < 1
    · have hno := Lib.hid (get_no s pos size (by omega))
      go_enter Try.func62, Try.ntmps62
      go_wp2_with fail
      refine (cut_any _ _ _ hs _).mono ?_; rintro e w' ⟨rfl, rfl⟩
      rw [hc]
      clear hc
      go_wp2
      go_ret2
      rw [hno.out]
      exact ⟨rfl, Below.refl _ _⟩
    by_cases c2 : 8 < size
    · have hno := Lib.hid (get_no s pos size (by omega))
      go_enter Try.func62, Try.ntmps62
      go_wp2_with fail
      refine (cut_any _ _ _ hs _).mono ?_; rintro e w' ⟨rfl, rfl⟩
      rw [hc]
      clear hc
      go_wp2
      go_ret2
      rw [hno.out]
      exact ⟨rfl, Below.refl _ _⟩
    obtain ⟨hy, hl⟩ := get_yes s pos size hc (by omega) (by omega)
    have hyes := Lib.hid hy
    clear hy
    go_enter Try.func62, Try.ntmps62
    go_wp2_with fail
    refine (cut_any _ _ _ hs _).mono ?_; rintro e w' ⟨rfl, rfl⟩
    rw [hc]
    clear hc
    generalize (PWord.cut s.data.toList pos size).1 = L at *
    obtain ⟨t, rfl⟩ : ∃ t : ByteArray, L = t.data.toList := ⟨⟨L.toArray⟩, rfl⟩
    have ht : (t.size : Int) = size := by rw [← hl, list_size]
    have ht8 : t.size ≤ 8 := by omega
    have ht' := Lib.hid ht
    clear hl ht
    have hS0 := Sl.of_string w w.heap.size (Nat.le_refl _) t 5 (by unfold maxLen; omega) _ rfl
    go_wp2
    generalize grownCap w t.size 0 5 = cp at *
    go_loopw [6, 31] (fun nv iv wr => ∃ i : Nat, i ≤ t.size ∧ iv = .int .i64 i ∧ nv = .int .u64 (PWord.val (t.data.toList.take i)) ∧ Sl wr w.heap.size 5 1 (.slice (some ⟨w.heap.size, 0, none⟩) t.size cp) t.size (bytesV t.data.toList) ∧ Below w.heap.size w wr) (fun _ iv _ => t.size - (intOf iv).toNat)
    case atStart => exact ⟨0, by omega, rfl, by simp [PWord.val], hS0, ((Below.refl _ _).alloc (Nat.le_refl _) _).drew⟩
    case round =>
      obtain ⟨i, hi, rfl, rfl, hS, hB⟩ := hrel
      clear hS0
      by_cases hlt : i < t.size
      · have hcell := hS.byte hlt
        rw [Nat.zero_add] at hcell
        have hgd : t.data.toList.getD i 0 = t[i] := by
          have hl : i < t.data.toList.length := by rw [list_size]; exact hlt
          rw [List.getD_eq_getElem?_getD, List.getElem?_eq_getElem hl]; rfl
        rw [hgd] at hcell
        have hv := val_take_lt t i (by omega) (by omega)
        have hsu := Lib.hid (val_take_succ t i hlt)
        have hb := t[i].toNat_lt
        have hor := or_byte (PWord.val (t.data.toList.take i)) t[i].toNat hv hb
        have hwr : (PWord.val (t.data.toList.take i) : Int) * 256 < 18446744073709551616 := by omega
        have hS' := Lib.hid hS
        clear hS hgd
        generalize PWord.val (t.data.toList.take i) = v at *
        generalize t[i].toNat = b at *
        go_wp2
        refine ⟨⟨i + 1, by omega, by go_num, ?_, hS'.out, hB⟩, by simp [intOf]; omega⟩
        rw [hsu.out]
        first | rfl | (congr 1; omega)
      · have hit : i = t.size := by omega
        have hal := Lib.hid (show t.data.toList.take i = t.data.toList from List.take_of_length_le (by simp; omega))
        clear hit hS
        go_wp2
        go_ret2
        rw [hyes.out, hal.out]
        exact ⟨rfl, hB⟩
set_option maxRecDepth 100000 in
set_option maxHeartbeats 1000000 in
theorem rget_any (s : ByteArray) (pos size : Int) (hs : s.size ≤ maxLen) (w : World) : Calls Try.prog 87 #[.string s, .int .i64 pos, .int .i64 size] w fun e w' => e = .returned (.tuple #[.int .u64 ((PWord.get s.data.toList pos size).1 : Int), .bool (PWord.get s.data.toList pos size).2]) ∧ w = w' := by
  cases hc : (PWord.cut s.data.toList pos size).2
  · have hno := Lib.hid (get_no s pos size (.inl hc))
    go_enter Try.func87, Try.ntmps87
    go_wp2_with fail
    refine (rcut_any _ _ _ hs _).mono ?_; rintro e w' ⟨rfl, rfl⟩
    rw [hc]
    clear hc
    go_wp2
    go_ret2
    rw [hno.out]
    exact ⟨rfl, rfl⟩
  · by_cases c1 : size < 1
    · have hno := Lib.hid (get_no s pos size (by omega))
      go_enter Try.func87, Try.ntmps87
      go_wp2_with fail
      refine (rcut_any _ _ _ hs _).mono ?_; rintro e w' ⟨rfl, rfl⟩
      rw [hc]
      clear hc
      go_wp2
      go_ret2
      rw [hno.out]
      exact ⟨rfl, rfl⟩
    by_cases c2 : 8 < size
    · have hno := Lib.hid (get_no s pos size (by omega))
      go_enter Try.func87, Try.ntmps87
      go_wp2_with fail
      refine (rcut_any _ _ _ hs _).mono ?_; rintro e w' ⟨rfl, rfl⟩
      rw [hc]
      clear hc
      go_wp2
      go_ret2
      rw [hno.out]
      exact ⟨rfl, rfl⟩
    obtain ⟨hy, hl⟩ := get_yes s pos size hc (by omega) (by omega)
    have hyes := Lib.hid hy
    clear hy
    go_enter Try.func87, Try.ntmps87
    go_wp2_with fail
    refine (rcut_any _ _ _ hs _).mono ?_; rintro e w' ⟨rfl, rfl⟩
    rw [hc]
    clear hc
    generalize (PWord.cut s.data.toList pos size).1 = L at *
    obtain ⟨t, rfl⟩ : ∃ t : ByteArray, L = t.data.toList := ⟨⟨L.toArray⟩, rfl⟩
    have ht : (t.size : Int) = size := by rw [← hl, list_size]
    have ht8 : t.size ≤ 8 := by omega
    clear hl
    subst ht
    rw [show (⟨t.data.toList.toArray⟩ : ByteArray) = t from rfl]
    go_wp2
    go_loop [10, 11] (fun nv iv => ∃ i : Nat, i ≤ t.size ∧ iv = .int .i64 i ∧ nv = .int .u64 (PWord.val (t.data.toList.take i))) (fun _ iv => t.size - (intOf iv).toNat)
    case atStart => exact ⟨0, by omega, rfl, by simp [PWord.val]⟩
    case round =>
      obtain ⟨i, hi, rfl, rfl⟩ := hrel
      by_cases hlt : i < t.size
      · have hv := val_take_lt t i (by omega) (by omega)
        have hsu := Lib.hid (val_take_succ t i hlt)
        have hb := t[i].toNat_lt
        have hwr : 256 * (PWord.val (t.data.toList.take i) : Int) < 18446744073709551616 := by omega
        have hwr2 : 256 * (PWord.val (t.data.toList.take i) : Int) + t[i].toNat < 18446744073709551616 := by omega
        generalize PWord.val (t.data.toList.take i) = v at *
        go_wp2
        refine ⟨⟨i + 1, by omega, by go_num, ?_⟩, by simp [intOf]; omega⟩
        rw [hsu.out]
        first | rfl | (congr 1; omega)
      · have hit : i = t.size := by omega
        have hal := Lib.hid (show t.data.toList.take i = t.data.toList from List.take_of_length_le (by simp; omega))
        clear hit
        go_wp2
        go_ret2
        rw [hyes.out, hal.out]
        exact ⟨rfl, rfl⟩
/-! ### Set -/
theorem ret_sb {a b : ByteArray} {c : Bool} (h : a = b) : Ending.returned (.tuple #[.string a, .bool c]) = Ending.returned (.tuple #[.string b, .bool c]) := by rw [h]
theorem cut_snd (s : ByteArray) (pos size : Int) : (PWord.cut s.data.toList pos size).2 = PWord.inside s.size pos size := by
  unfold PWord.cut; rw [list_size]; split <;> simp_all
theorem inside_iff (len : Nat) (pos size : Int) : PWord.inside len pos size = true ↔ 0 ≤ pos ∧ 0 ≤ size ∧ pos + size ≤ len := by
  unfold PWord.inside; simp [and_assoc]
theorem set_no (s part : ByteArray) (pos : Int) (h : PWord.inside s.size pos part.size = false) : PWord.set' s.data.toList pos part.data.toList = ([], false) := by
  unfold PWord.set'; rw [list_size, list_size, h]; rfl
theorem set_yes (s part : ByteArray) (pos : Int) (h : PWord.inside s.size pos part.size = true) : PWord.set' s.data.toList pos part.data.toList = (s.data.toList.take pos.toNat ++ part.data.toList ++ s.data.toList.drop (pos.toNat + part.size), true) := by
  unfold PWord.set'; rw [list_size, list_size, h]; rfl
theorem app_app (s part : ByteArray) (a b : Nat) : s.extract 0 a ++ part ++ s.extract b s.size = ⟨(s.data.toList.take a ++ part.data.toList ++ s.data.toList.drop b).toArray⟩ := by
  rw [extract_take, extract_mid, app_mk]
  have e : (⟨(s.data.toList.take a).toArray⟩ : ByteArray) ++ part = ⟨(s.data.toList.take a ++ part.data.toList).toArray⟩ := by
    have := app_mk ⟨(s.data.toList.take a).toArray⟩ part.data.toList
    simpa using this
  rw [e]
  congr 1
  have h2 : (s.data.toList.drop b).take (s.size - b) = s.data.toList.drop b := List.take_of_length_le (by rw [List.length_drop, list_size]; omega)
  simp [h2]
def setL (s part : List UInt8) (p i : Nat) : List UInt8 := s.take p ++ part.take i ++ s.drop (p + i)
theorem setL_length (s part : List UInt8) (p i : Nat) (h : p + part.length ≤ s.length) (hi : i ≤ part.length) : (setL s part p i).length = s.length := by
  simp [setL]; omega
theorem setL_step (s part : ByteArray) (p i : Nat) (h : p + part.size ≤ s.size) (hi : i < part.size) : (setL s.data.toList part.data.toList p i).set (p + i) part[i] = setL s.data.toList part.data.toList p (i + 1) := by
  unfold setL
  have hl : (s.data.toList.take p ++ part.data.toList.take i).length = p + i := by
    rw [List.length_append, List.length_take, List.length_take, list_size, list_size]; omega
  rw [take_snoc part i hi, List.set_append_right _ _ (by omega), hl, Nat.sub_self, ← List.append_assoc (s.data.toList.take p), List.append_assoc (s.data.toList.take p ++ part.data.toList.take i)]
  congr 1
  have hd : s.data.toList.drop (p + i) = s.data.toList[p + i]'(by rw [list_size]; omega) :: s.data.toList.drop (p + (i + 1)) := by
    rw [List.drop_eq_getElem_cons (by rw [list_size]; omega)]; rfl
  rw [hd, List.set_cons_zero]; rfl
/-! ### Up -/
theorem up_no (n t : Int) (h : n ≤ 0 ∨ t ≤ 0 ∨ n > 4611686018427387904 - t) : PWord.up n t = 0 := by unfold PWord.up; rw [if_pos h]
theorem up_yes (n t : Int) (h1 : 0 < n) (h2 : 0 < t) (h3 : n ≤ 4611686018427387904 - t) : PWord.up n t = (n + t - 1) / t * t := by unfold PWord.up; rw [if_neg (by omega)]
theorem up_range (n t : Int) (h1 : 0 < n) (h2 : 0 < t) (h3 : n ≤ 4611686018427387904 - t) : 0 ≤ (n + t - 1) / t ∧ (n + t - 1) / t ≤ 4611686018427387904 ∧ 0 ≤ (n + t - 1) / t * t ∧ (n + t - 1) / t * t ≤ 4611686018427387904 ∧ n ≤ (n + t - 1) / t * t ∧ (n + t - 1) / t * t < n + t := by
  have e := Int.emod_add_mul_ediv (n + t - 1) t
  have m0 := Int.emod_nonneg (n + t - 1) (show t ≠ 0 by omega)
  have m1 := Int.emod_lt_of_pos (n + t - 1) h2
  have d0 := Int.ediv_nonneg (show 0 ≤ n + t - 1 by omega) (show 0 ≤ t by omega)
  have d1 := Int.ediv_le_self t (show 0 ≤ n + t - 1 by omega)
  rw [Int.mul_comm t] at e
  generalize (n + t - 1) / t * t = q at *
  generalize (n + t - 1) / t = d at *
  omega
theorem up_mod (n t : Int) (_h1 : 0 < n) (h2 : 0 < t) : (n % t = 0 → (n + t - 1) / t * t = n) ∧ (n % t ≠ 0 → (n + t - 1) / t * t = n - n % t + t) := by
  have e := Int.emod_add_mul_ediv n t
  have m0 := Int.emod_nonneg n (show t ≠ 0 by omega)
  have m1 := Int.emod_lt_of_pos n h2
  constructor
  · intro h
    have h3 : n + t - 1 = (t - 1) + t * (n / t) := by omega
    rw [h3, Int.add_mul_ediv_left _ _ (by omega), Int.ediv_eq_zero_of_lt (by omega) (by omega), Int.zero_add, Int.mul_comm]
    omega
  · intro h
    have h3 : n + t - 1 = (n % t - 1) + t * (n / t + 1) := by rw [Int.mul_add]; omega
    rw [h3, Int.add_mul_ediv_left _ _ (by omega), Int.ediv_eq_zero_of_lt (by omega) (by omega), Int.zero_add, Int.add_mul, Int.mul_comm (n / t)]
    omega
end Go.Proofs.Ytjnggldalggfnaa
