/-
  Plain facts, no program in sight: sums (CRC-32C as a shift register), numbers in bytes. Nothing here speaks of the model.
-/
import Derived.WalkKit
namespace PSum
abbrev W := BitVec 32
def poly : W := 0x82F63B78#32
def step (c : W) : W := (c >>> 1) ^^^ (if c.getLsbD 0 then poly else 0#32)
def stepN : Nat → W → W
  | 0, c => c
  | n+1, c => stepN n (step c)
def ext (b : UInt8) : W := BitVec.ofNat 32 b.toNat
def upd (c : W) (b : UInt8) : W := stepN 8 (c ^^^ ext b)
def run (c : W) (l : List UInt8) : W := l.foldl upd c
def more (c : W) (l : List UInt8) : W := ~~~ (run (~~~ c) l)
def of (l : List UInt8) : W := more 0 l
def le4 (c : W) : List UInt8 := [UInt8.ofNat c.toNat, UInt8.ofNat (c.toNat / 256), UInt8.ofNat (c.toNat / 65536), UInt8.ofNat (c.toNat / 16777216)]
def sealL (l : List UInt8) : List UInt8 := l ++ le4 (of l)

theorem step_xor (a b : W) : step (a ^^^ b) = step a ^^^ step b := by
  unfold step
  have h : (a ^^^ b).getLsbD 0 = (a.getLsbD 0 ^^ b.getLsbD 0) := by simp
  rw [h]
  cases ha : a.getLsbD 0 <;> cases hb : b.getLsbD 0 <;> simp [BitVec.ushiftRight_xor_distrib]
  · ac_rfl
  · ac_rfl
  · rw [show ∀ x y p : W, x ^^^ p ^^^ (y ^^^ p) = x ^^^ y ^^^ (p ^^^ p) from fun x y p => by ac_rfl]; simp

theorem stepN_xor (n : Nat) (a b : W) : stepN n (a ^^^ b) = stepN n a ^^^ stepN n b := by
  induction n generalizing a b with
  | zero => rfl
  | succ n ih => simp [stepN, step_xor, ih]
theorem step_zero : step 0 = 0 := by decide
theorem stepN_zero (n : Nat) : stepN n 0 = 0 := by
  induction n with
  | zero => rfl
  | succ n ih => simp only [stepN, step_zero, ih]
theorem step_eq_zero {c : W} (h : step c = 0) : c = 0 := by
  unfold step at h
  have t : (c >>> 1).getLsbD 31 = false := by simp
  cases hc : c.getLsbD 0 with
  | true =>
    rw [hc] at h
    have : ((c >>> 1) ^^^ poly).getLsbD 31 = true := by rw [BitVec.getLsbD_xor, t]; decide
    simp only [if_true] at h
    rw [h] at this; simp at this
  | false =>
    rw [hc] at h
    simp only [Bool.false_eq_true, if_false, BitVec.xor_zero] at h
    apply BitVec.eq_of_getLsbD_eq
    intro i hi
    rw [show (0 : W).getLsbD i = false by simp]
    cases i with
    | zero => exact hc
    | succ i =>
      have := congrArg (fun x : W => x.getLsbD i) h
      simp at this
      rw [Nat.add_comm] ; exact this
theorem stepN_eq_zero (n : Nat) {c : W} (h : stepN n c = 0) : c = 0 := by
  induction n generalizing c with
  | zero => exact h
  | succ n ih => exact step_eq_zero (ih h)
theorem stepN_add (m n : Nat) (c : W) : stepN (m + n) c = stepN n (stepN m c) := by
  induction m generalizing c with
  | zero => simp [stepN]
  | succ m ih => rw [Nat.succ_add]; simp [stepN, ih]
/-! the table -/
theorem step_even {c : W} (h : c.getLsbD 0 = false) : step c = c >>> 1 := by unfold step; rw [h]; simp
theorem stepN_low (n : Nat) {c : W} (h : ∀ i, i < n → c.getLsbD i = false) : stepN n c = c >>> n := by
  induction n generalizing c with
  | zero => simp [stepN]
  | succ n ih =>
    rw [stepN, step_even (h 0 (by omega)), ih (by intro i hi; simp; exact h (1+i) (by omega)), ← BitVec.shiftRight_add, Nat.add_comm]
theorem lo_hi (c : W) : c = (c &&& 0xFF#32) ^^^ (c &&& 0xFFFFFF00#32) := by
  apply BitVec.eq_of_getLsbD_eq
  intro i hi
  rw [BitVec.getLsbD_xor, BitVec.getLsbD_and, BitVec.getLsbD_and]
  have : ((0xFFFFFF00#32).getLsbD i) = !((0xFF#32).getLsbD i) := by
    revert hi; revert i; decide
  rw [this]
  cases c.getLsbD i <;> cases (0xFF#32).getLsbD i <;> rfl
theorem hi_shift (c : W) : (c &&& 0xFFFFFF00#32) >>> 8 = c >>> 8 := by
  apply BitVec.eq_of_getLsbD_eq
  intro i hi
  simp only [BitVec.getLsbD_ushiftRight, BitVec.getLsbD_and]
  by_cases h : 8 + i < 32
  · have : ∀ i, i < 32 → 8 + i < 32 → (0xFFFFFF00#32).getLsbD (8+i) = true := by decide
    rw [this i hi h, Bool.and_true]
  · rw [BitVec.getLsbD_of_ge c (8+i) (by omega)]; rfl
theorem stepN8 (c : W) : stepN 8 c = stepN 8 (c &&& 0xFF#32) ^^^ c >>> 8 := by
  rw [lo_hi c, stepN_xor, ← lo_hi c, stepN_low 8 (c := c &&& 0xFFFFFF00#32), hi_shift]
  intro i hi
  rw [BitVec.getLsbD_and]
  have : ∀ i, i < 8 → (0xFFFFFF00#32).getLsbD i = false := by decide
  rw [this i hi, Bool.and_false]
theorem ext_lt (b : UInt8) : (ext b).toNat = b.toNat := by
  have := b.toNat_lt
  simp [ext, BitVec.toNat_ofNat]
theorem ext_shift (b : UInt8) : ext b >>> 8 = 0#32 := by
  apply BitVec.eq_of_toNat_eq
  have := b.toNat_lt
  rw [BitVec.toNat_ushiftRight, ext_lt, Nat.shiftRight_eq_div_pow]
  simp only [BitVec.toNat_ofNat]; omega
/-- what the table holds at a byte. -/
def tab (n : Nat) : W := stepN 8 (BitVec.ofNat 32 n)
theorem upd_tab (c : W) (b : UInt8) : upd c b = tab (c.toNat % 256 ^^^ b.toNat) ^^^ c >>> 8 := by
  unfold upd tab
  rw [stepN8, BitVec.ushiftRight_xor_distrib, ext_shift, BitVec.xor_zero]
  congr 2
  apply BitVec.eq_of_toNat_eq
  have := b.toNat_lt
  have h2 : c.toNat % 256 ^^^ b.toNat < 2^8 := Nat.xor_lt_two_pow (by omega) (by omega)
  rw [BitVec.toNat_and, BitVec.toNat_xor, ext_lt, BitVec.toNat_ofNat, BitVec.toNat_ofNat]
  rw [show 255 % 2^32 = 2^8 - 1 by decide, Nat.and_two_pow_sub_one_eq_mod, Nat.xor_mod_two_pow, Nat.mod_eq_of_lt (a := b.toNat) (by omega)]
  rw [Nat.mod_eq_of_lt (a := _ ^^^ _) (by omega)]
/-! linear -/
theorem upd_xor (c d : W) (a b : UInt8) : upd (c ^^^ d) (a ^^^ b) = upd c a ^^^ upd d b := by
  unfold upd
  rw [← stepN_xor]
  congr 1
  have : ext (a ^^^ b) = ext a ^^^ ext b := by
    apply BitVec.eq_of_toNat_eq
    rw [BitVec.toNat_xor, ext_lt, ext_lt, ext_lt]; simp
  rw [this]; ac_rfl
def zip (f : UInt8 → UInt8 → UInt8) (l m : List UInt8) : List UInt8 := List.zipWith f l m
def xors (l m : List UInt8) : List UInt8 := List.zipWith (· ^^^ ·) l m
theorem run_xor (l m : List UInt8) (h : l.length = m.length) (c d : W) : run (c ^^^ d) (xors l m) = run c l ^^^ run d m := by
  induction l generalizing m c d with
  | nil => cases m with
    | nil => simp [run, xors]
    | cons _ _ => simp at h
  | cons a l ih => cases m with
    | nil => simp at h
    | cons b m =>
      simp only [xors, run, List.zipWith_cons_cons, List.foldl_cons, upd_xor]
      exact ih m (by simpa using h) _ _
theorem run_append (c : W) (l m : List UInt8) : run c (l ++ m) = run (run c l) m := by simp [run]
theorem more_append (c : W) (l m : List UInt8) : more (more c l) m = more c (l ++ m) := by simp [more, run_append]
theorem more_nil (c : W) : more c [] = c := by simp [more, run]
theorem of_xor3 (l m n : List UInt8) (h : l.length = m.length) (h' : m.length = n.length) : of (xors (xors l m) n) = of l ^^^ of m ^^^ of n := by
  unfold of more
  have e : ∀ x : W, x ^^^ x ^^^ x = x := by intro x; simp
  rw [← e (~~~ 0), run_xor (xors l m) n (by simp [xors]; omega), run_xor l m h, e]
  simp only [← BitVec.xor_allOnes]
  generalize run _ l = x; generalize run _ m = y; generalize run _ n = z
  rw [show x ^^^ BitVec.allOnes 32 ^^^ (y ^^^ BitVec.allOnes 32) ^^^ (z ^^^ BitVec.allOnes 32) = x ^^^ y ^^^ z ^^^ (BitVec.allOnes 32 ^^^ BitVec.allOnes 32 ^^^ BitVec.allOnes 32) by ac_rfl]
  simp
/-! what is turned -/
theorem run_diff (c d : W) (l : List UInt8) : run (c ^^^ d) l = run c l ^^^ stepN (8 * l.length) d := by
  induction l generalizing c d with
  | nil => simp [run, stepN]
  | cons a l ih =>
    have h : upd (c ^^^ d) a = upd c a ^^^ stepN 8 d := by
      unfold upd; rw [← stepN_xor]; congr 1; ac_rfl
    have ih' := ih (upd c a) (stepN 8 d)
    simp only [run, List.foldl_cons, List.length_cons] at ih' ⊢
    rw [h, ih', ← stepN_add]; congr 2; omega
def bit (j : Nat) : UInt8 := UInt8.ofNat (2 ^ j)
def flip (l : List UInt8) (j : Nat) : List UInt8 := l.set (j / 8) (l.getD (j / 8) 0 ^^^ bit (j % 8))
theorem flip_length (l : List UInt8) (j : Nat) : (flip l j).length = l.length := by simp [flip]
theorem stepN_bit (n j : Nat) (hj : j < 32) (h : j ≤ n) : stepN n (BitVec.ofNat 32 (2 ^ j)) = stepN (n - j) 1#32 := by
  have e : stepN j (BitVec.ofNat 32 (2 ^ j)) = 1#32 := by
    rw [stepN_low]
    · apply BitVec.eq_of_toNat_eq
      have : 2 ^ j < 2 ^ 32 := Nat.pow_lt_pow_right (by decide) hj
      rw [BitVec.toNat_ushiftRight, BitVec.toNat_ofNat, Nat.mod_eq_of_lt this, Nat.shiftRight_eq_div_pow]
      rw [Nat.div_self (Nat.two_pow_pos j)]; rfl
    · intro i hi
      rw [BitVec.getLsbD_ofNat, Nat.testBit_two_pow]; simp; omega
  conv => lhs; rw [show n = j + (n - j) by omega]
  rw [stepN_add, e]
theorem ext_xor (a b : UInt8) : ext (a ^^^ b) = ext a ^^^ ext b := by
  apply BitVec.eq_of_toNat_eq
  rw [BitVec.toNat_xor, ext_lt, ext_lt, ext_lt]; simp
theorem ext_bit : ∀ j, j < 8 → ext (bit j) = BitVec.ofNat 32 (2 ^ j) := by decide
theorem run_flip (c : W) (l : List UInt8) (j : Nat) (hj : j < 8 * l.length) : run c (flip l j) = run c l ^^^ stepN (8 * l.length - j) 1#32 := by
  induction l generalizing c j with
  | nil => simp at hj
  | cons a l ih =>
    by_cases h : j < 8
    · have h0 : j / 8 = 0 := by omega
      have h1 : j % 8 = j := by omega
      have hu : upd c (a ^^^ bit j) = upd c a ^^^ stepN (8 - j) 1#32 := by
        unfold upd
        rw [ext_xor, ext_bit j h, ← BitVec.xor_assoc, stepN_xor, stepN_bit 8 j (by omega) (by omega)]
      have hd := run_diff (upd c a) (stepN (8 - j) 1#32) l
      simp only [flip, h0, h1, List.getD_cons_zero, List.set_cons_zero, run, List.foldl_cons, List.length_cons] at hd ⊢
      rw [hu, hd, ← stepN_add]; congr 2; omega
    · have h0 : j / 8 = (j - 8) / 8 + 1 := by omega
      have h1 : j % 8 = (j - 8) % 8 := by omega
      have ih' := ih (upd c a) (j - 8) (by simp at hj; omega)
      simp only [flip, run] at ih'
      simp only [flip, h0, h1, List.getD_cons_succ, List.set_cons_succ, run, List.foldl_cons, List.length_cons]
      rw [ih']; congr 2; omega
/-- the first i of 32 bits turned from place k on. -/
def turned (l : List UInt8) (k : Nat) (x : W) : Nat → List UInt8
  | 0 => l
  | i + 1 => if x.getLsbD i then flip (turned l k x i) (k + i) else turned l k x i
theorem turned_length (l : List UInt8) (k : Nat) (x : W) (i : Nat) : (turned l k x i).length = l.length := by
  induction i with
  | zero => rfl
  | succ i ih => simp only [turned]; split <;> simp [flip_length, ih]
def lowBits (x : W) (i : Nat) : W := BitVec.ofNat 32 (x.toNat % 2 ^ i)
theorem lowBits_get (x : W) (i j : Nat) : (lowBits x i).getLsbD j = (decide (j < i) && x.getLsbD j) := by
  unfold lowBits
  rw [BitVec.getLsbD_ofNat, Nat.testBit_mod_two_pow]
  by_cases h : j < 32
  · simp [h, BitVec.getLsbD]
  · simp [h, BitVec.getLsbD_of_ge x j (by omega)]
theorem lowBits_succ (x : W) (i : Nat) (h : i < 32) : lowBits x (i + 1) = lowBits x i ^^^ (if x.getLsbD i then BitVec.ofNat 32 (2 ^ i) else 0#32) := by
  apply BitVec.eq_of_getLsbD_eq
  intro j hj
  rw [BitVec.getLsbD_xor, lowBits_get, lowBits_get]
  by_cases hij : j = i
  · subst hij
    have e1 : (BitVec.ofNat 32 (2 ^ j)).getLsbD j = true := by rw [BitVec.getLsbD_ofNat, Nat.testBit_two_pow]; simp [hj]
    have e2 : decide (j < j + 1) = true := by simp
    have e3 : decide (j < j) = false := by simp
    rw [e2, e3]
    cases x.getLsbD j
    · simp
    · simp only [if_true]; rw [e1]; rfl
  · have e : decide (j < i + 1) = decide (j < i) := by congr 1; simp; omega
    rw [e]
    split
    · rw [BitVec.getLsbD_ofNat, Nat.testBit_two_pow]; simp [show ¬ i = j from fun h => hij h.symm]
    · simp
theorem run_turned (c : W) (l : List UInt8) (k : Nat) (x : W) (i : Nat) (hi : i ≤ 32) (hk : k + i ≤ 8 * l.length) (hk' : 32 ≤ 8 * l.length - k) :
    run c (turned l k x i) = run c l ^^^ stepN (8 * l.length - k) (lowBits x i) := by
  induction i with
  | zero =>
    have : lowBits x 0 = 0 := by simp [lowBits, Nat.mod_one]
    rw [this, stepN_zero]; simp [turned]
  | succ i ih =>
    have ih' := ih (by omega) (by omega)
    rw [lowBits_succ x i (by omega)]
    simp only [turned]
    split
    · rw [run_flip _ _ _ (by rw [turned_length]; omega), ih', turned_length, stepN_xor, stepN_bit _ i (by omega) (by omega), BitVec.xor_assoc, Nat.sub_sub]
    · rw [ih']; simp
theorem lowBits_all (x : W) : lowBits x 32 = x := by
  unfold lowBits; apply BitVec.eq_of_toNat_eq; have := x.isLt
  rw [BitVec.toNat_ofNat]; omega
/-! sealed texts -/
def word4 (a b c d : UInt8) : W := ext a ^^^ (ext b <<< 8) ^^^ (ext c <<< 16) ^^^ (ext d <<< 24)
theorem shl_get (b : UInt8) (n i : Nat) (h : i < n) : (ext b <<< n).getLsbD i = false := by
  rw [BitVec.getLsbD_shiftLeft]; simp [h]
theorem shl_back (b : UInt8) (n : Nat) (hn : n ≤ 24) : (ext b <<< n) >>> n = ext b := by
  apply BitVec.eq_of_getLsbD_eq
  intro i hi
  rw [BitVec.getLsbD_ushiftRight, BitVec.getLsbD_shiftLeft]
  by_cases h : n + i < 32
  · simp [h]
  · have : (ext b).getLsbD i = false := by
      unfold ext; rw [BitVec.getLsbD_ofNat, Nat.testBit_lt_two_pow]
      · simp
      · have := b.toNat_lt
        have h2 : 2 ^ 8 ≤ 2 ^ i := Nat.pow_le_pow_right (by decide) (by omega)
        omega
    rw [this]; simp [h]
theorem stepN_shl (b : UInt8) (n : Nat) (hn : n ≤ 24) : stepN n (ext b <<< n) = ext b := by
  rw [stepN_low n (fun i hi => shl_get b n i hi), shl_back b n hn]
theorem upd_stepN (n : Nat) (hn : n ≤ 24) (x : W) (b : UInt8) : upd (stepN n x) b = stepN (n + 8) (x ^^^ ext b <<< n) := by
  have h : upd (stepN n x) b = stepN 8 (stepN n x ^^^ stepN n (ext b <<< n)) := by rw [stepN_shl b n hn]; rfl
  rw [h, ← stepN_xor, stepN_add]
theorem run4 (c : W) (a b d e : UInt8) : run c [a, b, d, e] = stepN 32 (c ^^^ word4 a b d e) := by
  have h : run c [a, b, d, e] = upd (upd (upd (upd (stepN 0 c) a) b) d) e := rfl
  rw [h, upd_stepN _ (by decide), upd_stepN _ (by decide), upd_stepN _ (by decide), upd_stepN _ (by decide)]
  unfold word4
  rw [BitVec.shiftLeft_zero]
  simp only [BitVec.xor_assoc, Nat.reduceAdd]
theorem word4_le4 (c : W) : ∃ a b d e, le4 c = [a, b, d, e] ∧ word4 a b d e = c := by
  refine ⟨_, _, _, _, rfl, ?_⟩
  unfold word4
  apply BitVec.eq_of_getLsbD_eq
  intro i hi
  have t : ∀ n k, (ext (UInt8.ofNat n) <<< k).getLsbD i = (decide (k ≤ i) && decide (i < 8 + k) && n.testBit (i - k)) := by
    intro n k
    unfold ext
    rw [BitVec.getLsbD_shiftLeft, BitVec.getLsbD_ofNat, UInt8.toNat_ofNat', Nat.testBit_mod_two_pow]
    by_cases h : i < k
    · have h' : ¬ k ≤ i := by omega
      simp [h, h']
    · have h1 : k ≤ i := by omega
      have h2 : i - k < 32 := by omega
      have h3 : decide (i - k < 8) = decide (i < 8 + k) := by congr 1; simp; omega
      rw [h3]; simp [h, h1, h2, hi]
  have dv : ∀ k, k ≤ i → (c.toNat / 2 ^ k).testBit (i - k) = c.getLsbD i := by
    intro k hk
    rw [Nat.testBit_div_two_pow, show i - k + k = i by omega]; rfl
  rw [BitVec.getLsbD_xor, BitVec.getLsbD_xor, BitVec.getLsbD_xor, t, t, t]
  have t0 := t (c.toNat) 0
  rw [BitVec.shiftLeft_zero] at t0
  rw [t0]
  have d8 := dv 8; have d16 := dv 16; have d24 := dv 24
  simp only [show 256 = 2 ^ 8 from rfl, show 65536 = 2 ^ 16 from rfl, show 16777216 = 2 ^ 24 from rfl]
  by_cases h1 : i < 8
  · simp [h1, show ¬ 8 ≤ i by omega, show ¬ 16 ≤ i by omega, show ¬ 24 ≤ i by omega]; rfl
  by_cases h2 : i < 16
  · rw [d8 (by omega)]; simp [h1, h2, show 8 ≤ i by omega, show ¬ 16 ≤ i by omega, show ¬ 24 ≤ i by omega]
  by_cases h3 : i < 24
  · rw [d16 (by omega)]; simp [h1, h2, h3, show 8 ≤ i by omega, show 16 ≤ i by omega, show ¬ 24 ≤ i by omega]
  · rw [d24 (by omega)]; simp [h1, h2, h3, hi, show 8 ≤ i by omega, show 16 ≤ i by omega, show 24 ≤ i by omega]
theorem le4_length (c : W) : (le4 c).length = 4 := rfl
theorem seal_length (l : List UInt8) : (sealL l).length = l.length + 4 := by simp [sealL, le4_length]
theorem word4_inj_le4 (c : W) (a b d e : UInt8) (h : word4 a b d e = c) : le4 c = [a, b, d, e] := by
  subst h
  have e0 : ∀ x : UInt8, x.toNat < 256 := fun x => x.toNat_lt
  have v : (word4 a b d e).toNat = a.toNat + 256 * b.toNat + 65536 * d.toNat + 16777216 * e.toNat := by
    have ha := e0 a; have hb := e0 b; have hd := e0 d; have he := e0 e
    have sh : ∀ (x : UInt8) n, n ≤ 24 → (ext x <<< n).toNat = x.toNat * 2 ^ n := by
      intro x n hn
      rw [BitVec.toNat_shiftLeft, ext_lt, Nat.shiftLeft_eq]
      have := e0 x
      have h2 : x.toNat * 2 ^ n < 256 * 2 ^ 24 := Nat.lt_of_lt_of_le (Nat.mul_lt_mul_of_pos_right this (Nat.two_pow_pos n)) (Nat.mul_le_mul_left _ (Nat.pow_le_pow_right (by decide) hn))
      exact Nat.mod_eq_of_lt h2
    have xa : ∀ (x y n : Nat), x < 2 ^ n → x ^^^ y * 2 ^ n = x + y * 2 ^ n := by
      intro x y n hx
      rw [Nat.mul_comm y, Nat.add_comm, Nat.two_pow_add_eq_or_of_lt hx]
      apply Nat.eq_of_testBit_eq
      intro i
      rw [Nat.testBit_xor, Nat.testBit_or, Nat.testBit_two_pow_mul]
      by_cases h : n ≤ i
      · have : x.testBit i = false := Nat.testBit_lt_two_pow (Nat.lt_of_lt_of_le hx (Nat.pow_le_pow_right (by decide) h))
        rw [this]; simp
      · simp [h]
    unfold word4
    rw [BitVec.toNat_xor, BitVec.toNat_xor, BitVec.toNat_xor, sh b 8 (by decide), sh d 16 (by decide), sh e 24 (by decide), ext_lt]
    rw [xa _ _ 8 (by omega), xa _ _ 16 (by omega), xa _ _ 24 (by omega)]
    omega
  have ha := e0 a; have hb := e0 b; have hd := e0 d; have he := e0 e
  have un : ∀ (n : Nat) (x : UInt8), n % 256 = x.toNat → UInt8.ofNat n = x := by
    intro n x h; apply UInt8.toNat.inj; rw [UInt8.toNat_ofNat']; exact h
  unfold le4
  rw [v, un _ a (by omega), un _ b (by omega), un _ d (by omega), un _ e (by omega)]
def openOk (l : List UInt8) : Bool := decide (4 ≤ l.length) && (sealL (l.take (l.length - 4)) == l)
theorem open_seal (s : List UInt8) : openOk (sealL s) = true := by
  unfold openOk
  rw [seal_length]
  simp [sealL]
/-- which texts are opened: by the register behind them. -/
theorem openOk_iff (l : List UInt8) (h : 4 ≤ l.length) : openOk l = true ↔ run (~~~0) l = stepN 32 (~~~0) := by
  obtain ⟨m, t, rfl, ht⟩ : ∃ m t, l = m ++ t ∧ t.length = 4 := ⟨l.take (l.length - 4), l.drop (l.length - 4), (List.take_append_drop _ _).symm, by simp; omega⟩
  match t, ht with
  | [a, b, d, e], _ =>
    have e1 : (m ++ [a, b, d, e]).length - 4 = m.length := by simp
    unfold openOk
    rw [e1, run_append, run4]
    simp only [List.take_left', sealL, Bool.and_eq_true, decide_eq_true_eq, h, true_and, beq_iff_eq, List.append_cancel_left_eq]
    constructor
    · intro hl
      obtain ⟨a', b', d', e', h1, h2⟩ := word4_le4 (of m)
      rw [h1] at hl
      injection hl with q1 q; injection q with q2 q; injection q with q3 q; injection q with q4 _
      subst q1 q2 q3 q4
      rw [h2]; unfold of more
      congr 1
      rw [← BitVec.xor_allOnes (x := run _ m), ← BitVec.xor_assoc, BitVec.xor_self]; simp
    · intro hr
      apply word4_inj_le4
      have hz : stepN 32 (run (~~~0) m ^^^ word4 a b d e ^^^ (~~~0)) = 0 := by rw [stepN_xor, hr, BitVec.xor_self]; rfl
      have hz' := stepN_eq_zero 32 hz
      unfold of more
      generalize run (~~~0) m = x at hz'
      generalize word4 a b d e = y at hz'
      have : x ^^^ (x ^^^ y ^^^ ~~~0) ^^^ ~~~0 = x ^^^ 0 ^^^ ~~~0 := by rw [hz']
      rw [show x ^^^ (x ^^^ y ^^^ ~~~0) ^^^ ~~~0 = y ^^^ (x ^^^ x) ^^^ ((~~~0) ^^^ (~~~0)) by ac_rfl, BitVec.xor_self, BitVec.xor_self] at this
      have e1 : y = y ^^^ 0#32 ^^^ 0#32 := by simp
      have e2 : x ^^^ 0 ^^^ ~~~0 = ~~~x := by rw [← BitVec.xor_allOnes (x := x)]; simp
      exact e1.trans (this.trans e2)
theorem open_turned (s : List UInt8) (k : Nat) (x : W) (hk : k + 32 ≤ 8 * (sealL s).length) : openOk (turned (sealL s) k x 32) = decide (x = 0) := by
  have hs := (openOk_iff (sealL s) (by rw [seal_length]; omega)).1 (open_seal s)
  have h4 : 4 ≤ (turned (sealL s) k x 32).length := by rw [turned_length, seal_length]; omega
  have hi := openOk_iff _ h4
  rw [run_turned _ _ _ _ 32 (by omega) hk (by omega), hs, lowBits_all] at hi
  by_cases hx : x = 0
  · subst hx
    rw [decide_eq_true rfl]
    exact hi.2 (by rw [stepN_zero]; exact BitVec.xor_zero)
  · rw [decide_eq_false hx]
    cases ho : openOk (turned (sealL s) k x 32) with
    | false => rfl
    | true =>
      have := hi.1 ho
      have hz : stepN (8 * (sealL s).length - k) x = 0 := by
        have h2 := congrArg (fun y => stepN 32 (~~~0) ^^^ y) this
        simp only [BitVec.xor_self] at h2
        rw [← BitVec.xor_assoc, BitVec.xor_self] at h2
        exact BitVec.zero_xor.symm.trans h2
      exact absurd (stepN_eq_zero _ hz) hx
end PSum
namespace PWord
def be : Nat → Nat → List UInt8
  | 0, _ => []
  | k + 1, n => be k (n / 256) ++ [UInt8.ofNat n]
def val (l : List UInt8) : Nat := l.foldl (fun n b => 256 * n + b.toNat) 0
theorem be_length (k n : Nat) : (be k n).length = k := by
  induction k generalizing n with
  | zero => rfl
  | succ k ih => simp [be, ih]
theorem val_snoc (l : List UInt8) (b : UInt8) : val (l ++ [b]) = 256 * val l + b.toNat := by simp [val]
theorem val_be (k n : Nat) : val (be k n) = n % 256 ^ k := by
  induction k generalizing n with
  | zero => simp [be, val, Nat.mod_one]
  | succ k ih =>
    rw [be, val_snoc, ih, UInt8.toNat_ofNat']
    have h : n % 256 ^ (k + 1) = n % 256 + 256 * (n / 256 % 256 ^ k) := by rw [Nat.pow_succ, Nat.mul_comm (256 ^ k), Nat.mod_mul]
    omega
theorem snoc_cases (l : List UInt8) (k : Nat) (h : l.length = k + 1) : ∃ m b, l = m ++ [b] ∧ m.length = k := by
  refine ⟨l.dropLast, l.getLast (by intro e; simp [e] at h), (List.dropLast_concat_getLast _).symm, by simp [h]⟩
theorem val_lt (k : Nat) (l : List UInt8) (h : l.length = k) : val l < 256 ^ k := by
  induction k generalizing l with
  | zero => cases l with
    | nil => decide
    | cons _ _ => simp at h
  | succ k ih =>
    obtain ⟨m, b, rfl, hm⟩ := snoc_cases l k h
    have := ih m hm; have hb := b.toNat_lt
    rw [val_snoc, Nat.pow_succ]; omega
theorem be_val (k : Nat) (l : List UInt8) (h : l.length = k) : be k (val l) = l := by
  induction k generalizing l with
  | zero => cases l with
    | nil => rfl
    | cons _ _ => simp at h
  | succ k ih =>
    obtain ⟨m, b, rfl, hm⟩ := snoc_cases l k h
    have hb := b.toNat_lt
    rw [val_snoc, be, show (256 * val m + b.toNat) / 256 = val m by omega, ih m hm]
    congr 2
    apply UInt8.toNat.inj
    rw [UInt8.toNat_ofNat']; omega
theorem be_mod (k n : Nat) : be k (n % 256 ^ k) = be k n := by
  have := be_val k (be k n) (be_length k n)
  rw [val_be] at this; exact this
theorem be_inj (k n m : Nat) (hn : n < 256 ^ k) (hm : m < 256 ^ k) (h : be k n = be k m) : n = m := by
  have := congrArg val h
  rw [val_be, val_be, Nat.mod_eq_of_lt hn, Nat.mod_eq_of_lt hm] at this; exact this
def less : List UInt8 → List UInt8 → Bool
  | _, [] => false
  | [], _ :: _ => true
  | a :: x, b :: y => a < b || (a == b && less x y)
theorem val_cons (a : UInt8) (l : List UInt8) : val (a :: l) = a.toNat * 256 ^ l.length + val l := by
  have : ∀ (l : List UInt8) (n : Nat), l.foldl (fun n (b : UInt8) => 256 * n + b.toNat) n = n * 256 ^ l.length + val l := by
    intro l
    induction l with
    | nil => intro n; simp [val]
    | cons b l ih =>
      intro n
      simp only [List.foldl_cons, val, List.length_cons]
      rw [ih, ih (256 * 0 + b.toNat), Nat.pow_succ]
      rw [Nat.add_mul, Nat.mul_zero, Nat.zero_add, Nat.add_assoc]
      congr 1
      ac_rfl
  rw [val, List.foldl_cons, this]; simp
theorem less_val (x y : List UInt8) (h : x.length = y.length) : less x y = decide (val x < val y) := by
  induction x generalizing y with
  | nil => cases y with
    | nil => rfl
    | cons _ _ => simp at h
  | cons a x ih => cases y with
    | nil => simp at h
    | cons b y =>
      have hl : x.length = y.length := by simpa using h
      rw [less, ih y hl, val_cons, val_cons, hl]
      have h1 := val_lt _ x hl; have h2 := val_lt _ y rfl
      generalize val x = p at *; generalize val y = q at *
      generalize 256 ^ y.length = m at *
      rw [Bool.eq_iff_iff]
      simp only [Bool.or_eq_true, Bool.and_eq_true, decide_eq_true_eq, beq_iff_eq, UInt8.lt_iff_toNat_lt, ← UInt8.toNat_inj]
      generalize a.toNat = a at *; generalize b.toNat = b at *
      constructor
      · rintro (h3 | ⟨rfl, h3⟩)
        · have : (a + 1) * m ≤ b * m := Nat.mul_le_mul_right m h3
          rw [Nat.add_mul] at this; omega
        · omega
      · intro h3
        by_cases hab : a < b
        · exact .inl hab
        by_cases hab' : a = b
        · subst hab'; exact .inr ⟨rfl, by omega⟩
        · have : (b + 1) * m ≤ a * m := Nat.mul_le_mul_right m (by omega)
          rw [Nat.add_mul] at this; omega
theorem less_be (k n m : Nat) (hn : n < 256 ^ k) (hm : m < 256 ^ k) : less (be k n) (be k m) = decide (n < m) := by
  rw [less_val _ _ (by rw [be_length, be_length]), val_be, val_be, Nat.mod_eq_of_lt hn, Nat.mod_eq_of_lt hm]
/-- may a number be put into so many bytes? -/
def fits (n : Nat) (size : Int) : Bool := decide (1 ≤ size) && decide (size ≤ 8) && decide (n / 256 ^ size.toNat = 0)
def put (n : Nat) (size : Int) : List UInt8 × Bool := if fits n size then (be size.toNat n, true) else ([], false)
def inside (len : Nat) (pos size : Int) : Bool := decide (0 ≤ pos) && decide (0 ≤ size) && decide (pos + size ≤ len)
def cut (s : List UInt8) (pos size : Int) : List UInt8 × Bool := if inside s.length pos size then ((s.drop pos.toNat).take size.toNat, true) else ([], false)
def get (s : List UInt8) (pos size : Int) : Nat × Bool := if inside s.length pos size && decide (1 ≤ size) && decide (size ≤ 8) then (val ((s.drop pos.toNat).take size.toNat), true) else (0, false)
def set' (s : List UInt8) (pos : Int) (part : List UInt8) : List UInt8 × Bool :=
  if inside s.length pos part.length then (s.take pos.toNat ++ part ++ s.drop (pos.toNat + part.length), true) else ([], false)
def up (n to : Int) : Int := if n ≤ 0 ∨ to ≤ 0 ∨ n > 4611686018427387904 - to then 0 else (n + to - 1) / to * to
end PWord
