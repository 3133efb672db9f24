/-
  Plain: masters: which may be, their sectors, which sector is which master, which of two is loaded. No program in sight.
-/
import Derived.Test.YtmbialiledjigaaPlain
import Derived.Test.YtmbialiledjigaaPDisk
namespace PMst
structure Mst where
  count : Nat
  life : Nat
  check : Nat
  first : Nat
  clean : Bool
  deriving DecidableEq
def zero : Mst := ⟨0, 0, 0, 0, false⟩
def Mst.Ok (m : Mst) : Prop := m.count < 18446744073709551616 ∧ m.life < 18446744073709551616 ∧ m.check < 18446744073709551616 ∧ m.first < 18446744073709551616
def may (m : Mst) : Bool := decide (0 < m.count) && (decide (0 < m.life) && (decide (0 < m.first) && (decide (m.check = 0) || decide (m.first ≤ m.check))))
def flag (m : Mst) : UInt8 := if m.clean then 1 else 0
def body (m : Mst) : List UInt8 := [1] ++ PWord.be 8 m.count ++ PWord.be 8 m.life ++ PWord.be 8 m.check ++ PWord.be 8 m.first ++ (flag m :: List.replicate 90 0)
def enc (m : Mst) : List UInt8 := if may m then PSum.sealL (body m) else []
def err (m : Mst) : Int := if may m then 0 else 2
def got (s : List UInt8) : Mst := ⟨(PWord.get s 1 8).1, (PWord.get s 9 8).1, (PWord.get s 17 8).1, (PWord.get s 25 8).1, decide ((PWord.get s 33 1).1 = 1)⟩
def good (s : List UInt8) : Bool := may (got s) && decide (enc (got s) = s)
def dec (s : List UInt8) : Mst × Int := if good s then (got s, 0) else (zero, 7)

theorem body_length (m : Mst) : (body m).length = 124 := by simp [body, PWord.be_length]
theorem enc_length {m : Mst} (h : may m = true) : (enc m).length = 128 := by unfold enc; rw [if_pos h, PSum.seal_length, body_length]
theorem enc_nil {m : Mst} (h : may m = false) : enc m = [] := by unfold enc; rw [h]; rfl
theorem good_length {s : List UInt8} (h : good s = true) : s.length = 128 := by
  unfold good at h
  simp only [Bool.and_eq_true, decide_eq_true_eq] at h
  rw [← h.2]; exact enc_length h.1
theorem get_mid (a b c : List UInt8) (pos size : Int) (hp : pos = a.length) (hs : size = b.length) (h1 : 1 ≤ b.length) (h8 : b.length ≤ 8) : PWord.get (a ++ b ++ c) pos size = (PWord.val b, true) := by
  subst hp hs
  unfold PWord.get PWord.inside
  have : (decide (0 ≤ (a.length : Int)) && decide (0 ≤ (b.length : Int)) && decide ((a.length : Int) + (b.length : Int) ≤ ((a ++ b ++ c).length : Int)) && decide (1 ≤ (b.length : Int)) && decide ((b.length : Int) ≤ 8)) = true := by
    simp; omega
  rw [this, if_pos rfl]
  rw [Int.toNat_natCast, Int.toNat_natCast, List.append_assoc, List.drop_left' rfl, List.take_left' rfl]
theorem val_be8 {n : Nat} (h : n < 18446744073709551616) : PWord.val (PWord.be 8 n) = n := by
  rw [PWord.val_be]; exact Nat.mod_eq_of_lt h
theorem seal_body (m : Mst) : PSum.sealL (body m) = [1] ++ PWord.be 8 m.count ++ PWord.be 8 m.life ++ PWord.be 8 m.check ++ PWord.be 8 m.first ++ [flag m] ++ (List.replicate 90 0 ++ PSum.le4 (PSum.of (body m))) := by
  unfold PSum.sealL
  conv => lhs; lhs; unfold body
  simp only [List.append_assoc, List.cons_append, List.nil_append]
theorem got_seal (m : Mst) (h : m.Ok) : got (PSum.sealL (body m)) = m := by
  obtain ⟨h1, h2, h3, h4⟩ := h
  have e := seal_body m
  generalize PSum.sealL (body m) = s at *
  have l8 := PWord.be_length 8
  have g1 : PWord.get s 1 8 = (m.count, true) := by
    rw [e, ← val_be8 h1, val_be8 h1, show [1] ++ PWord.be 8 m.count ++ PWord.be 8 m.life ++ PWord.be 8 m.check ++ PWord.be 8 m.first ++ [flag m] ++ (List.replicate 90 0 ++ PSum.le4 (PSum.of (body m))) = [1] ++ PWord.be 8 m.count ++ (PWord.be 8 m.life ++ PWord.be 8 m.check ++ PWord.be 8 m.first ++ [flag m] ++ (List.replicate 90 0 ++ PSum.le4 (PSum.of (body m)))) by simp only [List.append_assoc],
      get_mid _ _ _ 1 8 (by simp) (by rw [l8]; rfl) (by rw [l8]; omega) (by rw [l8]; omega), val_be8 h1]
  have g2 : PWord.get s 9 8 = (m.life, true) := by
    rw [e, show [1] ++ PWord.be 8 m.count ++ PWord.be 8 m.life ++ PWord.be 8 m.check ++ PWord.be 8 m.first ++ [flag m] ++ (List.replicate 90 0 ++ PSum.le4 (PSum.of (body m))) = ([1] ++ PWord.be 8 m.count) ++ PWord.be 8 m.life ++ (PWord.be 8 m.check ++ PWord.be 8 m.first ++ [flag m] ++ (List.replicate 90 0 ++ PSum.le4 (PSum.of (body m)))) by simp only [List.append_assoc],
      get_mid _ _ _ 9 8 (by simp [l8]) (by rw [l8]; rfl) (by rw [l8]; omega) (by rw [l8]; omega), val_be8 h2]
  have g3 : PWord.get s 17 8 = (m.check, true) := by
    rw [e, show [1] ++ PWord.be 8 m.count ++ PWord.be 8 m.life ++ PWord.be 8 m.check ++ PWord.be 8 m.first ++ [flag m] ++ (List.replicate 90 0 ++ PSum.le4 (PSum.of (body m))) = ([1] ++ PWord.be 8 m.count ++ PWord.be 8 m.life) ++ PWord.be 8 m.check ++ (PWord.be 8 m.first ++ [flag m] ++ (List.replicate 90 0 ++ PSum.le4 (PSum.of (body m)))) by simp only [List.append_assoc],
      get_mid _ _ _ 17 8 (by simp [l8]) (by rw [l8]; rfl) (by rw [l8]; omega) (by rw [l8]; omega), val_be8 h3]
  have g4 : PWord.get s 25 8 = (m.first, true) := by
    rw [e, show [1] ++ PWord.be 8 m.count ++ PWord.be 8 m.life ++ PWord.be 8 m.check ++ PWord.be 8 m.first ++ [flag m] ++ (List.replicate 90 0 ++ PSum.le4 (PSum.of (body m))) = ([1] ++ PWord.be 8 m.count ++ PWord.be 8 m.life ++ PWord.be 8 m.check) ++ PWord.be 8 m.first ++ ([flag m] ++ (List.replicate 90 0 ++ PSum.le4 (PSum.of (body m)))) by simp only [List.append_assoc],
      get_mid _ _ _ 25 8 (by simp [l8]) (by rw [l8]; rfl) (by rw [l8]; omega) (by rw [l8]; omega), val_be8 h4]
  have g5 : PWord.get s 33 1 = (PWord.val [flag m], true) := by
    rw [e, get_mid _ _ _ 33 1 (by simp [l8]) (by simp) (by simp) (by simp)]
  unfold got
  rw [g1, g2, g3, g4, g5]
  cases m with
  | mk a b c d f => cases f <;> simp [flag, PWord.val]
theorem got_enc (m : Mst) (h : m.Ok) (hm : may m = true) : got (enc m) = m := by
  unfold enc; rw [if_pos hm]; exact got_seal m h
theorem good_enc (m : Mst) (h : m.Ok) (hm : may m = true) : good (enc m) = true := by
  unfold good; rw [got_enc m h hm, hm]; simp
theorem dec_enc (m : Mst) (h : m.Ok) (hm : may m = true) : dec (enc m) = (m, 0) := by
  unfold dec; rw [good_enc m h hm, if_pos rfl, got_enc m h hm]
theorem enc_inj (a b : Mst) (ha : a.Ok) (hb : b.Ok) (ma : may a = true) (mb : may b = true) : enc a = enc b ↔ a = b := by
  refine ⟨fun h => ?_, fun h => by rw [h]⟩
  rw [← got_enc a ha ma, h, got_enc b hb mb]
theorem val_lt' {l : List UInt8} (h : l.length ≤ 8) : PWord.val l < 18446744073709551616 := by
  have := PWord.val_lt _ l rfl
  have h2 : 256 ^ l.length ≤ 256 ^ 8 := Nat.pow_le_pow_right (by decide) h
  have h3 : (256 : Nat) ^ 8 = 18446744073709551616 := by decide
  omega
theorem get_lt (s : List UInt8) (p : Int) : (PWord.get s p 8).1 < 18446744073709551616 := by
  unfold PWord.get
  split
  · exact val_lt' (by rw [List.length_take]; omega)
  · decide
theorem got_ok (s : List UInt8) : (got s).Ok := ⟨get_lt _ _, get_lt _ _, get_lt _ _, get_lt _ _⟩
theorem dec_ok (s : List UInt8) : (dec s).1.Ok := by
  unfold dec
  split
  · exact got_ok s
  · exact ⟨by decide, by decide, by decide, by decide⟩
/-- a sector in which one byte is another one -/
theorem bad_turned (m : Mst) (hm : may m = true) (k : Nat) (hk : k < 128) (b : UInt8) (hb : b ≠ 0) : good ((enc m).set k ((enc m).getD k 0 ^^^ b)) = false := by
  cases hg : good ((enc m).set k ((enc m).getD k 0 ^^^ b)) with
  | false => rfl
  | true =>
    exfalso
    have hl := enc_length hm
    have e1 : PSum.openOk (enc m) = true := by unfold enc; rw [if_pos hm]; exact PSum.open_seal _
    have e2 : PSum.openOk ((enc m).set k ((enc m).getD k 0 ^^^ b)) = true := by
      unfold good at hg
      simp only [Bool.and_eq_true, decide_eq_true_eq] at hg
      have hs : enc (got ((enc m).set k ((enc m).getD k 0 ^^^ b))) = PSum.sealL (body (got ((enc m).set k ((enc m).getD k 0 ^^^ b)))) := if_pos hg.1
      rw [← hg.2, hs]; exact PSum.open_seal _
    rw [PSum.openOk_iff _ (by omega)] at e1
    rw [PSum.openOk_iff _ (by rw [List.length_set]; omega)] at e2
    have hd : enc m = (enc m).take k ++ (enc m).getD k 0 :: (enc m).drop (k + 1) := by
      have h1 : (enc m).getD k 0 = (enc m)[k]'(by omega) := by simp [List.getD, show k < (enc m).length by omega]
      rw [h1, List.getElem_cons_drop, List.take_append_drop]
    have hs : (enc m).set k ((enc m).getD k 0 ^^^ b) = (enc m).take k ++ ((enc m).getD k 0 ^^^ b) :: (enc m).drop (k + 1) := by
      rw [List.set_eq_take_append_cons_drop, if_pos (by omega)]
    rw [hs] at e2
    rw [hd] at e1
    generalize (enc m).take k = p at *
    generalize (enc m).drop (k + 1) = q at *
    generalize (enc m).getD k 0 = c at *
    rw [PSum.run_append] at e1 e2
    have u : PSum.upd (PSum.run (~~~0) p) (c ^^^ b) = PSum.upd (PSum.run (~~~0) p) c ^^^ PSum.upd 0 b := by
      have := PSum.upd_xor (PSum.run (~~~0) p) 0 c b
      rwa [show PSum.run (~~~0) p ^^^ (0 : PSum.W) = PSum.run (~~~0) p from BitVec.xor_zero] at this
    have f1 : PSum.run (PSum.run (~~~0) p) ((c ^^^ b) :: q) = PSum.run (PSum.upd (PSum.run (~~~0) p) (c ^^^ b)) q := rfl
    have f2 : PSum.run (PSum.run (~~~0) p) (c :: q) = PSum.run (PSum.upd (PSum.run (~~~0) p) c) q := rfl
    rw [f2] at e1
    rw [f1, u, PSum.run_diff, e1] at e2
    have z : PSum.stepN (8 * q.length) (PSum.upd 0 b) = 0 := by
      generalize PSum.stepN (8 * q.length) (PSum.upd 0 b) = y at *
      have : PSum.stepN 32 (~~~0) ^^^ (PSum.stepN 32 (~~~0) ^^^ y) = PSum.stepN 32 (~~~0) ^^^ PSum.stepN 32 (~~~0) := by rw [e2]
      rw [← BitVec.xor_assoc, BitVec.xor_self, BitVec.zero_xor] at this
      exact this
    have z1 := PSum.stepN_eq_zero _ z
    unfold PSum.upd at z1
    rw [show (0 : PSum.W) ^^^ PSum.ext b = PSum.ext b from BitVec.zero_xor] at z1
    have z2 := PSum.stepN_eq_zero _ z1
    have z3 := PSum.ext_lt b
    rw [z2] at z3
    exact hb (UInt8.toNat.inj (by simpa using z3.symm))
/-- which of two sectors' masters is loaded, one by one -/
def step (best : Mst) (i : Nat) (s : List UInt8) : Mst := if good s && (decide ((got s).count % 2 = i) && decide (best.count < (got s).count)) then got s else best
def load (x y : List UInt8) : Mst × Int := if (step (step zero 0 x) 1 y).count = 0 then (zero, 120) else (step (step zero 0 x) 1 y, 0)
/-- .. by the document -/
def rone (x : List UInt8) : Bool := good x && decide ((got x).count % 2 = 0)
def rtwo (y : List UInt8) : Bool := good y && decide ((got y).count % 2 = 1)
def rload (x y : List UInt8) : Mst × Int :=
  if rone x && (!rtwo y || decide ((got y).count < (got x).count)) then (got x, 0) else if rtwo y then (got y, 0) else (zero, 120)
theorem good_count {s : List UInt8} (h : good s = true) : 0 < (got s).count := by
  unfold good may at h
  simp only [Bool.and_eq_true, decide_eq_true_eq] at h
  exact h.1.1
theorem load_rload (x y : List UInt8) : load x y = rload x y := by
  unfold load rload rone rtwo step
  by_cases gx : good x = true
  · have cx := good_count gx
    by_cases gy : good y = true
    · have cy := good_count gy
      rw [gx, gy]
      generalize got x = a at *
      generalize got y = b at *
      simp only [zero, Bool.true_and, cx, cy, decide_true, Bool.and_true]
      by_cases p : a.count % 2 = 0 <;> by_cases q : b.count % 2 = 1 <;> by_cases r : a.count < b.count
      all_goals simp [p, q, r, cx, cy]
      all_goals try omega
      all_goals (try split) <;> first | rfl | omega | (rw [if_pos (by omega)]) | (rw [if_neg (by omega)])
    · have gy : good y = false := by simpa using gy
      rw [gx, gy]
      generalize got x = a at *
      by_cases p : a.count % 2 = 0
      · simp [p, cx, zero]; omega
      · simp [p, zero]
  · have gx : good x = false := by simpa using gx
    rw [gx]
    by_cases gy : good y = true
    · have cy := good_count gy
      rw [gy]
      generalize got y = b at *
      by_cases q : b.count % 2 = 1
      · simp [q, cy, zero]; omega
      · simp [q, zero]
    · have gy : good y = false := by simpa using gy
      rw [gy]
      simp [zero]
end PMst
