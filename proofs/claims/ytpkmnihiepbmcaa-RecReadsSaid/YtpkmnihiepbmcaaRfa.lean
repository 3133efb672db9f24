/-
  Records, the document's answer: body, get, rest, plain.
-/
import Derived.Test.YtpkmnihiepbmcaaRec6
import Derived.Deep.DeepCutAuto
namespace Go.Proofs.Ytpkmnihiepbmcaa
open Go.RowKit
open PRec (Rec Drt Atx)
theorem rbody_any (s : ByteArray) (w : World) : Calls Try.prog 21 #[.string s] w fun e w' => e = .returned (.bool (decide (1 ≤ s.size) && decide (s.size ≤ 3072))) ∧ w = w' := by
  by_cases h1 : 1 ≤ s.size
  · have y1 : (1 : Int) ≤ s.size := by omega
    have HR : Hid ((decide (1 ≤ s.size) && decide (s.size ≤ 3072)) = decide ((s.size : Int) ≤ 3072)) := Lib.hid (by simp only [h1, decide_true, Bool.true_and]; rw [Bool.eq_iff_iff]; simp; omega)
    clear h1
    go_enter Try.func21, Try.ntmps21
    go_wp2
    go_ret
    exact ⟨ret_b HR.out.symm, rfl⟩
  · have y1 : ¬ (1 : Int) ≤ s.size := by omega
    have HR : Hid ((decide (1 ≤ s.size) && decide (s.size ≤ 3072)) = false) := Lib.hid (by simp [h1])
    clear h1
    go_enter Try.func21, Try.ntmps21
    go_wp2
    go_ret
    exact ⟨ret_b HR.out.symm, rfl⟩
theorem rget_nat (s : ByteArray) (hs : s.size ≤ maxLen) (p k : Nat) (w : World) : Calls Try.prog 30 #[.string s, .int .i64 p, .int .i64 k] w fun e w' => e = .returned (.int .u64 (PRec.g s.data.toList p k)) ∧ w = w' := by
  have HG := Lib.hid (fun W => rget_any s p k hs W)
  have HGG : Hid (PRec.g s.data.toList p k = (PWord.get s.data.toList p k).1) := Lib.hid rfl
  generalize PWord.get s.data.toList p k = G at *
  obtain ⟨gn, gb⟩ := G
  dsimp only at HG HGG
  go_enter Try.func30, Try.ntmps30
  go_wp2_with fail
  refine (HG.out _).mono ?_
  rintro e w1 ⟨rfl, rfl⟩
  go_wp2
  go_ret
  exact ⟨by rw [HGG.out]; rfl, rfl⟩
theorem rrest_any (s : ByteArray) (p : Nat) (w : World) : Calls Try.prog 31 #[.string s, .int .i64 p] w fun e w' => e = .returned (.string ⟨(PRec.rest s.data.toList p).toArray⟩) ∧ w = w' := by
  by_cases h : s.size < p
  · have y : (s.size : Int) < p := by omega
    have HR : Hid (PRec.rest s.data.toList p = []) := Lib.hid (by unfold PRec.rest; rw [List.drop_eq_nil_iff]; show s.size ≤ p; omega)
    clear h
    go_enter Try.func31, Try.ntmps31
    go_wp2
    go_ret
    exact ⟨by rw [HR.out]; rfl, rfl⟩
  · have y : ¬ (s.size : Int) < p := by omega
    have i1 : (0 : Int) ≤ p := by omega
    have i2 : (p : Int) ≤ s.size := by omega
    have HR : Hid (s.extract p s.size = ⟨(PRec.rest s.data.toList p).toArray⟩) := Lib.hid (by
      rw [extract_mid]
      unfold PRec.rest
      congr 2
      rw [List.take_of_length_le]
      rw [List.length_drop]
      exact Nat.le_refl _)
    clear h
    go_enter Try.func31, Try.ntmps31
    go_wp2
    go_ret
    exact ⟨by rw [← HR.out]; rfl, rfl⟩
theorem nat0 (k : Nat) : ((k : Int) == 0) = decide (k = 0) := by rw [Bool.eq_iff_iff]; simp
def rEq0 (a b c d : Nat) : Bool := decide (a = c) && decide (b = d)
theorem eqin_roll0 (a1 a2 : Nat) (w : World) : (Op.equalIn 10000 26 (.agg #[.int .u32 a1, .int .u16 a2]) (.agg #[.int .u32 0, .int .u16 0])).run Try.prog w = .ok (rEq0 a1 a2 0 0) w := by
  unfold rEq0
  go_simp
  by_cases h1 : a1 = 0 <;> by_cases h2 : a2 = 0 <;> simp [h1, h2]
attribute [go_sem ↓] eqin_roll0
def plainB (r : Rec) : Bool := decide (r.page = 0 ∧ r.slot = 0 ∧ r.next = 0 ∧ r.number = 0 ∧ r.body = [] ∧ r.dirty = [] ∧ r.txns = [] ∧ r.ttx = 0 ∧ r.tnum = 0)
set_option maxRecDepth 20000 in
set_option maxHeartbeats 8000000 in
theorem rplain_any (r : Rec) (vd vt : Value) (w : World) (h : RecIn w r vd vt) : Calls Try.prog 23 #[rv r vd vt] w fun e w' => e = .returned (.bool (plainB r)) ∧ Below w.heap.size w w' := by
  obtain ⟨pd, cd, rfl, _, _⟩ := h.1.form
  obtain ⟨pt, ct, rfl, _, _⟩ := h.2.form
  clear h
  unfold rv
  obtain ⟨sb, hsb⟩ : ∃ x : ByteArray, (⟨r.body.toArray⟩ : ByteArray) = x := ⟨_, rfl⟩
  have HBO : Hid (sb.toList = r.body) := Lib.hid (by rw [← hsb, bytes_eq])
  rw [hsb]
  clear hsb
  have HB := Lib.hid (((Below.refl w.heap.size w).alloc (Nat.le_refl _) (.cells #[.int .u8 r.kind, .int .u64 r.tx, .int .u64 r.prev, .int .u32 r.page, .int .u16 r.slot, .int .u64 r.next, .int .u64 r.number, .string sb, .slice pd r.dirty.length cd, .slice pt r.txns.length ct, .int .u64 r.ttx, .int .u64 r.tnum] 32)).alloc (by simp) (.cells #[.slice pd r.dirty.length cd, .slice pt r.txns.length ct, .int .u64 r.ttx, .int .u64 r.tnum] 30))
  by_cases h0 : r.page = 0 ∧ r.slot = 0
  · have z0 : rEq0 r.page r.slot 0 0 = true := by unfold rEq0; rw [Bool.eq_iff_iff]; simp; exact h0
    by_cases h1 : r.next = 0
    · have z1 : ((r.next : Int) == 0) = true := (nat0 _).trans (decide_eq_true h1)
      by_cases h2 : r.number = 0
      · have z2 : ((r.number : Int) == 0) = true := (nat0 _).trans (decide_eq_true h2)
        by_cases h3 : r.body = []
        · have z3 : sb.toList.isEmpty = true := by rw [HBO.out]; rw [h3]; rfl
          by_cases h4 : r.dirty.length = 0
          · have z4 : ((r.dirty.length : Int) == 0) = true := (nat0 _).trans (decide_eq_true h4)
            by_cases h5 : r.txns.length = 0
            · have z5 : ((r.txns.length : Int) == 0) = true := (nat0 _).trans (decide_eq_true h5)
              by_cases h6 : r.ttx = 0
              · have z6 : ((r.ttx : Int) == 0) = true := (nat0 _).trans (decide_eq_true h6)
                by_cases h7 : r.tnum = 0
                · have z7 : ((r.tnum : Int) == 0) = true := (nat0 _).trans (decide_eq_true h7)
                  have HR : Hid (plainB r = true) := Lib.hid (by unfold plainB; rw [decide_eq_true_eq]; exact ⟨h0.1, h0.2, h1, h2, h3, List.length_eq_zero_iff.1 h4, List.length_eq_zero_iff.1 h5, h6, h7⟩)
                  clear h0 h1 h2 h3 h4 h5 h6 h7
                  go_enter Try.func23, Try.ntmps23
                  go_wp2
                  go_ret
                  exact ⟨ret_b HR.out.symm, HB.out⟩
                · have z7 : ((r.tnum : Int) == 0) = false := (nat0 _).trans (decide_eq_false h7)
                  have HR : Hid (plainB r = false) := Lib.hid (by unfold plainB; rw [decide_eq_false_iff_not]; intro h; exact h7 h.2.2.2.2.2.2.2.2)
                  clear h0 h1 h2 h3 h4 h5 h6 h7
                  go_enter Try.func23, Try.ntmps23
                  go_wp2
                  go_ret
                  exact ⟨ret_b HR.out.symm, HB.out⟩
              · have z6 : ((r.ttx : Int) == 0) = false := (nat0 _).trans (decide_eq_false h6)
                have HR : Hid (plainB r = false) := Lib.hid (by unfold plainB; rw [decide_eq_false_iff_not]; intro h; exact h6 h.2.2.2.2.2.2.2.1)
                clear h0 h1 h2 h3 h4 h5 h6
                go_enter Try.func23, Try.ntmps23
                go_wp2
                go_ret
                exact ⟨ret_b HR.out.symm, HB.out⟩
            · have z5 : ((r.txns.length : Int) == 0) = false := (nat0 _).trans (decide_eq_false h5)
              have HR : Hid (plainB r = false) := Lib.hid (by unfold plainB; rw [decide_eq_false_iff_not]; intro h; exact h5 (by rw [h.2.2.2.2.2.2.1]; rfl))
              clear h0 h1 h2 h3 h4 h5
              go_enter Try.func23, Try.ntmps23
              go_wp2
              go_ret
              exact ⟨ret_b HR.out.symm, HB.out⟩
          · have z4 : ((r.dirty.length : Int) == 0) = false := (nat0 _).trans (decide_eq_false h4)
            have HR : Hid (plainB r = false) := Lib.hid (by unfold plainB; rw [decide_eq_false_iff_not]; intro h; exact h4 (by rw [h.2.2.2.2.2.1]; rfl))
            clear h0 h1 h2 h3 h4
            go_enter Try.func23, Try.ntmps23
            go_wp2
            go_ret
            exact ⟨ret_b HR.out.symm, HB.out⟩
        · have z3 : sb.toList.isEmpty = false := by rw [HBO.out]; simpa using h3
          have HR : Hid (plainB r = false) := Lib.hid (by unfold plainB; rw [decide_eq_false_iff_not]; intro h; exact h3 h.2.2.2.2.1)
          clear h0 h1 h2 h3
          go_enter Try.func23, Try.ntmps23
          go_wp2
          go_ret
          exact ⟨ret_b HR.out.symm, HB.out⟩
      · have z2 : ((r.number : Int) == 0) = false := (nat0 _).trans (decide_eq_false h2)
        have HR : Hid (plainB r = false) := Lib.hid (by unfold plainB; rw [decide_eq_false_iff_not]; intro h; exact h2 h.2.2.2.1)
        clear h0 h1 h2
        go_enter Try.func23, Try.ntmps23
        go_wp2
        go_ret
        exact ⟨ret_b HR.out.symm, HB.out⟩
    · have z1 : ((r.next : Int) == 0) = false := (nat0 _).trans (decide_eq_false h1)
      have HR : Hid (plainB r = false) := Lib.hid (by unfold plainB; rw [decide_eq_false_iff_not]; intro h; exact h1 h.2.2.1)
      clear h0 h1
      go_enter Try.func23, Try.ntmps23
      go_wp2
      go_ret
      exact ⟨ret_b HR.out.symm, HB.out⟩
  · have z0 : rEq0 r.page r.slot 0 0 = false := by unfold rEq0; rw [Bool.eq_iff_iff]; simp; omega
    have HR : Hid (plainB r = false) := Lib.hid (by unfold plainB; rw [decide_eq_false_iff_not]; intro h; exact h0 ⟨h.1, h.2.1⟩)
    clear h0
    go_enter Try.func23, Try.ntmps23
    go_wp2
    go_ret
    exact ⟨ret_b HR.out.symm, HB.out⟩
end Go.Proofs.Ytpkmnihiepbmcaa
