/-
  Records: slices.Equal of the second table.
-/
import Derived.Test.YtpkmnihiepbmcaaRec5
import Derived.Laws.StructEq
import Derived.Deep.RegionHeld3
import Derived.Deep.MidRow
namespace Go.Proofs.Ytpkmnihiepbmcaa
open Go.RowKit
open PRec (Rec Drt Atx)
def tEq (a b : Atx) : Bool := decide (a = b)
theorem eqin_act (a1 a2 a3 a4 b1 b2 b3 b4 : Nat) (w : World) : (Op.equalIn 10000 54 (.agg #[.int .u64 a1, .int .u64 a2, .int .u64 a3, .int .u64 a4]) (.agg #[.int .u64 b1, .int .u64 b2, .int .u64 b3, .int .u64 b4])).run Try.prog w = .ok (tEq ⟨a1, a2, a3, a4⟩ ⟨b1, b2, b3, b4⟩) w := by
  unfold tEq
  have e : (decide ((⟨a1, a2, a3, a4⟩ : Atx) = ⟨b1, b2, b3, b4⟩)) = (decide (a1 = b1) && (decide (a2 = b2) && (decide (a3 = b3) && decide (a4 = b4)))) := by
    rw [Bool.eq_iff_iff]; simp
  rw [e]
  go_simp
  by_cases h1 : a1 = b1 <;> by_cases h2 : a2 = b2 <;> by_cases h3 : a3 = b3 <;> by_cases h4 : a4 = b4 <;> simp [h1, h2, h3, h4, Int.ofNat_inj]
attribute [go_sem ↓] eqin_act
theorem eqT_any (A B : List Atx) (va vb : Value) (w : World) (ha : RdS w 4 va A.length (txnsV A)) (hb : RdS w 4 vb B.length (txnsV B)) : Calls Try.prog 26 #[va, vb] w fun e w' => e = .returned (.bool (decide (A = B))) ∧ Below w.heap.size w w' := by
  obtain ⟨pa, ca, rfl, ha1, ha2⟩ := ha.form
  obtain ⟨pb, cb, rfl, hb1, hb2⟩ := hb.form
  unfold maxLen at ha2 hb2
  have HA := Lib.hid ha
  have HB := Lib.hid hb
  clear ha hb
  by_cases hl : A.length = B.length
  · have yl : ((A.length : Int) != B.length) = false := by simp; omega
    have hl2 : (A.length : Int) = B.length := by omega
    have HL := Lib.hid hl
    clear hl
    go_enter Try.func26, Try.ntmps26
    go_wp2
    go_loopw [5, 13] (fun _ iv wr => ∃ k : Nat, k ≤ B.length ∧ iv = .int .i64 k ∧ Hid (A.take k = B.take k) ∧ Hid (Below w.heap.size w wr)) (fun _ iv _ => B.length - (intOf iv).toNat)
    case atStart => exact ⟨0, by omega, rfl, Lib.hid rfl, Lib.hid (Below.refl _ _)⟩
    case round =>
      obtain ⟨k, hk, rfl, HE, HW⟩ := hrel
      by_cases hlt : k < B.length
      · have hlA : k < A.length := by have := HL.out; omega
        obtain ⟨g1, off1, rfl, hg1, c0, c1, c2, c3⟩ := txns_cells (HA.out.step HW.out) hlA
        obtain ⟨g2, off2, rfl, hg2, d0, d1, d2, d3⟩ := txns_cells (HB.out.step HW.out) hlt
        have HX : Hid (A = B ↔ A[k] = B[k] ∧ A.drop (k + 1) = B.drop (k + 1)) := Lib.hid (by
          have e1 : A = A.take k ++ (A[k] :: A.drop (k + 1)) := by rw [← List.drop_eq_getElem_cons hlA, List.take_append_drop]
          have e2 : B = B.take k ++ (B[k] :: B.drop (k + 1)) := by rw [← List.drop_eq_getElem_cons hlt, List.take_append_drop]
          constructor
          · intro h; subst h; exact ⟨rfl, rfl⟩
          · intro h; rw [e1, e2, HE.out, h.1, h.2])
        have HT : Hid (A[k] = B[k] → A.take (k + 1) = B.take (k + 1)) := Lib.hid (fun h => by rw [List.take_succ_eq_append_getElem hlA, List.take_succ_eq_append_getElem hlt, HE.out, h])
        generalize A[k] = x at *
        generalize B[k] = y at *
        obtain ⟨x0, x1, x2, x3⟩ := x
        obtain ⟨y0, y1, y2, y3⟩ := y
        dsimp only at c0 c1 c2 c3 d0 d1 d2 d3
        have i0 : (0 : Int) ≤ k := by omega
        have i1 : (k : Int) < B.length := by omega
        have HK := Lib.hid hlt
        cases hq : tEq ⟨x0, x1, x2, x3⟩ ⟨y0, y1, y2, y3⟩
        · have HR : Hid (decide (A = B) = false) := Lib.hid (by unfold tEq at hq; rw [decide_eq_false_iff_not] at hq ⊢; intro h; exact hq (HX.out.1 h).1)
          go_wp2_with fail
          go_region_held3 (fun w' => w'.cell? ⟨g1, off1 + k * 4, none⟩ = some (.int .u64 x0) ∧ w'.cell? ⟨g1, off1 + k * 4 + 1, none⟩ = some (.int .u64 x1) ∧ w'.cell? ⟨g1, off1 + k * 4 + 2, none⟩ = some (.int .u64 x2) ∧ w'.cell? ⟨g1, off1 + k * 4 + 3, none⟩ = some (.int .u64 x3) ∧ w'.cell? ⟨g2, off2 + k * 4, none⟩ = some (.int .u64 y0) ∧ w'.cell? ⟨g2, off2 + k * 4 + 1, none⟩ = some (.int .u64 y1) ∧ w'.cell? ⟨g2, off2 + k * 4 + 2, none⟩ = some (.int .u64 y2) ∧ w'.cell? ⟨g2, off2 + k * 4 + 3, none⟩ = some (.int .u64 y3)) (first | exact ⟨c0, c1, c2, c3, d0, d1, d2, d3⟩ | go_keep) (fail)
          go_wp2
          go_ret
          exact ⟨ret_b HR.out.symm, HW.out.drew⟩
        · have HR : Hid (A.take (k + 1) = B.take (k + 1)) := Lib.hid (HT.out (by unfold tEq at hq; simpa using hq))
          go_wp2_with fail
          go_region_held3 (fun w' => w'.cell? ⟨g1, off1 + k * 4, none⟩ = some (.int .u64 x0) ∧ w'.cell? ⟨g1, off1 + k * 4 + 1, none⟩ = some (.int .u64 x1) ∧ w'.cell? ⟨g1, off1 + k * 4 + 2, none⟩ = some (.int .u64 x2) ∧ w'.cell? ⟨g1, off1 + k * 4 + 3, none⟩ = some (.int .u64 x3) ∧ w'.cell? ⟨g2, off2 + k * 4, none⟩ = some (.int .u64 y0) ∧ w'.cell? ⟨g2, off2 + k * 4 + 1, none⟩ = some (.int .u64 y1) ∧ w'.cell? ⟨g2, off2 + k * 4 + 2, none⟩ = some (.int .u64 y2) ∧ w'.cell? ⟨g2, off2 + k * 4 + 3, none⟩ = some (.int .u64 y3)) (first | exact ⟨c0, c1, c2, c3, d0, d1, d2, d3⟩ | go_keep) (fail)
          go_wp2
          have hk9 := HK.out
          exact ⟨⟨k + 1, hk9, by go_num, HR, Lib.hid HW.out.drew⟩, by simp [intOf]; omega⟩
      · have hkn : k = B.length := by omega
        subst hkn
        have i1 : ¬ (B.length : Int) < B.length := by omega
        have HR : Hid (A = B) := Lib.hid (by have h := HE.out; rw [List.take_length, ← HL.out, List.take_length] at h; exact h)
        go_wp2
        go_ret
        exact ⟨ret_b (by simp [HR.out]), HW.out⟩
  · have yl : ((A.length : Int) != B.length) = true := by simp; omega
    have HR : Hid (decide (A = B) = false) := Lib.hid (by rw [decide_eq_false_iff_not]; intro h; exact hl (by rw [h]))
    clear hl
    go_enter Try.func26, Try.ntmps26
    go_wp2
    go_ret
    exact ⟨ret_b HR.out.symm, Below.refl _ _⟩
end Go.Proofs.Ytpkmnihiepbmcaa
