/-
  Records: slices.Equal of the first table.
-/
import Derived.Test.YtpkmnihiepbmcaaRec4
import Derived.Laws.StructEq
import Derived.Deep.RegionHeld3
import Derived.Deep.MidRow
namespace Go.Proofs.Ytpkmnihiepbmcaa
open Go.RowKit
open PRec (Rec Drt Atx)
def dEq (a b : Drt) : Bool := decide (a = b)
theorem eqin_drt (a1 a2 b1 b2 : Nat) (w : World) : (Op.equalIn 10000 52 (.agg #[.int .u32 a1, .int .u64 a2]) (.agg #[.int .u32 b1, .int .u64 b2])).run Try.prog w = .ok (dEq ⟨a1, a2⟩ ⟨b1, b2⟩) w := by
  unfold dEq
  have e : (decide ((⟨a1, a2⟩ : Drt) = ⟨b1, b2⟩)) = (decide (a1 = b1) && decide (a2 = b2)) := by
    rw [Bool.eq_iff_iff]; simp
  rw [e]
  go_simp
  by_cases h1 : a1 = b1 <;> by_cases h2 : a2 = b2 <;> simp [h1, h2, Int.ofNat_inj]
attribute [go_sem ↓] eqin_drt
theorem eqD_any (A B : List Drt) (va vb : Value) (w : World) (ha : RdS w 2 va A.length (dirtyV A)) (hb : RdS w 2 vb B.length (dirtyV B)) : Calls Try.prog 25 #[va, vb] w fun e w' => e = .returned (.bool (decide (A = B))) ∧ Below w.heap.size w w' := by
  obtain ⟨pa, ca, rfl, ha1, ha2⟩ := ha.form
  obtain ⟨pb, cb, rfl, hb1, hb2⟩ := hb.form
  unfold maxLen at ha2 hb2
  have HA := Lib.hid ha
  have HB := Lib.hid hb
  clear ha hb
  by_cases hl : A.length = B.length
  · have y0 : ((A.length : Int) != B.length) = false := by simp; omega
    have hl2 : (A.length : Int) = B.length := by omega
    have HL := Lib.hid hl
    clear hl
    go_enter Try.func25, Try.ntmps25
    go_wp2
    go_loopw [5, 13] (fun _ iv wr => ∃ k : Nat, k ≤ B.length ∧ iv = .int .i64 k ∧ Hid (A.take k = B.take k) ∧ Hid (Below w.heap.size w wr)) (fun _ iv _ => B.length - (intOf iv).toNat)
    case atStart => exact ⟨0, by omega, rfl, Lib.hid rfl, Lib.hid (Below.refl _ _)⟩
    case round =>
      obtain ⟨k, hk, rfl, HE, HW⟩ := hrel
      by_cases hlt : k < B.length
      · have hlA : k < A.length := by have := HL.out; omega
        obtain ⟨g1, off1, rfl, hg1, c0, c1⟩ := dirty_cells (HA.out.step HW.out) hlA
        obtain ⟨g2, off2, rfl, hg2, d0, d1⟩ := dirty_cells (HB.out.step HW.out) hlt
        have HX : Hid (A = B ↔ A[k] = B[k] ∧ A.drop (k + 1) = B.drop (k + 1)) := Lib.hid (by
          have e1 : A = A.take k ++ (A[k] :: A.drop (k + 1)) := by rw [← List.drop_eq_getElem_cons hlA, List.take_append_drop]
          have e2 : B = B.take k ++ (B[k] :: B.drop (k + 1)) := by rw [← List.drop_eq_getElem_cons hlt, List.take_append_drop]
          constructor
          · intro h; subst h; exact ⟨rfl, rfl⟩
          · intro h; rw [e1, e2, HE.out, h.1, h.2])
        have HT : Hid (A[k] = B[k] → A.take (k + 1) = B.take (k + 1)) := Lib.hid (fun h => by rw [List.take_succ_eq_append_getElem hlA, List.take_succ_eq_append_getElem hlt, HE.out, h])
        generalize A[k] = x at *
        generalize B[k] = y at *
        obtain ⟨xp, xs⟩ := x
        obtain ⟨yp, ys⟩ := y
        dsimp only at c0 c1 d0 d1
        have i0 : (0 : Int) ≤ k := by omega
        have i1 : (k : Int) < B.length := by omega
        have HK := Lib.hid hlt
        cases hq : dEq ⟨xp, xs⟩ ⟨yp, ys⟩
        · have HR : Hid (decide (A = B) = false) := Lib.hid (by unfold dEq at hq; rw [decide_eq_false_iff_not] at hq ⊢; intro h; exact hq (HX.out.1 h).1)
          go_wp2_with fail
          go_region_held3 (fun w' => w'.cell? ⟨g1, off1 + k * 2, none⟩ = some (.int .u32 xp) ∧ w'.cell? ⟨g1, off1 + k * 2 + 1, none⟩ = some (.int .u64 xs) ∧ w'.cell? ⟨g2, off2 + k * 2, none⟩ = some (.int .u32 yp) ∧ w'.cell? ⟨g2, off2 + k * 2 + 1, none⟩ = some (.int .u64 ys)) (first | exact ⟨c0, c1, d0, d1⟩ | go_keep) (fail)
          go_wp2
          go_ret
          exact ⟨ret_b HR.out.symm, HW.out.drew⟩
        · have HR : Hid (A.take (k + 1) = B.take (k + 1)) := Lib.hid (HT.out (by unfold dEq at hq; simpa using hq))
          go_wp2_with fail
          go_region_held3 (fun w' => w'.cell? ⟨g1, off1 + k * 2, none⟩ = some (.int .u32 xp) ∧ w'.cell? ⟨g1, off1 + k * 2 + 1, none⟩ = some (.int .u64 xs) ∧ w'.cell? ⟨g2, off2 + k * 2, none⟩ = some (.int .u32 yp) ∧ w'.cell? ⟨g2, off2 + k * 2 + 1, none⟩ = some (.int .u64 ys)) (first | exact ⟨c0, c1, d0, d1⟩ | go_keep) (fail)
          go_wp2
          have hk9 := HK.out
          exact ⟨⟨k + 1, hk9, by go_num, HR, Lib.hid HW.out.drew⟩, by simp [intOf]; omega⟩
      · have hkn : k = B.length := by omega
        subst hkn
        have i1 : ¬ (B.length : Int) < B.length := by omega
        have HR : Hid (A = B) := Lib.hid (by have h := HE.out; rw [List.take_length, ← HL.out, List.take_length] at h; exact h)
        go_wp2
        go_ret
        exact ⟨ret_b (by simp [HR.out]), HW.out⟩
  · have y0 : ((A.length : Int) != B.length) = true := by simp; omega
    have HR : Hid (decide (A = B) = false) := Lib.hid (by rw [decide_eq_false_iff_not]; intro h; exact hl (by rw [h]))
    clear hl
    go_enter Try.func25, Try.ntmps25
    go_wp2
    go_ret
    exact ⟨ret_b HR.out.symm, Below.refl _ _⟩
end Go.Proofs.Ytpkmnihiepbmcaa
