/-
  Records: Undone, Heavy.
-/
import Derived.Test.YtpkmnihiepbmcaaRec2
namespace Go.Proofs.Ytpkmnihiepbmcaa
open Go.RowKit
open PRec (Rec Drt Atx)
theorem undone_any (r : Rec) (vd vt : Value) (w : World) : Calls Try.prog 16 #[rv r vd vt] w fun e w' => e = .returned (.bool (PRec.undone r)) ∧ Below w.heap.size w w' := by
  unfold rv
  by_cases h2 : r.kind = 2
  · have k2 : ((r.kind : Int) == 2) = true := by simp; omega
    have HR : Hid (PRec.undone r = decide (0 < r.page)) := Lib.hid (by simp [PRec.undone, h2])
    clear h2
    go_enter Try.func16, Try.ntmps16
    go_wp2
    go_ret
    exact ⟨ret_b (by rw [HR.out]), (Below.refl _ _).alloc (Nat.le_refl _) _⟩
  · have k2 : ((r.kind : Int) == 2) = false := by simp; omega
    have HR : Hid (PRec.undone r = false) := Lib.hid (by simp [PRec.undone, h2])
    clear h2
    go_enter Try.func16, Try.ntmps16
    go_wp2
    go_ret
    exact ⟨ret_b (by rw [HR.out]), (Below.refl _ _).alloc (Nat.le_refl _) _⟩
def heavy (r : Rec) : Bool := decide (8192 < r.body.length) || (decide (100 < r.dirty.length) || decide (100 < r.txns.length))
theorem heavy9_any (r : Rec) (vd vt : Value) (w : World) (h : RecIn w r vd vt) : Calls Try.prog 7 #[rv r vd vt] w fun e w' => e = .returned (.bool (heavy r)) ∧ Below w.heap.size w w' := by
  obtain ⟨pd, cd, rfl, hd1, hd2⟩ := h.1.form
  obtain ⟨pt, ct, rfl, ht1, ht2⟩ := h.2.form
  clear h
  unfold rv
  by_cases h1 : 8192 < r.body.length
  · have y1 : (8192 : Int) < r.body.length := by omega
    have HR : Hid (heavy r = true) := Lib.hid (by simp [heavy, h1])
    go_enter Try.func7, Try.ntmps7
    go_wp2
    go_ret
    exact ⟨ret_b (by rw [HR.out]), (Below.refl _ _).alloc (Nat.le_refl _) _⟩
  · by_cases h2 : 100 < r.dirty.length
    · have y1 : ¬ (8192 : Int) < r.body.length := by omega
      have y2 : (100 : Int) < r.dirty.length := by omega
      have HR : Hid (heavy r = true) := Lib.hid (by simp [heavy, h2])
      go_enter Try.func7, Try.ntmps7
      go_wp2
      go_ret
      exact ⟨ret_b (by rw [HR.out]), (Below.refl _ _).alloc (Nat.le_refl _) _⟩
    · have y1 : ¬ (8192 : Int) < r.body.length := by omega
      have y2 : ¬ (100 : Int) < r.dirty.length := by omega
      have HR : Hid (heavy r = decide ((100 : Int) < r.txns.length)) := Lib.hid (by rw [Bool.eq_iff_iff]; simp [heavy]; omega)
      go_enter Try.func7, Try.ntmps7
      go_wp2
      go_ret
      exact ⟨ret_b (by rw [HR.out]; try simp), (Below.refl _ _).alloc (Nat.le_refl _) _⟩
end Go.Proofs.Ytpkmnihiepbmcaa
