/-
  Records: put, fits.
-/
import Derived.Test.YtpkmnihiepbmcaaRecV
namespace Go.Proofs.Ytpkmnihiepbmcaa
open Go.RowKit
open PRec (Rec Drt Atx)
theorem ret_b {a b : Bool} (h : a = b) : Ending.returned (.bool a) = .returned (.bool b) := by rw [h]
theorem put9_any (n k : Nat) (h1 : 1 ≤ k) (h8 : k ≤ 8) (hn : n < 256 ^ k) (w : World) : Calls Try.prog 32 #[.int .u64 n, .int .i64 k] w fun e w' => e = .returned (.string ⟨(PWord.be k n).toArray⟩) ∧ Below w.heap.size w w' := by
  have hp : Hid (PWord.put n k = (PWord.be k n, true)) := Lib.hid (put_yes n k h1 h8 (Nat.div_eq_of_lt hn))
  have hn2 : n < 18446744073709551616 := by
    have h2 : 256 ^ k ≤ 256 ^ 8 := Nat.pow_le_pow_right (by decide) h8
    have h3 : (256 : Nat) ^ 8 = 18446744073709551616 := by decide
    omega
  clear hn
  go_enter Try.func32, Try.ntmps32
  go_wp2_with fail
  refine (put_any n k hn2 _).mono ?_
  rintro e w1 ⟨rfl, hb⟩
  rw [hp.out]
  go_wp2
  go_ret
  exact ⟨rfl, hb⟩
theorem rput9_any (n k : Nat) (h1 : 1 ≤ k) (h8 : k ≤ 8) (hn : n < 256 ^ k) (w : World) : Calls Try.prog 20 #[.int .u64 n, .int .i64 k] w fun e w' => e = .returned (.string ⟨(PWord.be k n).toArray⟩) ∧ Below w.heap.size w w' := by
  have hp : Hid (PWord.put n k = (PWord.be k n, true)) := Lib.hid (put_yes n k h1 h8 (Nat.div_eq_of_lt hn))
  have hn2 : n < 18446744073709551616 := by
    have h2 : 256 ^ k ≤ 256 ^ 8 := Nat.pow_le_pow_right (by decide) h8
    have h3 : (256 : Nat) ^ 8 = 18446744073709551616 := by decide
    omega
  clear hn
  go_enter Try.func20, Try.ntmps20
  go_wp2_with fail
  refine (rput_any n k hn2 _).mono ?_
  rintro e w1 ⟨rfl, hb⟩
  rw [hp.out]
  go_wp2
  go_ret
  exact ⟨rfl, hb⟩
set_option maxHeartbeats 4000000 in
theorem fits_any (r : Rec) (hok : r.Ok) (vd vt : Value) (w : World) (h : RecIn w r vd vt) : Calls Try.prog 34 #[.agg #[vd, vt, .int .u64 r.ttx, .int .u64 r.tnum]] w fun e w' => e = .returned (.bool (PRec.fits r)) ∧ Below w.heap.size w w' := by
  obtain ⟨pd, cd, rfl, hd1, hd2⟩ := h.1.form
  obtain ⟨pt, ct, rfl, ht1, ht2⟩ := h.2.form
  have HD := Lib.hid h.1
  have HT := Lib.hid h.2
  have HOD := Lib.hid hok.2.2.2.2.2.2.2.1
  have HOT := Lib.hid hok.2.2.2.2.2.2.2.2.1
  have hx := hok.2.2.2.2.2.2.2.2.2
  have hx1 := hx.1
  have hx2 := hx.2
  unfold maxLen at hd2 ht2
  have HF : Hid (PRec.fits r = (PRec.fitsD 0 r.dirty && (PRec.fitsT 0 r.txns && (decide (r.dirty.length ≤ 64) && (decide (r.txns.length ≤ 64) && (decide (0 < r.ttx) && decide (0 < r.tnum))))))) := Lib.hid rfl
  have hBx : ∀ a t, Below w.heap.size w (w.alloc (.cells a t)) := fun a t => (Below.refl _ _).alloc (Nat.le_refl _) _
  have HBX := Lib.hid hBx
  clear h hok hx hBx
  generalize r.dirty = D at *
  generalize r.txns = T at *
  generalize r.ttx = tx at *
  generalize r.tnum = tn at *
  go_enter Try.func34, Try.ntmps34
  go_wp2
  go_loopw [3, 12] (fun pv iv wr => ∃ k p : Nat, k ≤ D.length ∧ iv = .int .i64 k ∧ pv = .int .u32 p ∧ Hid (PRec.fitsD 0 D = PRec.fitsD p (D.drop k)) ∧ Hid (Below w.heap.size w wr ∧ wr.cell? ⟨w.heap.size, 0, none⟩ = some (.slice pd D.length cd) ∧ wr.cell? ⟨w.heap.size, 1, none⟩ = some (.slice pt T.length ct) ∧ wr.cell? ⟨w.heap.size, 2, none⟩ = some (.int .u64 tx) ∧ wr.cell? ⟨w.heap.size, 3, none⟩ = some (.int .u64 tn) ∧ w.heap.size < wr.heap.size)) (fun _ iv _ => D.length - (intOf iv).toNat)
  case atStart => exact ⟨0, 0, by omega, rfl, rfl, Lib.hid (by simp), Lib.hid ⟨HBX.out _ _, by simp [World.cell?_alloc_new], by simp [World.cell?_alloc_new], by simp [World.cell?_alloc_new], by simp [World.cell?_alloc_new], by simp⟩⟩
  case round =>
    obtain ⟨k, p, hk, rfl, rfl, HE, HW⟩ := hrel
    by_cases hlt : k < D.length
    · obtain ⟨g, off, rfl, hg, c0, c1⟩ := dirty_cells (HD.out.step HW.out.1) hlt
      have hdk := HOD.out D[k] (List.getElem_mem hlt)
      have hdr : D.drop k = D[k] :: D.drop (k + 1) := List.drop_eq_getElem_cons hlt
      have HDR := Lib.hid hdr
      generalize D[k] = d at *
      obtain ⟨pg, si⟩ := d
      obtain ⟨q1, q2⟩ := hdk
      dsimp only at q1 q2 c0 c1
      have i0 : (0 : Int) ≤ k := by omega
      have i1 : (k : Int) < D.length := by omega
      have HNX := Lib.hid (fun o => (⟨HW.out.1.alloc HW.out.1.size o, (Below.refl wr.heap.size wr).alloc (Nat.le_refl _) o⟩ : Below w.heap.size w (wr.alloc o) ∧ Below wr.heap.size wr (wr.alloc o)))
      clear hdr
      by_cases h1 : p < pg
      · have hz : ¬ pg ≤ p := by omega
        by_cases h2 : si = 0
        · have hs : (si : Int) = 0 := by omega
          have HR : Hid (PRec.fits r = false) := Lib.hid (by rw [HF.out, HE.out, HDR.out]; simp [PRec.fitsD, h2])
          clear h2
          go_wp2
          go_ret
          exact ⟨ret_b HR.out.symm, (HNX.out _).1⟩
        · have hs : ((si : Int) == 0) = false := by simp; omega
          clear h2
          go_wp2
          refine ⟨⟨k + 1, pg, by omega, by go_num, rfl, Lib.hid ?_, Lib.hid ?_⟩, by simp [intOf]; omega⟩
          · rw [HE.out, HDR.out]
            have : si ≠ 0 := by intro e; subst e; simp at hs
            simp [PRec.fitsD, h1, this]
          · have hb := (HNX.out (.cells #[.int .u32 pg, .int .u64 si] 52)).2
            exact ⟨(HNX.out _).1, (hb.cell (p := ⟨w.heap.size, 0, none⟩) HW.out.2.2.2.2.2).trans HW.out.2.1, (hb.cell (p := ⟨w.heap.size, 1, none⟩) HW.out.2.2.2.2.2).trans HW.out.2.2.1, (hb.cell (p := ⟨w.heap.size, 2, none⟩) HW.out.2.2.2.2.2).trans HW.out.2.2.2.1, (hb.cell (p := ⟨w.heap.size, 3, none⟩) HW.out.2.2.2.2.2).trans HW.out.2.2.2.2.1, by have := HW.out.2.2.2.2.2; simp; omega⟩
      · have hz : pg ≤ p := by omega
        have HR : Hid (PRec.fits r = false) := Lib.hid (by rw [HF.out, HE.out, HDR.out]; simp [PRec.fitsD, h1])
        clear h1
        go_wp2
        go_ret
        exact ⟨ret_b HR.out.symm, (HNX.out _).1⟩
    · have hkn : k = D.length := by omega
      have i1 : ¬ (k : Int) < D.length := by omega
      have HE2 : Hid (PRec.fitsD 0 D = true) := Lib.hid (by rw [HE.out, hkn, List.drop_length]; rfl)
      obtain ⟨w0, w1, w2, w3, w4, w5⟩ := HW.out
      have HW0 := Lib.hid w0
      clear hkn hlt HE w0
      go_wp2
      go_loopw [4, 31] (fun pv iv wt => ∃ k p : Nat, k ≤ T.length ∧ iv = .int .i64 k ∧ pv = .int .u64 p ∧ Hid (PRec.fitsT 0 T = PRec.fitsT p (T.drop k)) ∧ Hid (Below w.heap.size w wt ∧ wt.cell? ⟨w.heap.size, 0, none⟩ = some (.slice pd D.length cd) ∧ wt.cell? ⟨w.heap.size, 1, none⟩ = some (.slice pt T.length ct) ∧ wt.cell? ⟨w.heap.size, 2, none⟩ = some (.int .u64 tx) ∧ wt.cell? ⟨w.heap.size, 3, none⟩ = some (.int .u64 tn) ∧ w.heap.size < wt.heap.size)) (fun _ iv _ => T.length - (intOf iv).toNat)
      case atStart => exact ⟨0, 0, by omega, rfl, rfl, Lib.hid (by simp), Lib.hid ⟨HW0.out, w1, w2, w3, w4, w5⟩⟩
      case round =>
        clear w1 w2 w3 w4 w5 HW
        obtain ⟨k, p, hk2, rfl, rfl, HE, HW⟩ := hrel
        by_cases hlt : k < T.length
        · obtain ⟨g, off, rfl, hg, c0, c1, c2, c3⟩ := txns_cells (HT.out.step HW.out.1) hlt
          have hdk := HOT.out T[k] (List.getElem_mem hlt)
          have HDR := Lib.hid (List.drop_eq_getElem_cons hlt)
          generalize T[k] = d at *
          obtain ⟨xt, xf, xl, xn⟩ := d
          obtain ⟨q1, q2, q3, q4⟩ := hdk
          dsimp only at q1 q2 q3 q4 c0 c1 c2 c3
          have i0 : (0 : Int) ≤ k := by omega
          have i2 : (k : Int) < T.length := by omega
          have HNX := Lib.hid (fun o => (⟨HW.out.1.alloc HW.out.1.size o, (Below.refl wr.heap.size wr).alloc (Nat.le_refl _) o⟩ : Below w.heap.size w (wr.alloc o) ∧ Below wr.heap.size wr (wr.alloc o)))
          have hcs : (p < xt ∧ xf ≠ 0 ∧ xl ≠ 0) ∨ (¬ p < xt) ∨ (p < xt ∧ xf = 0) ∨ (p < xt ∧ xf ≠ 0 ∧ xl = 0) := by omega
          rcases hcs with ⟨g1, g2, g3⟩ | g1 | ⟨g1, g2⟩ | ⟨g1, g2, g3⟩
          · have z1 : ¬ xt ≤ p := by omega
            have z2 : ((xf : Int) == 0) = false := by simp; omega
            have z3 : ((xl : Int) == 0) = false := by simp; omega
            have HN1 : Hid (PRec.fitsT 0 T = PRec.fitsT xt (T.drop (k + 1))) := Lib.hid (by rw [HE.out, HDR.out]; simp [PRec.fitsT, g1, g2, g3])
            clear g1 g2 g3
            go_wp2
            refine ⟨⟨k + 1, xt, by omega, by go_num, rfl, HN1, Lib.hid ?_⟩, by simp [intOf]; omega⟩
            have hb := (HNX.out (.cells #[.int .u64 xt, .int .u64 xf, .int .u64 xl, .int .u64 xn] 54)).2
            exact ⟨(HNX.out _).1, (hb.cell (p := ⟨w.heap.size, 0, none⟩) HW.out.2.2.2.2.2).trans HW.out.2.1, (hb.cell (p := ⟨w.heap.size, 1, none⟩) HW.out.2.2.2.2.2).trans HW.out.2.2.1, (hb.cell (p := ⟨w.heap.size, 2, none⟩) HW.out.2.2.2.2.2).trans HW.out.2.2.2.1, (hb.cell (p := ⟨w.heap.size, 3, none⟩) HW.out.2.2.2.2.2).trans HW.out.2.2.2.2.1, by have := HW.out.2.2.2.2.2; simp; omega⟩
          · have z1 : xt ≤ p := by omega
            have HR : Hid (PRec.fits r = false) := Lib.hid (by rw [HF.out, HE2.out, HE.out, HDR.out]; simp [PRec.fitsT, g1])
            clear g1
            go_wp2
            go_ret
            exact ⟨ret_b HR.out.symm, (HNX.out _).1⟩
          · have z1 : ¬ xt ≤ p := by omega
            have z2 : (xf : Int) = 0 := by omega
            have HR : Hid (PRec.fits r = false) := Lib.hid (by rw [HF.out, HE2.out, HE.out, HDR.out]; simp [PRec.fitsT, g2])
            clear g1 g2
            go_wp2
            go_ret
            exact ⟨ret_b HR.out.symm, (HNX.out _).1⟩
          · have z1 : ¬ xt ≤ p := by omega
            have z2 : ((xf : Int) == 0) = false := by simp; omega
            have z3 : (xl : Int) = 0 := by omega
            have HR : Hid (PRec.fits r = false) := Lib.hid (by rw [HF.out, HE2.out, HE.out, HDR.out]; simp [PRec.fitsT, g3])
            clear g1 g2 g3
            go_wp2
            go_ret
            exact ⟨ret_b HR.out.symm, (HNX.out _).1⟩
        · have hkn : k = T.length := by omega
          have i2 : ¬ (k : Int) < T.length := by omega
          have HT2 : Hid (PRec.fitsT 0 T = true) := Lib.hid (by rw [HE.out, hkn, List.drop_length]; rfl)
          have HR : Hid (PRec.fits r = (decide (D.length ≤ 64) && (decide (T.length ≤ 64) && (decide (0 < tx) && decide (0 < tn))))) := Lib.hid (by rw [HF.out, HE2.out, HT2.out]; simp)
          obtain ⟨w0, w1, w2, w3, w4, w5⟩ := HW.out
          have HW0 := Lib.hid w0
          clear w0 hkn hlt HE
          have hcs : (D.length ≤ 64 ∧ T.length ≤ 64 ∧ 0 < tx ∧ 0 < tn) ∨ (¬ D.length ≤ 64) ∨ (D.length ≤ 64 ∧ ¬ T.length ≤ 64) ∨ (D.length ≤ 64 ∧ T.length ≤ 64 ∧ ¬ 0 < tx) ∨ (D.length ≤ 64 ∧ T.length ≤ 64 ∧ 0 < tx ∧ ¬ 0 < tn) := by omega
          rcases hcs with ⟨g1, g2, g3, g4⟩ | g1 | ⟨g1, g2⟩ | ⟨g1, g2, g3⟩ | ⟨g1, g2, g3, g4⟩
          · have y1 : (D.length : Int) ≤ 64 := by omega
            have y2 : (T.length : Int) ≤ 64 := by omega
            have HV : Hid (PRec.fits r = true) := Lib.hid (by rw [HR.out]; simp [g1, g2, g3, g4])
            go_wp2
            go_ret
            exact ⟨ret_b HV.out.symm, HW0.out⟩
          · have y1 : ¬ (D.length : Int) ≤ 64 := by omega
            have HV : Hid (PRec.fits r = false) := Lib.hid (by rw [HR.out]; simp [g1])
            clear g1
            go_wp2
            go_ret
            exact ⟨ret_b HV.out.symm, HW0.out⟩
          · have y1 : (D.length : Int) ≤ 64 := by omega
            have y2 : ¬ (T.length : Int) ≤ 64 := by omega
            have HV : Hid (PRec.fits r = false) := Lib.hid (by rw [HR.out]; simp [g2])
            clear g1 g2
            go_wp2
            go_ret
            exact ⟨ret_b HV.out.symm, HW0.out⟩
          · have y1 : (D.length : Int) ≤ 64 := by omega
            have y2 : (T.length : Int) ≤ 64 := by omega
            have y3 : decide (0 < tx) = false := by simpa using g3
            have HV : Hid (PRec.fits r = false) := Lib.hid (by rw [HR.out]; simp [g3])
            clear g1 g2 g3
            go_wp2
            go_ret
            exact ⟨ret_b HV.out.symm, HW0.out⟩
          · have y1 : (D.length : Int) ≤ 64 := by omega
            have y2 : (T.length : Int) ≤ 64 := by omega
            have y4 : decide (0 < tn) = false := by simpa using g4
            have HV : Hid (PRec.fits r = false) := Lib.hid (by rw [HR.out]; simp [g4])
            clear g1 g2 g4
            go_wp2
            go_ret
            exact ⟨ret_b HV.out.symm, HW0.out⟩
end Go.Proofs.Ytpkmnihiepbmcaa
