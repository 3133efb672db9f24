/-
  Records: the walk of RecKinds.
-/
import Derived.Test.YtpkmnihiepbmcaaRec13
import Derived.Deep.CutBlock
import Derived.Laws.BitsLemmas
namespace Go.Proofs.Ytpkmnihiepbmcaa
open Go.RowKit
open PRec (Rec Drt Atx)
def Kx (w w3 W : World) (gx : Nat) (A B : Array Value) : Prop := Below w.heap.size w W ∧ Below w3.heap.size w3 W ∧ W.heap[w.heap.size]? = some (.cells A 32 (0, 0)) ∧ W.heap[gx]? = some (.cells B 32 (0, 0)) ∧ w.heap.size < w3.heap.size ∧ w3.heap.size ≤ gx
theorem Kx.step {w w3 W W' : World} {gx : Nat} {A B : Array Value} (h : Kx w w3 W gx A B) (hb : Below W.heap.size W W') : Kx w w3 W' gx A B :=
  ⟨h.1.step hb, h.2.1.step hb, (hb.block _ (Array.getElem?_eq_some_iff.1 h.2.2.1).1).trans h.2.2.1, (hb.block _ (Array.getElem?_eq_some_iff.1 h.2.2.2.1).1).trans h.2.2.2.1, h.2.2.2.2.1, h.2.2.2.2.2⟩
theorem Kx.set {w w3 W : World} {gx : Nat} {A B : Array Value} (h : Kx w w3 W gx A B) (j : Nat) (v : Value) : Kx w w3 (W.setCell ⟨gx, j, none⟩ v) gx A (B.setIfInBounds j v) :=
  ⟨h.1.setCell (by have := h.2.2.2.2; simp; omega) v, h.2.1.setCell (by have := h.2.2.2.2; simp; omega) v, (Below.heap_setCell _ _ _ _ (by have := h.2.2.2.2; simp; omega)).trans h.2.2.1, set12 h.2.2.2.1 v, h.2.2.2.2.1, h.2.2.2.2.2⟩
def bodyK (k : Nat) : Bool := decide (k = 2) || (decide (k = 6) || (decide (k = 3) || decide (k = 4)))
theorem kind_eq (k c : Nat) : ((k : Int) == c) = decide (k = c) := by rw [Bool.eq_iff_iff]; simp; omega
theorem RecIn.chg {w : World} {r : Rec} {vd vt : Value} (h : RecIn w r vd vt) (p n : Nat) : RecIn w (PRec.chg p n r) vd vt := by
  obtain ⟨_, _, _, h4, h5, _⟩ := PRec.chg_base p n r
  unfold RecIn
  rw [h4, h5]
  exact h
theorem or_bits (n : Nat) (hn : n < 18446744073709551616) : bits BinOp.or .u64 (n : Int) 1 = ((n ||| 1 : Nat) : Int) := by
  have h := bits_nat .u64 64 (by decide) (fun x h0 h1 => by rw [IntKind.wrap_u64]; omega) n 1 hn (by decide)
  exact h.2
theorem or_lt (n : Nat) (hn : n < 18446744073709551616) : n ||| 1 < 18446744073709551616 := Nat.or_lt_two_pow (n := 64) hn (by decide)
theorem chg_ok {r : Rec} (h : r.Ok) (p n : Nat) (hn : n < 18446744073709551616) : (PRec.chg p n r).Ok := by
  have h1 := or_lt n hn
  obtain ⟨a0, a1, a2, a3, a4, a5, a6, a7, a8, a9, a10⟩ := h
  unfold PRec.chg
  split
  · exact ⟨a0, a1, a2, a3, a4, hn, a6, a7, a8, a9, a10⟩
  split
  · exact ⟨a0, a1, a2, a3, a4, a5, h1, a7, a8, a9, a10⟩
  split
  · exact ⟨a0, a1, a2, by show (n ||| 1) % 4294967296 < 4294967296; omega, a4, a5, a6, a7, a8, a9, a10⟩
  split
  · exact ⟨a0, a1, a2, a3, a4, a5, a6, a7, a8, a9, a10⟩
  · exact ⟨a0, a1, a2, a3, a4, a5, a6, a7, a8, h1, a10⟩
theorem chg_small {r : Rec} (p n : Nat) (hb : r.body.length ≤ 8192) (hd : r.dirty.length ≤ 100) (ht : r.txns.length ≤ 100) : (PRec.chg p n r).body.length ≤ 8192 ∧ (PRec.chg p n r).dirty.length ≤ 100 ∧ (PRec.chg p n r).txns.length ≤ 100 := by
  obtain ⟨_, _, _, h4, h5, _⟩ := PRec.chg_base p n r
  refine ⟨?_, by rw [h4]; exact hd, by rw [h5]; exact ht⟩
  unfold PRec.chg
  split
  · exact hb
  split
  · exact hb
  split
  · exact hb
  split
  · simp
  · exact hb
set_option maxRecDepth 20000 in
set_option maxHeartbeats 8000000 in
theorem recKinds_any (r : Rec) (hr : r.Ok) (p n : Nat) (hp : p < 256) (hn : n < 18446744073709551616) (vr vs : Value) (w : World) (hi : RecIn w r vr vs) :
    Calls Try.prog 6 #[rv r vr vs, .int .u8 p, .int .u64 n] w fun e w' => e = .returned (.bool true) ∧ Below w.heap.size w w' := by
  have HI := Lib.hid hi
  have HO := Lib.hid hr
  have HWK := Lib.hid works9_any
  obtain ⟨pr, cr, rfl, _, _⟩ := hi.1.form
  obtain ⟨ps, cs, rfl, _, _⟩ := hi.2.form
  clear hi hr
  have HK := Lib.hid (show Below w.heap.size w (w.alloc (.cells (rc r (.slice pr r.dirty.length cr) (.slice ps r.txns.length cs)) 32)) ∧ (w.alloc (.cells (rc r (.slice pr r.dirty.length cr) (.slice ps r.txns.length cs)) 32)).heap[w.heap.size]? = some (.cells (rc r (.slice pr r.dirty.length cr) (.slice ps r.txns.length cs)) 32 (0, 0)) from ⟨(Below.refl _ _).alloc (Nat.le_refl _) _, heap_alloc_new w _⟩)
  unfold rv
  have c := box12d HK.out.2
  unfold rc at c
  obtain ⟨c0, c1, c2, c3, c4, c5, c6, c7, c8, c9, c10, c11⟩ := c
  go_enter Try.func6, Try.ntmps6
  go_wp2_with fail
  refine (heavy9_any r _ _ _ (HI.out.step HK.out.1)).mono ?_
  rintro e w1 ⟨rfl, hb⟩
  replace HK := Lib.hid (⟨HK.out.1.step hb, (hb.block _ (Array.getElem?_eq_some_iff.1 HK.out.2).1).trans HK.out.2⟩ : Below w.heap.size w w1 ∧ w1.heap[w.heap.size]? = some (.cells (rc r (.slice pr r.dirty.length cr) (.slice ps r.txns.length cs)) 32 (0, 0)))
  clear hb c0 c1 c2 c3 c4 c5 c6 c7 c8 c9 c10 c11
  obtain ⟨c0, c1, c2, c3, c4, c5, c6, c7, c8, c9, c10, c11⟩ := box12d HK.out.2
  cases h1 : heavy r
  case true =>
    clear h1
    go_wp2_with fail
    refine (HWK.out _).mono ?_
    rintro e wz ⟨rfl, hbz⟩
    have HZ := Lib.hid (HK.out.1.step hbz)
    clear hbz HK
    go_wp2
    go_ret
    exact ⟨rfl, HZ.out⟩
  case false =>
    obtain ⟨la1, la2, la3⟩ := light h1
    clear h1
    go_wp2_with fail
    refine (copied_any r (by omega) (by omega) _ _ _ (HI.out.step HK.out.1)).mono ?_
    rintro e w2 ⟨xd, xt, rfl, hri, hb⟩
    replace HK := Lib.hid (⟨HK.out.1.step hb, (hb.block _ (Array.getElem?_eq_some_iff.1 HK.out.2).1).trans HK.out.2⟩ : Below w.heap.size w w2 ∧ w2.heap[w.heap.size]? = some (.cells (rc r (.slice pr r.dirty.length cr) (.slice ps r.txns.length cs)) 32 (0, 0)))
    clear hb c0 c1 c2 c3 c4 c5 c6 c7 c8 c9 c10 c11
    go_wp2_with fail
    refine (may9_any r HO.out (by omega) (by omega) (by omega) xd xt _ hri).mono ?_
    rintro e w3 ⟨rfl, hb⟩
    replace HK := Lib.hid (⟨HK.out.1.step hb, (hb.block _ (Array.getElem?_eq_some_iff.1 HK.out.2).1).trans HK.out.2⟩ : Below w.heap.size w w3 ∧ w3.heap[w.heap.size]? = some (.cells (rc r (.slice pr r.dirty.length cr) (.slice ps r.txns.length cs)) 32 (0, 0)))
    clear hb hri
    cases hm : PRec.may r
    case false =>
      clear hm la1 la2 la3
      go_wp2_with fail
      refine (HWK.out _).mono ?_
      rintro e wz ⟨rfl, hbz⟩
      have HZ := Lib.hid (HK.out.1.step hbz)
      clear hbz HK
      go_wp2
      go_ret
      exact ⟨rfl, HZ.out⟩
    case true =>
      have HM := Lib.hid hm
      clear hm
      obtain ⟨c0, c1, c2, c3, c4, c5, c6, c7, c8, c9, c10, c11⟩ := box12d HK.out.2
      go_wp2_with fail
      refine (copied_any r (by omega) (by omega) _ _ _ (HI.out.step HK.out.1)).mono ?_
      rintro e w4 ⟨xd, xt, rfl, hri, hb⟩
      replace HK := Lib.hid (⟨HK.out.1.step hb, (hb.block _ (Array.getElem?_eq_some_iff.1 HK.out.2).1).trans HK.out.2⟩ : Below w.heap.size w w4 ∧ w4.heap[w.heap.size]? = some (.cells (rc r (.slice pr r.dirty.length cr) (.slice ps r.txns.length cs)) 32 (0, 0)))
      have HX := Lib.hid hri
      obtain ⟨pd, cd, rfl, _, _⟩ := hri.1.form
      obtain ⟨pt, ct, rfl, _, _⟩ := hri.2.form
      clear hb hri c0 c1 c2 c3 c4 c5 c6 c7 c8 c9 c10 c11
      unfold rv
      have HKX : Hid (Kx w w4 (w4.alloc (.cells (rc r (.slice pd r.dirty.length cd) (.slice pt r.txns.length ct)) 32)) w4.heap.size (rc r (.slice pr r.dirty.length cr) (.slice ps r.txns.length cs)) (rc r (.slice pd r.dirty.length cd) (.slice pt r.txns.length ct))) := Lib.hid ⟨HK.out.1.alloc HK.out.1.size _, (Below.refl _ _).alloc (Nat.le_refl _) _, (Below.heap_alloc _ _ _ (Array.getElem?_eq_some_iff.1 HK.out.2).1).trans HK.out.2, heap_alloc_new w4 _, (Array.getElem?_eq_some_iff.1 HK.out.2).1, Nat.le_refl _⟩
      clear HK
      obtain ⟨gx, hgx⟩ : ∃ g, w4.heap.size = g := ⟨_, rfl⟩
      go_upto_region 5 with fail
      go_cut [7, 9] (fun s7 s9 wx => s7 = .pointer (some ⟨gx, 0, none⟩) ∧ s9 = .bool (bodyK r.kind) ∧ Hid (Kx w w4 wx gx (rc r (.slice pr r.dirty.length cr) (.slice ps r.txns.length cs)) (rc r (.slice pd r.dirty.length cd) (.slice pt r.txns.length ct))))
      case first =>
        have c := box12d HKX.out.2.2.1
        have c0 := c.1
        unfold rc at c0
        clear c
        replace HKX : Hid (Kx w w4 _ gx _ _) := Lib.hid (by rw [← hgx]; exact HKX.out)
        have hkk : r.kind = 2 ∨ r.kind = 6 ∨ r.kind = 3 ∨ r.kind = 4 ∨ (r.kind ≠ 2 ∧ r.kind ≠ 6 ∧ r.kind ≠ 3 ∧ r.kind ≠ 4) := by omega
        rcases hkk with hk | hk | hk | hk | hk
        · have HV : Hid (bodyK r.kind = true) := Lib.hid (by unfold bodyK; simp [hk])
          have k2 : ((r.kind : Int) == 2) = true := by simp; omega
          have k6 : ((r.kind : Int) == 6) = false := by simp; omega
          have k3 : ((r.kind : Int) == 3) = false := by simp; omega
          have k4 : ((r.kind : Int) == 4) = false := by simp; omega
          clear hk
          go_wp2_with fail
          go_meet
          exact ⟨by rw [← hgx], by rw [HV.out], HKX⟩
        · have HV : Hid (bodyK r.kind = true) := Lib.hid (by unfold bodyK; simp [hk])
          have k2 : ((r.kind : Int) == 2) = false := by simp; omega
          have k6 : ((r.kind : Int) == 6) = true := by simp; omega
          have k3 : ((r.kind : Int) == 3) = false := by simp; omega
          have k4 : ((r.kind : Int) == 4) = false := by simp; omega
          clear hk
          go_wp2_with fail
          go_meet
          exact ⟨by rw [← hgx], by rw [HV.out], HKX⟩
        · have HV : Hid (bodyK r.kind = true) := Lib.hid (by unfold bodyK; simp [hk])
          have k2 : ((r.kind : Int) == 2) = false := by simp; omega
          have k6 : ((r.kind : Int) == 6) = false := by simp; omega
          have k3 : ((r.kind : Int) == 3) = true := by simp; omega
          have k4 : ((r.kind : Int) == 4) = false := by simp; omega
          clear hk
          go_wp2_with fail
          go_meet
          exact ⟨by rw [← hgx], by rw [HV.out], HKX⟩
        · have HV : Hid (bodyK r.kind = true) := Lib.hid (by unfold bodyK; simp [hk])
          have k2 : ((r.kind : Int) == 2) = false := by simp; omega
          have k6 : ((r.kind : Int) == 6) = false := by simp; omega
          have k3 : ((r.kind : Int) == 3) = false := by simp; omega
          have k4 : ((r.kind : Int) == 4) = true := by simp; omega
          clear hk
          go_wp2_with fail
          go_meet
          exact ⟨by rw [← hgx], by rw [HV.out], HKX⟩
        · have HV : Hid (bodyK r.kind = false) := Lib.hid (by unfold bodyK; simp [hk])
          have k2 : ((r.kind : Int) == 2) = false := by simp; omega
          have k6 : ((r.kind : Int) == 6) = false := by simp; omega
          have k3 : ((r.kind : Int) == 3) = false := by simp; omega
          have k4 : ((r.kind : Int) == 4) = false := by simp; omega
          clear hk
          go_wp2_with fail
          go_meet
          exact ⟨by rw [← hgx], by rw [HV.out], HKX⟩
      case rest =>
        clear HKX hgx
        obtain ⟨rfl, rfl, HK⟩ := hcut
        obtain ⟨w5, hw5⟩ : ∃ x, x = wc := ⟨_, rfl⟩
        subst hw5
        have hrm : (p : Int).tmod 5 = ((p % 5 : Nat) : Int) := by rw [Int.tmod_eq_emod_of_nonneg (by omega)]; omega
        have hob := or_bits n hn
        go_upto_block 0 with fail
        go_cut [8] (fun s8 wx => s8 = .bool (PRec.hasP (p % 5) r) ∧ Hid (Kx w w4 wx gx (rc r (.slice pr r.dirty.length cr) (.slice ps r.txns.length cs)) (rc (PRec.chg (p % 5) n r) (.slice pd r.dirty.length cd) (.slice pt r.txns.length ct))))
        case first =>
          have c0 := (box12d HK.out.2.2.1).1
          have d3 := (box12d HK.out.2.2.2.1).2.2.2.1
          have f3 := frozen12 (j := 3) HK.out.2.2.2.1
          have d5 := (box12d HK.out.2.2.2.1).2.2.2.2.2.1
          have f5 := frozen12 (j := 5) HK.out.2.2.2.1
          have d6 := (box12d HK.out.2.2.2.1).2.2.2.2.2.2.1
          have f6 := frozen12 (j := 6) HK.out.2.2.2.1
          have d7 := (box12d HK.out.2.2.2.1).2.2.2.2.2.2.2.1
          have f7 := frozen12 (j := 7) HK.out.2.2.2.1
          have d10 := (box12d HK.out.2.2.2.1).2.2.2.2.2.2.2.2.2.2.1
          have f10 := frozen12 (j := 10) HK.out.2.2.2.1
          have hpc : p % 5 = 0 ∨ p % 5 = 1 ∨ p % 5 = 2 ∨ p % 5 = 3 ∨ p % 5 = 4 := by omega
          have hol := or_lt n hn
          rcases hpc with h | h | h | h | h
          · have HH := Lib.hid h
            have z0 : (((p : Int) % 5) == 0) = true := by simp; omega
            have z1 : (((p : Int) % 5) == 1) = false := by simp; omega
            have z2 : (((p : Int) % 5) == 2) = false := by simp; omega
            have z3 : (((p : Int) % 5) == 3) = false := by simp; omega
            clear h
            have HV : Hid (PRec.hasP 0 r = ((r.kind : Int) == 3)) := Lib.hid (by rw [show ((3 : Int)) = ((3 : Nat) : Int) from rfl, kind_eq]; rfl)
            have HN := Lib.hid (HK.out.set 5 (.int .u64 (n : Nat)))
            clear HK
            go_wp2_with fail
            go_meet
            rw [HH.out]
            exact ⟨by rw [HV.out], HN⟩
          · have HH := Lib.hid h
            have z0 : (((p : Int) % 5) == 0) = false := by simp; omega
            have z1 : (((p : Int) % 5) == 1) = true := by simp; omega
            have z2 : (((p : Int) % 5) == 2) = false := by simp; omega
            have z3 : (((p : Int) % 5) == 3) = false := by simp; omega
            clear h
            have HV : Hid (PRec.hasP 1 r = ((r.kind : Int) == 4)) := Lib.hid (by rw [show ((4 : Int)) = ((4 : Nat) : Int) from rfl, kind_eq]; rfl)
            have HN := Lib.hid (HK.out.set 6 (.int .u64 ((n ||| 1 : Nat) : Int)))
            clear HK
            go_wp2_with fail
            go_meet
            rw [HH.out]
            exact ⟨by rw [HV.out], HN⟩
          · have HH := Lib.hid h
            have z0 : (((p : Int) % 5) == 0) = false := by simp; omega
            have z1 : (((p : Int) % 5) == 1) = false := by simp; omega
            have z2 : (((p : Int) % 5) == 2) = true := by simp; omega
            have z3 : (((p : Int) % 5) == 3) = false := by simp; omega
            clear h
            have HV : Hid (PRec.hasP 2 r = ((r.kind : Int) == 2)) := Lib.hid (by rw [show ((2 : Int)) = ((2 : Nat) : Int) from rfl, kind_eq]; rfl)
            have hwp : IntKind.u32.wrap ((n ||| 1 : Nat) : Int) = (((n ||| 1) % 4294967296 : Nat) : Int) := by rw [IntKind.wrap_u32]; omega
            have HN := Lib.hid (HK.out.set 3 (.int .u32 (((n ||| 1) % 4294967296 : Nat) : Int)))
            clear HK
            go_wp2_with fail
            go_meet
            rw [HH.out]
            exact ⟨by rw [HV.out], HN⟩
          · have HH := Lib.hid h
            have z0 : (((p : Int) % 5) == 0) = false := by simp; omega
            have z1 : (((p : Int) % 5) == 1) = false := by simp; omega
            have z2 : (((p : Int) % 5) == 2) = false := by simp; omega
            have z3 : (((p : Int) % 5) == 3) = true := by simp; omega
            clear h
            have HV : Hid (PRec.hasP 3 r = bodyK r.kind) := Lib.hid rfl
            have HN := Lib.hid (HK.out.set 7 (.string ⟨#[98, 111, 100, 121]⟩))
            clear HK
            go_wp2_with fail
            go_meet
            rw [HH.out]
            exact ⟨by rw [HV.out], HN⟩
          · have HH := Lib.hid h
            have z0 : (((p : Int) % 5) == 0) = false := by simp; omega
            have z1 : (((p : Int) % 5) == 1) = false := by simp; omega
            have z2 : (((p : Int) % 5) == 2) = false := by simp; omega
            have z3 : (((p : Int) % 5) == 3) = false := by simp; omega
            clear h
            have HV : Hid (PRec.hasP 4 r = ((r.kind : Int) == 8)) := Lib.hid (by rw [show ((8 : Int)) = ((8 : Nat) : Int) from rfl, kind_eq]; rfl)
            have HN := Lib.hid (HK.out.set 10 (.int .u64 ((n ||| 1 : Nat) : Int)))
            clear HK
            go_wp2_with fail
            go_meet
            rw [HH.out]
            exact ⟨by rw [HV.out], HN⟩
        case rest =>
          clear HK hrm hob
          obtain ⟨rfl, HK⟩ := hcut
          obtain ⟨w6, hw6⟩ : ∃ x, x = wc := ⟨_, rfl⟩
          subst hw6
          have hq : p % 5 < 5 := by omega
          have HXO := Lib.hid (chg_ok HO.out (p % 5) n hn)
          have HXS := Lib.hid (chg_small (r := r) (p % 5) n (by omega) (by omega) (by omega))
          have HKL := Lib.hid (PRec.kinds_law (p % 5) n hq r HM.out)
          have HXC := Lib.hid (HX.out.chg (p % 5) n)
          clear hq hn hp HX
          generalize PRec.hasP (p % 5) r = hs at *
          generalize PRec.chg (p % 5) n r = X at *
          obtain ⟨d0, d1, d2, d3, d4, d5, d6, d7, d8, d9, d10, d11⟩ := box12d HK.out.2.2.2.1
          obtain ⟨c0, c1, c2, c3, c4, c5, c6, c7, c8, c9, c10, c11⟩ := box12d HK.out.2.2.1
          go_wp2_with fail
          refine (rsame_any X r _ _ _ _ _ (HXC.out.step HK.out.2.1) (HI.out.step HK.out.1)).mono ?_
          rintro e w7 ⟨rfl, hb⟩
          replace HK := Lib.hid (HK.out.step hb)
          clear hb c0 c1 c2 c3 c4 c5 c6 c7 c8 c9 c10 c11 d0 d1 d2 d3 d4 d5 d6 d7 d8 d9 d10 d11
          cases hxr : decide (X = r)
          case true =>
            clear hxr la1 la2 la3
            go_wp2_with fail
            refine (HWK.out _).mono ?_
            rintro e wz ⟨rfl, hbz⟩
            have HZ := Lib.hid (HK.out.1.step hbz)
            clear hbz HK
            go_wp2
            go_ret
            exact ⟨rfl, HZ.out⟩
          case false =>
            have HXR := Lib.hid (of_decide_eq_false hxr)
            have HMX := Lib.hid (HKL.out HXR.out)
            clear hxr HKL
            obtain ⟨c0, c1, c2, c3, c4, c5, c6, c7, c8, c9, c10, c11⟩ := box12d HK.out.2.2.1
            go_wp2_with fail
            refine (copied_any r (by omega) (by omega) _ _ _ (HI.out.step HK.out.1)).mono ?_
            rintro e w8 ⟨xd, xt, rfl, hri, hb⟩
            replace HK := Lib.hid (HK.out.step hb)
            clear hb c0 c1 c2 c3 c4 c5 c6 c7 c8 c9 c10 c11
            go_wp2_with fail
            refine (enc9_any r HO.out (by omega) (by omega) (by omega) xd xt _ hri).mono ?_
            rintro e w9 ⟨rfl, hb⟩
            replace HK := Lib.hid (HK.out.step hb)
            clear hb hri
            have her : PRec.err r = 0 := by unfold PRec.err; rw [HM.out]; rfl
            rw [her]
            clear her
            obtain ⟨d0, d1, d2, d3, d4, d5, d6, d7, d8, d9, d10, d11⟩ := box12d HK.out.2.2.2.1
            go_wp2_with fail
            refine (enc9_any X HXO.out (by have := HXS.out; omega) (by have := HXS.out; omega) (by have := HXS.out; omega) _ _ _ (HXC.out.step HK.out.2.1)).mono ?_
            rintro e w10 ⟨rfl, hb⟩
            replace HK := Lib.hid (HK.out.step hb)
            clear hb d0 d1 d2 d3 d4 d5 d6 d7 d8 d9 d10 d11
            obtain ⟨xs, hxs⟩ : ∃ x : ByteArray, (⟨(PRec.enc r).toArray⟩ : ByteArray) = x := ⟨_, rfl⟩
            obtain ⟨ys, hys⟩ : ∃ x : ByteArray, (⟨(PRec.enc X).toArray⟩ : ByteArray) = x := ⟨_, rfl⟩
            have HLL : Hid (xs.toList = PRec.enc r ∧ ys.toList = PRec.enc X) := Lib.hid (by subst hxs hys; exact ⟨mk_toList _, mk_toList _⟩)
            rw [hxs, hys]
            clear hxs hys
            obtain ⟨d0, d1, d2, d3, d4, d5, d6, d7, d8, d9, d10, d11⟩ := box12d HK.out.2.2.2.1
            cases hh : hs
            · have hmx : PRec.may X = false := by rw [HMX.out, hh]
              have hex : PRec.err X = 2 := by unfold PRec.err; rw [hmx]; rfl
              rw [hex]
              have HMX2 := Lib.hid hmx
              clear hex hmx hh HMX
              go_wp2_with fail
              refine (may9_any X HXO.out (by have := HXS.out; omega) (by have := HXS.out; omega) (by have := HXS.out; omega) _ _ _ (HXC.out.step HK.out.2.1)).mono ?_
              rintro e w11 ⟨rfl, hb⟩
              rw [HMX2.out]
              replace HK := Lib.hid (HK.out.step hb)
              clear hb d0 d1 d2 d3 d4 d5 d6 d7 d8 d9 d10 d11
              go_wp2_with fail
              refine (HWK.out _).mono ?_
              rintro e wz ⟨rfl, hbz⟩
              have HZ := Lib.hid (HK.out.1.step hbz)
              clear hbz HK
              go_wp2
              go_ret
              exact ⟨rfl, HZ.out⟩
            · have hmx : PRec.may X = true := by rw [HMX.out, hh]
              have hex : PRec.err X = 0 := by unfold PRec.err; rw [hmx]; rfl
              rw [hex]
              have HMX2 := Lib.hid hmx
              have zb : (xs.toList == ys.toList) = false := by rw [HLL.out.1, HLL.out.2, beq_eq_false_iff_ne]; intro h; exact HXR.out ((PRec.enc_inj HO.out HXO.out HM.out hmx).1 h).symm
              have zn : (xs.toList != ys.toList) = true := by rw [HLL.out.1, HLL.out.2, bne_iff_ne]; intro h; exact HXR.out ((PRec.enc_inj HO.out HXO.out HM.out hmx).1 h).symm
              clear hex hmx hh HMX
              go_wp2_with fail
              refine (may9_any X HXO.out (by have := HXS.out; omega) (by have := HXS.out; omega) (by have := HXS.out; omega) _ _ _ (HXC.out.step HK.out.2.1)).mono ?_
              rintro e w11 ⟨rfl, hb⟩
              rw [HMX2.out]
              replace HK := Lib.hid (HK.out.step hb)
              clear hb d0 d1 d2 d3 d4 d5 d6 d7 d8 d9 d10 d11
              go_wp2_with fail
              refine (HWK.out _).mono ?_
              rintro e wz ⟨rfl, hbz⟩
              have HZ := Lib.hid (HK.out.1.step hbz)
              clear hbz HK
              go_wp2
              go_ret
              exact ⟨rfl, HZ.out⟩
end Go.Proofs.Ytpkmnihiepbmcaa
