/-
  Records: the walk of RecBack.
-/
import Derived.Test.YtpkmnihiepbmcaaRec12
import Derived.Test.YtpkmnihiepbmcaaRec10
import Derived.Test.YtpkmnihiepbmcaaRec11
import Derived.Deep.DeepCutAuto
namespace Go.Proofs.Ytpkmnihiepbmcaa
open Go.RowKit
open PRec (Rec Drt Atx)
/-- two records in boxes of their own -/
def Kp (w W : World) (A B : Array Value) : Prop := Below w.heap.size w W ∧ W.heap[w.heap.size]? = some (.cells A 32 (0, 0)) ∧ W.heap[w.heap.size + 1]? = some (.cells B 32 (0, 0))
theorem Kp.step {w W W' : World} {A B : Array Value} (h : Kp w W A B) (hb : Below W.heap.size W W') : Kp w W' A B :=
  ⟨h.1.step hb, (hb.block _ (Array.getElem?_eq_some_iff.1 h.2.1).1).trans h.2.1, (hb.block _ (Array.getElem?_eq_some_iff.1 h.2.2).1).trans h.2.2⟩
theorem Kp.alloc {w W : World} {A B : Array Value} (h : Kp w W A B) (o : Obj) : Kp w (W.alloc o) A B := h.step ((Below.refl _ _).alloc (Nat.le_refl _) o)
theorem Kp.new (w : World) (A B : Array Value) : Kp w ((w.alloc (.cells A 32)).alloc (.cells B 32)) A B := by
  refine ⟨((Below.refl w.heap.size w).alloc (Nat.le_refl _) _).alloc (by simp) _, (Below.heap_alloc _ _ _ (by simp)).trans (heap_alloc_new w _), ?_⟩
  have := heap_alloc_new (w.alloc (.cells A 32)) (.cells B 32)
  rwa [World.size_alloc] at this
theorem light {r : Rec} (h : heavy r = false) : r.body.length ≤ 8192 ∧ r.dirty.length ≤ 100 ∧ r.txns.length ≤ 100 := by
  unfold heavy at h
  simp at h
  omega
theorem mk_list (l : List UInt8) : (⟨l.toArray⟩ : ByteArray).data.toList = l := by simp
theorem mk_toList (l : List UInt8) : (⟨l.toArray⟩ : ByteArray).toList = l := by rw [bytes_eq, mk_list]
theorem mk_self (s : ByteArray) : (⟨s.data.toList.toArray⟩ : ByteArray) = s := by simp
set_option maxRecDepth 20000 in
set_option maxHeartbeats 8000000 in
theorem recBack_any (a b : Rec) (ha : a.Ok) (hb : b.Ok) (s : ByteArray) (va vt vb vu : Value) (w : World) (hia : RecIn w a va vt) (hib : RecIn w b vb vu) :
    Calls Try.prog 5 #[rv a va vt, rv b vb vu, .string s] w fun e w' => e = .returned (.bool true) ∧ Below w.heap.size w w' := by
  have HIA := Lib.hid hia
  have HIB := Lib.hid hib
  have HAO := Lib.hid ha
  have HBO := Lib.hid hb
  have HWK := Lib.hid works9_any
  obtain ⟨pa, ca, rfl, _, _⟩ := hia.1.form
  obtain ⟨pt, ct, rfl, _, _⟩ := hia.2.form
  obtain ⟨pb, cb, rfl, _, _⟩ := hib.1.form
  obtain ⟨pu, cu, rfl, _, _⟩ := hib.2.form
  clear hia hib ha hb
  have HK := Lib.hid (Kp.new w (rc a (.slice pa a.dirty.length ca) (.slice pt a.txns.length ct)) (rc b (.slice pb b.dirty.length cb) (.slice pu b.txns.length cu)))
  unfold rv
  have c := box12d HK.out.2.1
  obtain ⟨c0, c1, c2, c3, c4, c5, c6, c7, c8, c9, c10, c11⟩ := c
  go_enter Try.func5, Try.ntmps5
  go_wp2_with fail
  refine (heavy9_any a _ _ _ (HIA.out.step HK.out.1)).mono ?_
  rintro e w1 ⟨rfl, hb1⟩
  replace HK := Lib.hid (HK.out.step hb1)
  clear hb1 c0 c1 c2 c3 c4 c5 c6 c7 c8 c9 c10 c11
  obtain ⟨c0, c1, c2, c3, c4, c5, c6, c7, c8, c9, c10, c11⟩ := box12d HK.out.2.2
  cases h1 : heavy a
  case true =>
    clear h1
    go_wp2_with fail
    refine (HWK.out _).mono ?_
    rintro e wz ⟨rfl, hbz⟩
    replace HK := Lib.hid (HK.out.step hbz)
    clear hbz
    go_wp2
    go_ret
    exact ⟨rfl, HK.out.1⟩
  case false =>
    obtain ⟨la1, la2, la3⟩ := light h1
    clear h1
    go_wp2_with fail
    refine (heavy9_any b _ _ _ (HIB.out.step HK.out.1)).mono ?_
    rintro e w2 ⟨rfl, hb2⟩
    replace HK := Lib.hid (HK.out.step hb2)
    clear hb2 c0 c1 c2 c3 c4 c5 c6 c7 c8 c9 c10 c11
    cases h2 : heavy b
    case true =>
      clear h2 la1 la2 la3
      go_wp2_with fail
      refine (HWK.out _).mono ?_
      rintro e wz ⟨rfl, hbz⟩
      replace HK := Lib.hid (HK.out.step hbz)
      clear hbz
      go_wp2
      go_ret
      exact ⟨rfl, HK.out.1⟩
    case false =>
      obtain ⟨lb1, lb2, lb3⟩ := light h2
      clear h2
      by_cases hl : 8192 < s.size
      · have y : (8192 : Int) < s.size := by omega
        clear hl la1 la2 la3 lb1 lb2 lb3
        go_wp2_with fail
        refine (HWK.out _).mono ?_
        rintro e wz ⟨rfl, hbz⟩
        replace HK := Lib.hid (HK.out.step hbz)
        clear hbz
        go_wp2
        go_ret
        exact ⟨rfl, HK.out.1⟩
      · have y : ¬ (8192 : Int) < s.size := by omega
        obtain ⟨c0, c1, c2, c3, c4, c5, c6, c7, c8, c9, c10, c11⟩ := box12d HK.out.2.1
        go_wp2_with fail
        refine (copied_any a (by omega) (by omega) _ _ _ (HIA.out.step HK.out.1)).mono ?_
        rintro e w3 ⟨xd, xt, rfl, hri, hb3⟩
        replace HK := Lib.hid (HK.out.step hb3)
        clear hb3 c0 c1 c2 c3 c4 c5 c6 c7 c8 c9 c10 c11
        go_wp2_with fail
        refine (enc9_any a HAO.out (by omega) (by omega) (by omega) xd xt _ hri).mono ?_
        rintro e w4 ⟨rfl, hb4⟩
        replace HK := Lib.hid (HK.out.step hb4)
        clear hb4 hri
        obtain ⟨c0, c1, c2, c3, c4, c5, c6, c7, c8, c9, c10, c11⟩ := box12d HK.out.2.2
        go_wp2_with fail
        refine (copied_any b (by omega) (by omega) _ _ _ (HIB.out.step HK.out.1)).mono ?_
        rintro e w5 ⟨xd2, xt2, rfl, hri, hb3⟩
        replace HK := Lib.hid (HK.out.step hb3)
        clear hb3 c0 c1 c2 c3 c4 c5 c6 c7 c8 c9 c10 c11
        go_wp2_with fail
        refine (enc9_any b HBO.out (by omega) (by omega) (by omega) xd2 xt2 _ hri).mono ?_
        rintro e w6 ⟨rfl, hb4⟩
        replace HK := Lib.hid (HK.out.step hb4)
        clear hb4 hri la1 la2 la3 lb1 lb2 lb3
        obtain ⟨xs, hxs⟩ : ∃ x : ByteArray, (⟨(PRec.enc a).toArray⟩ : ByteArray) = x := ⟨_, rfl⟩
        obtain ⟨ys, hys⟩ : ∃ x : ByteArray, (⟨(PRec.enc b).toArray⟩ : ByteArray) = x := ⟨_, rfl⟩
        have HXS : Hid (xs.data.toList = PRec.enc a ∧ xs.toList = PRec.enc a ∧ xs.size = (PRec.enc a).length) := Lib.hid (by subst hxs; exact ⟨mk_list _, mk_toList _, rfl⟩)
        have HYS : Hid (ys.toList = PRec.enc b) := Lib.hid (by subst hys; exact mk_toList _)
        rw [hxs, hys]
        clear hxs hys
        have HEA : Hid (PRec.err a = if PRec.may a then 0 else 2) := Lib.hid rfl
        have HEB : Hid (PRec.err b = if PRec.may b then 0 else 2) := Lib.hid rfl
        generalize PRec.err a = ea at *
        generalize PRec.err b = eb at *
        go_upto_region 5 with fail
        go_cut [42] (fun s42 wx => s42 = .bool (ea == 0) ∧ wx = w6)
        case first => go_wp2_with fail; go_meet; exact ⟨rfl, rfl⟩
        case rest =>
          obtain ⟨rfl, e6⟩ := hcut
          replace e6 := e6.symm
          subst e6
          go_upto_if 42 with fail
          go_cut [6] (fun s6 wx => Hid (Kp w wx (rc a (.slice pa a.dirty.length ca) (.slice pt a.txns.length ct)) (rc b (.slice pb b.dirty.length cb) (.slice pu b.txns.length cu))))
          case first =>
            cases hma : PRec.may a
            · have he : (ea == 0) = false := by rw [HEA.out, hma]; rfl
              rw [he]
              clear he hma
              go_wp2_with fail
              go_meet
              exact HK
            · have he : (ea == 0) = true := by rw [HEA.out, hma]; rfl
              rw [he]
              have HLX := Lib.hid (PRec.enc_length hma)
              have HDE := Lib.hid (PRec.dec_enc HAO.out hma)
              have HMA := Lib.hid hma
              clear he hma
              have hlx : ¬ (4096 : Int) < xs.size := by have := HLX.out; rw [HXS.out.2.2]; omega
              go_wp2_with fail
              refine (dec9_any xs (by omega) _).mono ?_
              rintro e w7 ⟨vd, vd2, rfl, hri, hb7⟩
              rw [HXS.out.1, HDE.out] at hri ⊢
              replace HK := Lib.hid (HK.out.step hb7)
              have HRI := Lib.hid hri
              obtain ⟨pd, cd, rfl, _, _⟩ := hri.1.form
              obtain ⟨pe, ce, rfl, _, _⟩ := hri.2.form
              clear hb7 hri
              unfold rv
              have HNW := Lib.hid (heap_alloc_new w7 (.cells (rc a (.slice pd a.dirty.length cd) (.slice pe a.txns.length ce)) 32))
              replace HK := Lib.hid (HK.out.alloc (.cells (rc a (.slice pd a.dirty.length cd) (.slice pe a.txns.length ce)) 32))
              replace HRI := Lib.hid (HRI.out.step ((Below.refl w7.heap.size w7).alloc (Nat.le_refl _) (.cells (rc a (.slice pd a.dirty.length cd) (.slice pe a.txns.length ce)) 32)))
              have c := box12d HK.out.2.1
              unfold rc at c
              obtain ⟨c0, c1, c2, c3, c4, c5, c6, c7, c8, c9, c10, c11⟩ := c
              obtain ⟨d0, d1, d2, d3, d4, d5, d6, d7, d8, d9, d10, d11⟩ := box12d HNW.out
              go_wp2_with fail
              refine (rsame_any a a _ _ _ _ _ HRI.out (HIA.out.step HK.out.1)).mono ?_
              rintro e w8 ⟨rfl, hb8⟩
              rw [show decide (a = a) = true by simp]
              replace HK := Lib.hid (HK.out.step hb8)
              clear hb8 HNW HRI d0 d1 d2 d3 d4 d5 d6 d7 d8 d9 d10 d11 c0 c1 c2 c3 c4 c5 c6 c7 c8 c9 c10 c11
              cases hmb : PRec.may b
              · have hb0 : eb = 2 := by rw [HEB.out, hmb]; rfl
                subst hb0
                clear hmb
                go_wp2_with fail
                go_meet
                exact HK
              · have hb0 : eb = 0 := by rw [HEB.out, hmb]; rfl
                subst hb0
                have HINJ := Lib.hid (PRec.enc_inj HAO.out HBO.out HMA.out hmb)
                clear hmb
                obtain ⟨c0, c1, c2, c3, c4, c5, c6, c7, c8, c9, c10, c11⟩ := box12d HK.out.2.1
                obtain ⟨d0, d1, d2, d3, d4, d5, d6, d7, d8, d9, d10, d11⟩ := box12d HK.out.2.2
                cases hab : decide (a = b)
                · have HAB := Lib.hid hab
                  have z : (xs.toList == ys.toList) = false := by rw [HXS.out.2.1, HYS.out]; rw [beq_eq_false_iff_ne]; intro h; have := of_decide_eq_false HAB.out; exact this (HINJ.out.1 h)
                  clear hab
                  go_wp2_with fail
                  refine (rsame_any a b _ _ _ _ _ (HIA.out.step HK.out.1) (HIB.out.step HK.out.1)).mono ?_
                  rintro e w9 ⟨rfl, hb9⟩
                  rw [HAB.out]
                  replace HK := Lib.hid (HK.out.step hb9)
                  clear hb9 d0 d1 d2 d3 d4 d5 d6 d7 d8 d9 d10 d11 c0 c1 c2 c3 c4 c5 c6 c7 c8 c9 c10 c11
                  go_wp2_with fail
                  go_meet
                  exact HK
                · have HAB := Lib.hid hab
                  have z : (xs.toList == ys.toList) = true := by rw [HXS.out.2.1, HYS.out]; rw [beq_iff_eq]; exact HINJ.out.2 (of_decide_eq_true HAB.out)
                  clear hab
                  go_wp2_with fail
                  refine (rsame_any a b _ _ _ _ _ (HIA.out.step HK.out.1) (HIB.out.step HK.out.1)).mono ?_
                  rintro e w9 ⟨rfl, hb9⟩
                  rw [HAB.out]
                  replace HK := Lib.hid (HK.out.step hb9)
                  clear hb9 d0 d1 d2 d3 d4 d5 d6 d7 d8 d9 d10 d11 c0 c1 c2 c3 c4 c5 c6 c7 c8 c9 c10 c11
                  go_wp2_with fail
                  go_meet
                  exact HK
          case rest =>
            clear HK HXS HYS HEA HEB
            replace HK := hcut
            clear hcut
            obtain ⟨w10, hw10⟩ : ∃ x, x = wc := ⟨_, rfl⟩
            subst hw10
            go_wp2_with fail
            refine (dec9_any s (by omega) _).mono ?_
            rintro e w11 ⟨vd, vd2, rfl, hri, hb7⟩
            replace HK := Lib.hid (HK.out.step hb7)
            have HD : Hid (PRec.dec s.data.toList = if PRec.good s.data.toList then (PRec.parse s.data.toList, 0) else (PRec.zero, 7)) := Lib.hid rfl
            cases hg : PRec.good s.data.toList
            · have hd : PRec.dec s.data.toList = (PRec.zero, 7) := by rw [HD.out, hg]; rfl
              rw [hd] at hri ⊢
              have HRI := Lib.hid hri
              obtain ⟨pd, cd, rfl, _, _⟩ := hri.1.form
              obtain ⟨pe, ce, rfl, _, _⟩ := hri.2.form
              clear hb7 hri hd hg HD
              unfold rv
              have HNW := Lib.hid (heap_alloc_new w11 (.cells (rc PRec.zero (.slice pd PRec.zero.dirty.length cd) (.slice pe PRec.zero.txns.length ce)) 32))
              replace HK := Lib.hid (HK.out.alloc (.cells (rc PRec.zero (.slice pd PRec.zero.dirty.length cd) (.slice pe PRec.zero.txns.length ce)) 32))
              replace HRI := Lib.hid (HRI.out.step ((Below.refl w11.heap.size w11).alloc (Nat.le_refl _) (.cells (rc PRec.zero (.slice pd PRec.zero.dirty.length cd) (.slice pe PRec.zero.txns.length ce)) 32)))
              obtain ⟨d0, d1, d2, d3, d4, d5, d6, d7, d8, d9, d10, d11⟩ := box12d HNW.out
              go_wp2_with fail
              refine (rsame_any PRec.zero PRec.zero _ _ nils nils _ HRI.out (wk_in _ _ rfl rfl)).mono ?_
              rintro e w12 ⟨rfl, hb8⟩
              rw [show decide (PRec.zero = PRec.zero) = true by simp]
              replace HK := Lib.hid (HK.out.step hb8)
              clear hb8 HNW HRI d0 d1 d2 d3 d4 d5 d6 d7 d8 d9 d10 d11
              go_wp2_with fail
              refine (HWK.out _).mono ?_
              rintro e wz ⟨rfl, hbz⟩
              replace HK := Lib.hid (HK.out.step hbz)
              clear hbz
              go_wp2
              go_ret
              exact ⟨rfl, HK.out.1⟩
            · have hd : PRec.dec s.data.toList = ((PRec.parse s.data.toList), 0) := by rw [HD.out, hg]; rfl
              rw [hd] at hri ⊢
              have HRI := Lib.hid hri
              obtain ⟨pd, cd, rfl, _, _⟩ := hri.1.form
              obtain ⟨pe, ce, rfl, _, _⟩ := hri.2.form
              have hgp : PRec.may (PRec.parse s.data.toList) = true ∧ PRec.enc (PRec.parse s.data.toList) = s.data.toList := by unfold PRec.good at hg; simpa using hg
              have HSM := Lib.hid (PRec.parse_small s.data.toList)
              have HPO := Lib.hid (PRec.parse_ok s.data.toList)
              have HGP := Lib.hid hgp
              clear hgp
              have HL : Hid (s.data.toList.length = s.size) := Lib.hid rfl
              clear hb7 hri hd hg HD
              generalize hG : PRec.parse s.data.toList = G at *
              clear hG
              unfold rv
              have HNW := Lib.hid (heap_alloc_new w11 (.cells (rc G (.slice pd G.dirty.length cd) (.slice pe G.txns.length ce)) 32))
              replace HK := Lib.hid (HK.out.alloc (.cells (rc G (.slice pd G.dirty.length cd) (.slice pe G.txns.length ce)) 32))
              replace HRI := Lib.hid (HRI.out.step ((Below.refl w11.heap.size w11).alloc (Nat.le_refl _) (.cells (rc G (.slice pd G.dirty.length cd) (.slice pe G.txns.length ce)) 32)))
              obtain ⟨d0, d1, d2, d3, d4, d5, d6, d7, d8, d9, d10, d11⟩ := box12d HNW.out
              go_wp2_with fail
              refine (enc9_any G HPO.out (by have := HSM.out; omega) (by have := HSM.out; omega) (by have := HSM.out; have := HL.out; omega) _ _ _ HRI.out).mono ?_
              rintro e w12 ⟨rfl, hb8⟩
              have he : PRec.err G = 0 := by unfold PRec.err; rw [HGP.out.1]; rfl
              rw [he, HGP.out.2, mk_self]
              clear he
              replace HK := Lib.hid (HK.out.step hb8)
              clear hb8 HNW HRI d0 d1 d2 d3 d4 d5 d6 d7 d8 d9 d10 d11
              go_wp2_with fail
              refine (HWK.out _).mono ?_
              rintro e wz ⟨rfl, hbz⟩
              replace HK := Lib.hid (HK.out.step hbz)
              clear hbz
              go_wp2
              go_ret
              exact ⟨rfl, HK.out.1⟩
end Go.Proofs.Ytpkmnihiepbmcaa
