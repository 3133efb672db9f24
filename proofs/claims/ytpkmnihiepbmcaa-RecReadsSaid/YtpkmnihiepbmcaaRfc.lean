/-
  Records, the document's answer: May.
-/
import Derived.Test.YtpkmnihiepbmcaaRfb
import Derived.Test.YtpkmnihiepbmcaaRfp
import Derived.Test.YtpkmnihiepbmcaaDec2
import Derived.Deep.DeepCutAuto
import Derived.Deep.CutBlock
namespace Go.Proofs.Ytpkmnihiepbmcaa
open Go.RowKit
open PRec (Rec Drt Atx)
def Kq (w W : World) (A B : Array Value) : Prop := Below w.heap.size w W ∧ W.heap[w.heap.size]? = some (.cells A 32 (0, 0)) ∧ W.heap[w.heap.size + 1]? = some (.cells B 32 (0, 0))
theorem Kq.step {w W W' : World} {A B : Array Value} (h : Kq w W A B) (hb : Below W.heap.size W W') : Kq w W' A B :=
  ⟨h.1.step hb, (hb.block _ (Array.getElem?_eq_some_iff.1 h.2.1).1).trans h.2.1, (hb.block _ (Array.getElem?_eq_some_iff.1 h.2.2).1).trans h.2.2⟩
theorem Kq.new (w : World) (A B : Array Value) : Kq w ((w.alloc (.cells A 32)).alloc (.cells B 32)) A B := by
  refine ⟨((Below.refl w.heap.size w).alloc (Nat.le_refl _) _).alloc (by simp) _, (Below.heap_alloc _ _ _ (by simp)).trans (heap_alloc_new w _), ?_⟩
  have := heap_alloc_new (w.alloc (.cells A 32)) (.cells B 32)
  rwa [World.size_alloc] at this
theorem Kq.set {w W : World} {A B : Array Value} (h : Kq w W A B) (j : Nat) (v : Value) : Kq w (W.setCell ⟨w.heap.size + 1, j, none⟩ v) A (B.setIfInBounds j v) :=
  ⟨h.1.setCell (by simp) v, (Below.heap_setCell _ _ _ _ (by simp)).trans h.2.1, set12 h.2.2 v⟩
def sv (r : Rec) (v : Value) : Value := if r.kind = 8 then .slice none 0 0 else v
theorem RecIn.strip {w : World} {r : Rec} {vd vt : Value} (h : RecIn w r vd vt) : RecIn w (PRec.strip r) (sv r vd) (sv r vt) := by
  unfold sv PRec.strip
  by_cases h8 : r.kind = 8
  · rw [if_neg (by omega), if_neg (by omega), if_neg (by omega), if_neg (by omega), if_pos h8, if_pos h8, if_pos h8]
    exact ⟨RdS.nil _ _, RdS.nil _ _⟩
  · rw [if_neg h8, if_neg h8, if_neg h8]
    split
    · exact h
    split
    · exact h
    split
    · exact h
    split
    · exact h
    exact h
set_option maxRecDepth 20000 in
set_option maxHeartbeats 8000000 in
theorem rmay_any (r : Rec) (vd vt : Value) (w : World) (h : RecIn w r vd vt) : Calls Try.prog 12 #[rv r vd vt] w fun e w' => e = .returned (.bool (PRec.may r)) ∧ Below w.heap.size w w' := by
  rw [← PRec.rmay_eq]
  have HI := Lib.hid h
  have HS := Lib.hid h.strip
  have HRT := Lib.hid (fun W (hW : RecIn W r vd vt) => rtables_any r.dirty r.txns r.ttx r.tnum vd vt W hW.1 hW.2)
  have HRB := Lib.hid (fun W => rbody_any ⟨r.body.toArray⟩ W)
  have HBK : Hid ((decide (1 ≤ (⟨r.body.toArray⟩ : ByteArray).size) && decide ((⟨r.body.toArray⟩ : ByteArray).size ≤ 3072)) = PRec.bodyOk r) := Lib.hid rfl
  have HFK : Hid ((PRec.fitsD 0 r.dirty && (PRec.fitsT 0 r.txns && (decide (r.dirty.length ≤ 64) && (decide (r.txns.length ≤ 64) && (decide (0 < r.ttx) && decide (0 < r.tnum)))))) = PRec.fits r) := Lib.hid rfl
  rw [HBK.out] at HRB
  rw [HFK.out] at HRT
  clear HBK HFK
  obtain ⟨pd, cd, rfl, _, _⟩ := h.1.form
  obtain ⟨pt, ct, rfl, _, _⟩ := h.2.form
  clear h
  unfold rv
  have HK := Lib.hid (Kq.new w (rc r (.slice pd r.dirty.length cd) (.slice pt r.txns.length ct)) (rc r (.slice pd r.dirty.length cd) (.slice pt r.txns.length ct)))
  have HM : Hid (PRec.rmay r = (PRec.okK r && (if r.kind = 7 ∨ r.kind = 8 then PRec.plainB (PRec.strip r) && (decide (r.tx = 0) && decide (r.prev = 0)) else if r.kind = 6 ∧ r.tx = 0 then PRec.plainB (PRec.strip r) && decide (r.prev = 0) else PRec.plainB (PRec.strip r) && decide (0 < r.tx)))) := Lib.hid rfl
  have c0 := (box12d HK.out.2.1).1
  have c3 := (box12d HK.out.2.1).2.2.2.1
  have c4 := (box12d HK.out.2.1).2.2.2.2.1
  have c6 := (box12d HK.out.2.1).2.2.2.2.2.2.1
  have c7 := (box12d HK.out.2.1).2.2.2.2.2.2.2.1
  have c8 := (box12d HK.out.2.1).2.2.2.2.2.2.2.2.1
  have c9 := (box12d HK.out.2.1).2.2.2.2.2.2.2.2.2.1
  have c10 := (box12d HK.out.2.1).2.2.2.2.2.2.2.2.2.2.1
  have c11 := (box12d HK.out.2.1).2.2.2.2.2.2.2.2.2.2.2
  have HDB := Lib.hid (fun W (hW : Kq w W (rc r (.slice pd r.dirty.length cd) (.slice pt r.txns.length ct)) (rc r (.slice pd r.dirty.length cd) (.slice pt r.txns.length ct))) => box12d hW.2.2)
  have HFZ := Lib.hid (fun W (hW : Kq w W (rc r (.slice pd r.dirty.length cd) (.slice pt r.txns.length ct)) (rc r (.slice pd r.dirty.length cd) (.slice pt r.txns.length ct))) (j : Nat) => frozen12 (j := j) hW.2.2)
  go_enter Try.func12, Try.ntmps12
  go_upto_block 0 with fail
  generalize hw1 : ((w.alloc (.cells #[.int .u8 r.kind, .int .u64 r.tx, .int .u64 r.prev, .int .u32 r.page, .int .u16 r.slot, .int .u64 r.next, .int .u64 r.number, .string ⟨r.body.toArray⟩, .slice pd r.dirty.length cd, .slice pt r.txns.length ct, .int .u64 r.ttx, .int .u64 r.tnum] 32)).alloc (.cells #[.int .u8 r.kind, .int .u64 r.tx, .int .u64 r.prev, .int .u32 r.page, .int .u16 r.slot, .int .u64 r.next, .int .u64 r.number, .string ⟨r.body.toArray⟩, .slice pd r.dirty.length cd, .slice pt r.txns.length ct, .int .u64 r.ttx, .int .u64 r.tnum] 32)) = w1
  replace HK : Hid (Kq w w1 (rc r (.slice pd r.dirty.length cd) (.slice pt r.txns.length ct)) (rc r (.slice pd r.dirty.length cd) (.slice pt r.txns.length ct))) := Lib.hid (by rw [← hw1]; exact HK.out)
  have c0 : w1.cell? ⟨w.heap.size, 0, none⟩ = some (.int .u8 r.kind) := (box12d HK.out.2.1).1
  have c3 : w1.cell? ⟨w.heap.size, 3, none⟩ = some (.int .u32 r.page) := (box12d HK.out.2.1).2.2.2.1
  have c4 : w1.cell? ⟨w.heap.size, 4, none⟩ = some (.int .u16 r.slot) := (box12d HK.out.2.1).2.2.2.2.1
  have c6 : w1.cell? ⟨w.heap.size, 6, none⟩ = some (.int .u64 r.number) := (box12d HK.out.2.1).2.2.2.2.2.2.1
  have c7 : w1.cell? ⟨w.heap.size, 7, none⟩ = some (.string ⟨r.body.toArray⟩) := (box12d HK.out.2.1).2.2.2.2.2.2.2.1
  have c8 : w1.cell? ⟨w.heap.size, 8, none⟩ = some (.slice pd r.dirty.length cd) := (box12d HK.out.2.1).2.2.2.2.2.2.2.2.1
  have c9 : w1.cell? ⟨w.heap.size, 9, none⟩ = some (.slice pt r.txns.length ct) := (box12d HK.out.2.1).2.2.2.2.2.2.2.2.2.1
  have c10 : w1.cell? ⟨w.heap.size, 10, none⟩ = some (.int .u64 r.ttx) := (box12d HK.out.2.1).2.2.2.2.2.2.2.2.2.2.1
  have c11 : w1.cell? ⟨w.heap.size, 11, none⟩ = some (.int .u64 r.tnum) := (box12d HK.out.2.1).2.2.2.2.2.2.2.2.2.2.2
  clear hw1
  go_cut [2] (fun s2 wx => s2 = .bool false ∧ Hid (PRec.okK r = true) ∧ Hid (Kq w wx (rc r (.slice pd r.dirty.length cd) (.slice pt r.txns.length ct)) (rc (PRec.strip r) (sv r (.slice pd r.dirty.length cd)) (sv r (.slice pt r.txns.length ct)))))
  case first =>
    have hkk : r.kind = 1 ∨ r.kind = 5 ∨ r.kind = 7 ∨ r.kind = 2 ∨ r.kind = 6 ∨ r.kind = 3 ∨ r.kind = 4 ∨ r.kind = 8 ∨ (r.kind ≠ 1 ∧ r.kind ≠ 5 ∧ r.kind ≠ 7 ∧ r.kind ≠ 2 ∧ r.kind ≠ 6 ∧ r.kind ≠ 3 ∧ r.kind ≠ 4 ∧ r.kind ≠ 8) := by omega
    rcases hkk with hk | hk | hk | hk | hk | hk | hk | hk | hk
    · have HOK : Hid (PRec.okK r = (true)) := Lib.hid (by unfold PRec.okK; rw [if_pos (by omega)])
      have HST : Hid (PRec.strip r = r) := Lib.hid (by unfold PRec.strip; rw [if_neg (by omega), if_neg (by omega), if_neg (by omega), if_neg (by omega), if_neg (by omega)])
      have HSV : Hid (∀ v, sv r v = v) := Lib.hid (fun v => by unfold sv; rw [if_neg (by omega)])
      have k1 : ((r.kind : Int) == 1) = true := by simp; omega
      have k5 : ((r.kind : Int) == 5) = false := by simp; omega
      have k7 : ((r.kind : Int) == 7) = false := by simp; omega
      have k2 : ((r.kind : Int) == 2) = false := by simp; omega
      have k6 : ((r.kind : Int) == 6) = false := by simp; omega
      have k3 : ((r.kind : Int) == 3) = false := by simp; omega
      have k4 : ((r.kind : Int) == 4) = false := by simp; omega
      have k8 : ((r.kind : Int) == 8) = false := by simp; omega
      clear hk
      have HN : Hid (Kq w _ (rc r (.slice pd r.dirty.length cd) (.slice pt r.txns.length ct)) (rc (PRec.strip r) (sv r (.slice pd r.dirty.length cd)) (sv r (.slice pt r.txns.length ct)))) := Lib.hid (by rw [HST.out, HSV.out, HSV.out]; exact HK.out)
      go_wp2_with fail
      go_meet
      exact ⟨rfl, Lib.hid (by rw [HOK.out]), HN⟩
    · have HOK : Hid (PRec.okK r = (true)) := Lib.hid (by unfold PRec.okK; rw [if_pos (by omega)])
      have HST : Hid (PRec.strip r = r) := Lib.hid (by unfold PRec.strip; rw [if_neg (by omega), if_neg (by omega), if_neg (by omega), if_neg (by omega), if_neg (by omega)])
      have HSV : Hid (∀ v, sv r v = v) := Lib.hid (fun v => by unfold sv; rw [if_neg (by omega)])
      have k1 : ((r.kind : Int) == 1) = false := by simp; omega
      have k5 : ((r.kind : Int) == 5) = true := by simp; omega
      have k7 : ((r.kind : Int) == 7) = false := by simp; omega
      have k2 : ((r.kind : Int) == 2) = false := by simp; omega
      have k6 : ((r.kind : Int) == 6) = false := by simp; omega
      have k3 : ((r.kind : Int) == 3) = false := by simp; omega
      have k4 : ((r.kind : Int) == 4) = false := by simp; omega
      have k8 : ((r.kind : Int) == 8) = false := by simp; omega
      clear hk
      have HN : Hid (Kq w _ (rc r (.slice pd r.dirty.length cd) (.slice pt r.txns.length ct)) (rc (PRec.strip r) (sv r (.slice pd r.dirty.length cd)) (sv r (.slice pt r.txns.length ct)))) := Lib.hid (by rw [HST.out, HSV.out, HSV.out]; exact HK.out)
      go_wp2_with fail
      go_meet
      exact ⟨rfl, Lib.hid (by rw [HOK.out]), HN⟩
    · have HOK : Hid (PRec.okK r = (true)) := Lib.hid (by unfold PRec.okK; rw [if_pos (by omega)])
      have HST : Hid (PRec.strip r = r) := Lib.hid (by unfold PRec.strip; rw [if_neg (by omega), if_neg (by omega), if_neg (by omega), if_neg (by omega), if_neg (by omega)])
      have HSV : Hid (∀ v, sv r v = v) := Lib.hid (fun v => by unfold sv; rw [if_neg (by omega)])
      have k1 : ((r.kind : Int) == 1) = false := by simp; omega
      have k5 : ((r.kind : Int) == 5) = false := by simp; omega
      have k7 : ((r.kind : Int) == 7) = true := by simp; omega
      have k2 : ((r.kind : Int) == 2) = false := by simp; omega
      have k6 : ((r.kind : Int) == 6) = false := by simp; omega
      have k3 : ((r.kind : Int) == 3) = false := by simp; omega
      have k4 : ((r.kind : Int) == 4) = false := by simp; omega
      have k8 : ((r.kind : Int) == 8) = false := by simp; omega
      clear hk
      have HN : Hid (Kq w _ (rc r (.slice pd r.dirty.length cd) (.slice pt r.txns.length ct)) (rc (PRec.strip r) (sv r (.slice pd r.dirty.length cd)) (sv r (.slice pt r.txns.length ct)))) := Lib.hid (by rw [HST.out, HSV.out, HSV.out]; exact HK.out)
      go_wp2_with fail
      go_meet
      exact ⟨rfl, Lib.hid (by rw [HOK.out]), HN⟩
    · have HOK : Hid (PRec.okK r = (PRec.bodyOk r && !(decide (r.page = 0) && decide (r.slot ≠ 0)))) := Lib.hid (by unfold PRec.okK; rw [if_neg (by omega), if_pos (by omega)])
      have HST : Hid (PRec.strip r = { r with body := [], page := 0, slot := 0 }) := Lib.hid (by unfold PRec.strip; rw [if_pos (by omega)])
      have HSV : Hid (∀ v, sv r v = v) := Lib.hid (fun v => by unfold sv; rw [if_neg (by omega)])
      have k1 : ((r.kind : Int) == 1) = false := by simp; omega
      have k5 : ((r.kind : Int) == 5) = false := by simp; omega
      have k7 : ((r.kind : Int) == 7) = false := by simp; omega
      have k2 : ((r.kind : Int) == 2) = true := by simp; omega
      have k6 : ((r.kind : Int) == 6) = false := by simp; omega
      have k3 : ((r.kind : Int) == 3) = false := by simp; omega
      have k4 : ((r.kind : Int) == 4) = false := by simp; omega
      have k8 : ((r.kind : Int) == 8) = false := by simp; omega
      clear hk
      go_wp2_with fail
      refine (HRB.out _).mono ?_
      rintro e w2 ⟨rfl, rfl⟩
      have d7 := (HDB.out _ HK.out).2.2.2.2.2.2.2.1
      have f7 := HFZ.out _ HK.out 7
      have d3 := (HDB.out _ HK.out).2.2.2.1
      have f3 := HFZ.out _ HK.out 3
      have d4 := (HDB.out _ HK.out).2.2.2.2.1
      have f4 := HFZ.out _ HK.out 4
      cases hb0 : PRec.bodyOk r
      · have HB0 := Lib.hid hb0
        have HR : Hid (PRec.rmay r = false) := Lib.hid (by rw [HM.out, HOK.out]; simp [HB0.out])
        clear hb0
        go_wp2
        go_ret
        exact ⟨ret_b HR.out.symm, HK.out.1⟩
      · have HB0 := Lib.hid hb0
        clear hb0
        by_cases hp : r.page = 0
        · have y : ((r.page : Int) == 0) = true := (nat0 _).trans (decide_eq_true hp)
          by_cases hs : r.slot = 0
          · have y2 : ((r.slot : Int) != 0) = false := by simp; omega
            have HN0 := Lib.hid hs
            clear hp hs
            have HN : Hid (Kq w _ (rc r (.slice pd r.dirty.length cd) (.slice pt r.txns.length ct)) (rc (PRec.strip r) (sv r (.slice pd r.dirty.length cd)) (sv r (.slice pt r.txns.length ct)))) := Lib.hid (by rw [HST.out, HSV.out, HSV.out]; exact (((HK.out.set 7 (.string ⟨#[]⟩)).set 3 (.int .u32 0)).set 4 (.int .u16 0)))
            go_wp2_with fail
            go_meet
            exact ⟨rfl, Lib.hid (by rw [HOK.out]; simp [HB0.out, HN0.out]), HN⟩
          · have y2 : ((r.slot : Int) != 0) = true := by simp; omega
            have HR : Hid (PRec.rmay r = false) := Lib.hid (by rw [HM.out, HOK.out]; simp [hp, hs])
            clear hp hs
            go_wp2
            go_ret
            exact ⟨ret_b HR.out.symm, HK.out.1⟩
        · have y : ((r.page : Int) == 0) = false := (nat0 _).trans (decide_eq_false hp)
          have HN0 := Lib.hid hp
          clear hp
          have HN : Hid (Kq w _ (rc r (.slice pd r.dirty.length cd) (.slice pt r.txns.length ct)) (rc (PRec.strip r) (sv r (.slice pd r.dirty.length cd)) (sv r (.slice pt r.txns.length ct)))) := Lib.hid (by rw [HST.out, HSV.out, HSV.out]; exact (((HK.out.set 7 (.string ⟨#[]⟩)).set 3 (.int .u32 0)).set 4 (.int .u16 0)))
          go_wp2_with fail
          go_meet
          exact ⟨rfl, Lib.hid (by rw [HOK.out]; simp [HB0.out, HN0.out]), HN⟩
    · have HOK : Hid (PRec.okK r = (PRec.bodyOk r)) := Lib.hid (by unfold PRec.okK; rw [if_neg (by omega), if_neg (by omega), if_pos (by omega)])
      have HST : Hid (PRec.strip r = { r with body := [] }) := Lib.hid (by unfold PRec.strip; rw [if_neg (by omega), if_pos (by omega)])
      have HSV : Hid (∀ v, sv r v = v) := Lib.hid (fun v => by unfold sv; rw [if_neg (by omega)])
      have k1 : ((r.kind : Int) == 1) = false := by simp; omega
      have k5 : ((r.kind : Int) == 5) = false := by simp; omega
      have k7 : ((r.kind : Int) == 7) = false := by simp; omega
      have k2 : ((r.kind : Int) == 2) = false := by simp; omega
      have k6 : ((r.kind : Int) == 6) = true := by simp; omega
      have k3 : ((r.kind : Int) == 3) = false := by simp; omega
      have k4 : ((r.kind : Int) == 4) = false := by simp; omega
      have k8 : ((r.kind : Int) == 8) = false := by simp; omega
      clear hk
      go_wp2_with fail
      refine (HRB.out _).mono ?_
      rintro e w2 ⟨rfl, rfl⟩
      have d7 := (HDB.out _ HK.out).2.2.2.2.2.2.2.1
      have f7 := HFZ.out _ HK.out 7
      cases hb0 : PRec.bodyOk r
      · have HB0 := Lib.hid hb0
        have HR : Hid (PRec.rmay r = false) := Lib.hid (by rw [HM.out, HOK.out]; simp [HB0.out])
        clear hb0
        go_wp2
        go_ret
        exact ⟨ret_b HR.out.symm, HK.out.1⟩
      · have HB0 := Lib.hid hb0
        clear hb0
        have HN : Hid (Kq w _ (rc r (.slice pd r.dirty.length cd) (.slice pt r.txns.length ct)) (rc (PRec.strip r) (sv r (.slice pd r.dirty.length cd)) (sv r (.slice pt r.txns.length ct)))) := Lib.hid (by rw [HST.out, HSV.out, HSV.out]; exact (HK.out.set 7 (.string ⟨#[]⟩)))
        go_wp2_with fail
        go_meet
        exact ⟨rfl, Lib.hid (by rw [HOK.out]; exact HB0.out), HN⟩
    · have HOK : Hid (PRec.okK r = (PRec.bodyOk r)) := Lib.hid (by unfold PRec.okK; rw [if_neg (by omega), if_neg (by omega), if_neg (by omega), if_pos (by omega)])
      have HST : Hid (PRec.strip r = { r with body := [], next := 0 }) := Lib.hid (by unfold PRec.strip; rw [if_neg (by omega), if_neg (by omega), if_pos (by omega)])
      have HSV : Hid (∀ v, sv r v = v) := Lib.hid (fun v => by unfold sv; rw [if_neg (by omega)])
      have k1 : ((r.kind : Int) == 1) = false := by simp; omega
      have k5 : ((r.kind : Int) == 5) = false := by simp; omega
      have k7 : ((r.kind : Int) == 7) = false := by simp; omega
      have k2 : ((r.kind : Int) == 2) = false := by simp; omega
      have k6 : ((r.kind : Int) == 6) = false := by simp; omega
      have k3 : ((r.kind : Int) == 3) = true := by simp; omega
      have k4 : ((r.kind : Int) == 4) = false := by simp; omega
      have k8 : ((r.kind : Int) == 8) = false := by simp; omega
      clear hk
      go_wp2_with fail
      refine (HRB.out _).mono ?_
      rintro e w2 ⟨rfl, rfl⟩
      have d7 := (HDB.out _ HK.out).2.2.2.2.2.2.2.1
      have f7 := HFZ.out _ HK.out 7
      have d5 := (HDB.out _ HK.out).2.2.2.2.2.1
      have f5 := HFZ.out _ HK.out 5
      cases hb0 : PRec.bodyOk r
      · have HB0 := Lib.hid hb0
        have HR : Hid (PRec.rmay r = false) := Lib.hid (by rw [HM.out, HOK.out]; simp [HB0.out])
        clear hb0
        go_wp2
        go_ret
        exact ⟨ret_b HR.out.symm, HK.out.1⟩
      · have HB0 := Lib.hid hb0
        clear hb0
        have HN : Hid (Kq w _ (rc r (.slice pd r.dirty.length cd) (.slice pt r.txns.length ct)) (rc (PRec.strip r) (sv r (.slice pd r.dirty.length cd)) (sv r (.slice pt r.txns.length ct)))) := Lib.hid (by rw [HST.out, HSV.out, HSV.out]; exact ((HK.out.set 7 (.string ⟨#[]⟩)).set 5 (.int .u64 0)))
        go_wp2_with fail
        go_meet
        exact ⟨rfl, Lib.hid (by rw [HOK.out]; exact HB0.out), HN⟩
    · have HOK : Hid (PRec.okK r = (PRec.bodyOk r && decide (r.number ≠ 0))) := Lib.hid (by unfold PRec.okK; rw [if_neg (by omega), if_neg (by omega), if_neg (by omega), if_neg (by omega), if_pos (by omega)])
      have HST : Hid (PRec.strip r = { r with body := [], number := 0 }) := Lib.hid (by unfold PRec.strip; rw [if_neg (by omega), if_neg (by omega), if_neg (by omega), if_pos (by omega)])
      have HSV : Hid (∀ v, sv r v = v) := Lib.hid (fun v => by unfold sv; rw [if_neg (by omega)])
      have k1 : ((r.kind : Int) == 1) = false := by simp; omega
      have k5 : ((r.kind : Int) == 5) = false := by simp; omega
      have k7 : ((r.kind : Int) == 7) = false := by simp; omega
      have k2 : ((r.kind : Int) == 2) = false := by simp; omega
      have k6 : ((r.kind : Int) == 6) = false := by simp; omega
      have k3 : ((r.kind : Int) == 3) = false := by simp; omega
      have k4 : ((r.kind : Int) == 4) = true := by simp; omega
      have k8 : ((r.kind : Int) == 8) = false := by simp; omega
      clear hk
      go_wp2_with fail
      refine (HRB.out _).mono ?_
      rintro e w2 ⟨rfl, rfl⟩
      have d7 := (HDB.out _ HK.out).2.2.2.2.2.2.2.1
      have f7 := HFZ.out _ HK.out 7
      have d6 := (HDB.out _ HK.out).2.2.2.2.2.2.1
      have f6 := HFZ.out _ HK.out 6
      cases hb0 : PRec.bodyOk r
      · have HB0 := Lib.hid hb0
        have HR : Hid (PRec.rmay r = false) := Lib.hid (by rw [HM.out, HOK.out]; simp [HB0.out])
        clear hb0
        go_wp2
        go_ret
        exact ⟨ret_b HR.out.symm, HK.out.1⟩
      · have HB0 := Lib.hid hb0
        clear hb0
        by_cases hn : r.number = 0
        · have y : ((r.number : Int) == 0) = true := (nat0 _).trans (decide_eq_true hn)
          have HR : Hid (PRec.rmay r = false) := Lib.hid (by rw [HM.out, HOK.out]; simp [hn])
          clear hn
          go_wp2
          go_ret
          exact ⟨ret_b HR.out.symm, HK.out.1⟩
        · have y : ((r.number : Int) == 0) = false := (nat0 _).trans (decide_eq_false hn)
          have HN0 := Lib.hid hn
          clear hn
          have HN : Hid (Kq w _ (rc r (.slice pd r.dirty.length cd) (.slice pt r.txns.length ct)) (rc (PRec.strip r) (sv r (.slice pd r.dirty.length cd)) (sv r (.slice pt r.txns.length ct)))) := Lib.hid (by rw [HST.out, HSV.out, HSV.out]; exact ((HK.out.set 7 (.string ⟨#[]⟩)).set 6 (.int .u64 0)))
          go_wp2_with fail
          go_meet
          exact ⟨rfl, Lib.hid (by rw [HOK.out]; simp [HB0.out, HN0.out]), HN⟩
    · have HOK : Hid (PRec.okK r = (PRec.fits r)) := Lib.hid (by unfold PRec.okK; rw [if_neg (by omega), if_neg (by omega), if_neg (by omega), if_neg (by omega), if_neg (by omega), if_pos (by omega)])
      have HST : Hid (PRec.strip r = { r with dirty := [], txns := [], ttx := 0, tnum := 0 }) := Lib.hid (by unfold PRec.strip; rw [if_neg (by omega), if_neg (by omega), if_neg (by omega), if_neg (by omega), if_pos (by omega)])
      have HSV : Hid (∀ v, sv r v = .slice none 0 0) := Lib.hid (fun v => by unfold sv; rw [if_pos (by omega)])
      have k1 : ((r.kind : Int) == 1) = false := by simp; omega
      have k5 : ((r.kind : Int) == 5) = false := by simp; omega
      have k7 : ((r.kind : Int) == 7) = false := by simp; omega
      have k2 : ((r.kind : Int) == 2) = false := by simp; omega
      have k6 : ((r.kind : Int) == 6) = false := by simp; omega
      have k3 : ((r.kind : Int) == 3) = false := by simp; omega
      have k4 : ((r.kind : Int) == 4) = false := by simp; omega
      have k8 : ((r.kind : Int) == 8) = true := by simp; omega
      clear hk
      go_wp2_with fail
      refine (HRT.out _ (HI.out.step HK.out.1)).mono ?_
      rintro e w2 ⟨rfl, hb⟩
      replace HK := Lib.hid (HK.out.step hb)
      clear hb c0 c3 c4 c6 c7 c8 c9 c10 c11
      have d8 := (HDB.out _ HK.out).2.2.2.2.2.2.2.2.1
      have f8 := HFZ.out _ HK.out 8
      have d9 := (HDB.out _ HK.out).2.2.2.2.2.2.2.2.2.1
      have f9 := HFZ.out _ HK.out 9
      have d10 := (HDB.out _ HK.out).2.2.2.2.2.2.2.2.2.2.1
      have f10 := HFZ.out _ HK.out 10
      have d11 := (HDB.out _ HK.out).2.2.2.2.2.2.2.2.2.2.2
      have f11 := HFZ.out _ HK.out 11
      cases hb0 : PRec.fits r
      · have HB0 := Lib.hid hb0
        have HR : Hid (PRec.rmay r = false) := Lib.hid (by rw [HM.out, HOK.out]; simp [HB0.out])
        clear hb0
        go_wp2
        go_ret
        exact ⟨ret_b HR.out.symm, HK.out.1⟩
      · have HB0 := Lib.hid hb0
        clear hb0
        have HN : Hid (Kq w _ (rc r (.slice pd r.dirty.length cd) (.slice pt r.txns.length ct)) (rc (PRec.strip r) (sv r (.slice pd r.dirty.length cd)) (sv r (.slice pt r.txns.length ct)))) := Lib.hid (by rw [HST.out, HSV.out, HSV.out]; exact ((((HK.out.set 8 (.slice none 0 0)).set 9 (.slice none 0 0)).set 10 (.int .u64 0)).set 11 (.int .u64 0)))
        go_wp2_with fail
        go_meet
        exact ⟨rfl, Lib.hid (by rw [HOK.out]; exact HB0.out), HN⟩
    · have HOK : Hid (PRec.okK r = (false)) := Lib.hid (by unfold PRec.okK; rw [if_neg (by omega), if_neg (by omega), if_neg (by omega), if_neg (by omega), if_neg (by omega), if_neg (by omega)])
      have k1 : ((r.kind : Int) == 1) = false := by simp; omega
      have k5 : ((r.kind : Int) == 5) = false := by simp; omega
      have k7 : ((r.kind : Int) == 7) = false := by simp; omega
      have k2 : ((r.kind : Int) == 2) = false := by simp; omega
      have k6 : ((r.kind : Int) == 6) = false := by simp; omega
      have k3 : ((r.kind : Int) == 3) = false := by simp; omega
      have k4 : ((r.kind : Int) == 4) = false := by simp; omega
      have k8 : ((r.kind : Int) == 8) = false := by simp; omega
      clear hk
      have HR : Hid (PRec.rmay r = false) := Lib.hid (by rw [HM.out, HOK.out]; simp [])
      go_wp2
      go_ret
      exact ⟨ret_b HR.out.symm, HK.out.1⟩
  case rest =>
    clear HK c0 c3 c4 c6 c7 c8 c9 c10 c11 HDB HFZ HRT HRB
    obtain ⟨rfl, HOK, HK⟩ := hcut
    obtain ⟨w2, hw2⟩ : ∃ x, x = wc := ⟨_, rfl⟩
    subst hw2
    have HP := Lib.hid (fun W (hW : RecIn W (PRec.strip r) (sv r (.slice pd r.dirty.length cd)) (sv r (.slice pt r.txns.length ct))) => rplain_any (PRec.strip r) _ _ W hW)
    have HPE : Hid (plainB (PRec.strip r) = PRec.plainB (PRec.strip r)) := Lib.hid rfl
    rw [HPE.out] at HP
    rw [HOK.out, Bool.true_and] at HM
    clear HPE HOK
    generalize PRec.strip r = X at *
    generalize sv r (.slice pd r.dirty.length cd) = xd at *
    generalize sv r (.slice pt r.txns.length ct) = xt at *
    unfold rv at HP
    have c0 : w2.cell? ⟨w.heap.size, 0, none⟩ = some (.int .u8 r.kind) := (box12d HK.out.2.1).1
    have c1 : w2.cell? ⟨w.heap.size, 1, none⟩ = some (.int .u64 r.tx) := (box12d HK.out.2.1).2.1
    obtain ⟨d0, d1, d2, d3, d4, d5, d6, d7, d8, d9, d10, d11⟩ := box12d HK.out.2.2
    by_cases h78 : r.kind = 7 ∨ r.kind = 8
    · rw [if_pos h78] at HM
      have hc : (((r.kind : Int) == 7) = true) ∨ (((r.kind : Int) == 7) = false ∧ ((r.kind : Int) == 8) = true) := by simp; omega
      clear h78
      rcases hc with k7 | ⟨k7, k8⟩
      · skip
        go_wp2_with fail
        refine (HP.out _ (HS.out.step HK.out.1)).mono ?_
        rintro e w3 ⟨rfl, hb⟩
        replace HK := Lib.hid (HK.out.step hb)
        clear hb d0 d1 d2 d3 d4 d5 d6 d7 d8 d9 d10 d11 c0
        replace c1 : w3.cell? ⟨w.heap.size, 1, none⟩ = some (.int .u64 r.tx) := (box12d HK.out.2.1).2.1
        have c2 : w3.cell? ⟨w.heap.size, 2, none⟩ = some (.int .u64 r.prev) := (box12d HK.out.2.1).2.2.1
        cases hpb : PRec.plainB X
        · rw [hpb] at HM
          have HR : Hid (PRec.rmay r = false) := Lib.hid (by rw [HM.out]; rfl)
          clear hpb
          go_wp2
          go_ret
          exact ⟨ret_b HR.out.symm, HK.out.1⟩
        · rw [hpb, Bool.true_and] at HM
          clear hpb
          by_cases ht : r.tx = 0
          · have y1 : ((r.tx : Int) == 0) = true := (nat0 _).trans (decide_eq_true ht)
            have HR : Hid (PRec.rmay r = ((r.prev : Int) == 0)) := Lib.hid (by rw [HM.out, nat0]; simp [ht])
            clear ht
            go_wp2
            go_ret
            exact ⟨ret_b HR.out.symm, HK.out.1⟩
          · have y1 : ((r.tx : Int) == 0) = false := (nat0 _).trans (decide_eq_false ht)
            have HR : Hid (PRec.rmay r = false) := Lib.hid (by rw [HM.out]; simp [ht])
            clear ht
            go_wp2
            go_ret
            exact ⟨ret_b HR.out.symm, HK.out.1⟩
      · skip
        go_wp2_with fail
        refine (HP.out _ (HS.out.step HK.out.1)).mono ?_
        rintro e w3 ⟨rfl, hb⟩
        replace HK := Lib.hid (HK.out.step hb)
        clear hb d0 d1 d2 d3 d4 d5 d6 d7 d8 d9 d10 d11 c0
        replace c1 : w3.cell? ⟨w.heap.size, 1, none⟩ = some (.int .u64 r.tx) := (box12d HK.out.2.1).2.1
        have c2 : w3.cell? ⟨w.heap.size, 2, none⟩ = some (.int .u64 r.prev) := (box12d HK.out.2.1).2.2.1
        cases hpb : PRec.plainB X
        · rw [hpb] at HM
          have HR : Hid (PRec.rmay r = false) := Lib.hid (by rw [HM.out]; rfl)
          clear hpb
          go_wp2
          go_ret
          exact ⟨ret_b HR.out.symm, HK.out.1⟩
        · rw [hpb, Bool.true_and] at HM
          clear hpb
          by_cases ht : r.tx = 0
          · have y1 : ((r.tx : Int) == 0) = true := (nat0 _).trans (decide_eq_true ht)
            have HR : Hid (PRec.rmay r = ((r.prev : Int) == 0)) := Lib.hid (by rw [HM.out, nat0]; simp [ht])
            clear ht
            go_wp2
            go_ret
            exact ⟨ret_b HR.out.symm, HK.out.1⟩
          · have y1 : ((r.tx : Int) == 0) = false := (nat0 _).trans (decide_eq_false ht)
            have HR : Hid (PRec.rmay r = false) := Lib.hid (by rw [HM.out]; simp [ht])
            clear ht
            go_wp2
            go_ret
            exact ⟨ret_b HR.out.symm, HK.out.1⟩
    · have k7 : ((r.kind : Int) == 7) = false := by simp; omega
      have k8 : ((r.kind : Int) == 8) = false := by simp; omega
      rw [if_neg h78] at HM
      clear h78
      by_cases h6 : r.kind = 6 ∧ r.tx = 0
      · rw [if_pos h6] at HM
        have k6 : ((r.kind : Int) == 6) = true := by simp; omega
        have y1 : ((r.tx : Int) == 0) = true := by simp; omega
        clear h6
        go_wp2_with fail
        refine (HP.out _ (HS.out.step HK.out.1)).mono ?_
        rintro e w3 ⟨rfl, hb⟩
        replace HK := Lib.hid (HK.out.step hb)
        clear hb d0 d1 d2 d3 d4 d5 d6 d7 d8 d9 d10 d11 c0
        replace c1 : w3.cell? ⟨w.heap.size, 1, none⟩ = some (.int .u64 r.tx) := (box12d HK.out.2.1).2.1
        have c2 : w3.cell? ⟨w.heap.size, 2, none⟩ = some (.int .u64 r.prev) := (box12d HK.out.2.1).2.2.1
        cases hpb : PRec.plainB X
        · rw [hpb] at HM
          have HR : Hid (PRec.rmay r = false) := Lib.hid (by rw [HM.out]; rfl)
          clear hpb
          go_wp2
          go_ret
          exact ⟨ret_b HR.out.symm, HK.out.1⟩
        · rw [hpb, Bool.true_and] at HM
          clear hpb
          have HR : Hid (PRec.rmay r = ((r.prev : Int) == 0)) := Lib.hid (by rw [HM.out, nat0])
          go_wp2
          go_ret
          exact ⟨ret_b HR.out.symm, HK.out.1⟩
      · rw [if_neg h6] at HM
        have hc : (((r.kind : Int) == 6) = false) ∨ (((r.kind : Int) == 6) = true ∧ ((r.tx : Int) == 0) = false) := by simp; omega
        clear h6
        rcases hc with k6 | ⟨k6, y1⟩
        · skip
          go_wp2_with fail
          refine (HP.out _ (HS.out.step HK.out.1)).mono ?_
          rintro e w3 ⟨rfl, hb⟩
          replace HK := Lib.hid (HK.out.step hb)
          clear hb d0 d1 d2 d3 d4 d5 d6 d7 d8 d9 d10 d11 c0
          replace c1 : w3.cell? ⟨w.heap.size, 1, none⟩ = some (.int .u64 r.tx) := (box12d HK.out.2.1).2.1
          have c2 : w3.cell? ⟨w.heap.size, 2, none⟩ = some (.int .u64 r.prev) := (box12d HK.out.2.1).2.2.1
          cases hpb : PRec.plainB X
          · rw [hpb] at HM
            have HR : Hid (PRec.rmay r = false) := Lib.hid (by rw [HM.out]; rfl)
            clear hpb
            go_wp2
            go_ret
            exact ⟨ret_b HR.out.symm, HK.out.1⟩
          · rw [hpb, Bool.true_and] at HM
            clear hpb
            have HR : Hid (PRec.rmay r = decide ((0 : Int) < r.tx)) := Lib.hid (by rw [HM.out, Bool.eq_iff_iff]; simp)
            go_wp2
            go_ret
            exact ⟨ret_b (by rw [HR.out]; try simp), HK.out.1⟩
        · skip
          go_wp2_with fail
          refine (HP.out _ (HS.out.step HK.out.1)).mono ?_
          rintro e w3 ⟨rfl, hb⟩
          replace HK := Lib.hid (HK.out.step hb)
          clear hb d0 d1 d2 d3 d4 d5 d6 d7 d8 d9 d10 d11 c0
          replace c1 : w3.cell? ⟨w.heap.size, 1, none⟩ = some (.int .u64 r.tx) := (box12d HK.out.2.1).2.1
          have c2 : w3.cell? ⟨w.heap.size, 2, none⟩ = some (.int .u64 r.prev) := (box12d HK.out.2.1).2.2.1
          cases hpb : PRec.plainB X
          · rw [hpb] at HM
            have HR : Hid (PRec.rmay r = false) := Lib.hid (by rw [HM.out]; rfl)
            clear hpb
            go_wp2
            go_ret
            exact ⟨ret_b HR.out.symm, HK.out.1⟩
          · rw [hpb, Bool.true_and] at HM
            clear hpb
            have HR : Hid (PRec.rmay r = decide ((0 : Int) < r.tx)) := Lib.hid (by rw [HM.out, Bool.eq_iff_iff]; simp)
            go_wp2
            go_ret
            exact ⟨ret_b (by rw [HR.out]; try simp), HK.out.1⟩
end Go.Proofs.Ytpkmnihiepbmcaa
