/-
  Records: Decode of the program.
-/
import Derived.Test.YtpkmnihiepbmcaaRec9
import Derived.Test.YtpkmnihiepbmcaaDecP
import Derived.Test.YtpkmnihiepbmcaaDecA
import Derived.Deep.RegionLaw
import Derived.Deep.RegionHeld3
import Derived.Deep.DeepCutAuto
import Derived.Deep.CutRange
import Derived.Deep.CutBlock
namespace Go.Proofs.Ytpkmnihiepbmcaa
open Go.RowKit
open PRec (Rec Drt Atx)
set_option maxRecDepth 20000 in
set_option maxHeartbeats 8000000 in
theorem dec9_any (s : ByteArray) (hs : s.size ≤ 100000) (w : World) : Calls Try.prog 17 #[.string s] w fun e w' => ∃ vd vt, e = .returned (.tuple #[rv (PRec.dec s.data.toList).1 vd vt, .int .i64 (PRec.dec s.data.toList).2]) ∧ RecIn w' (PRec.dec s.data.toList).1 vd vt ∧ Below w.heap.size w w' := by
  have hsm : s.size ≤ maxLen := by unfold maxLen; omega
  have HN1 := Lib.hid (next1 w s hsm)
  have HN2 := Lib.hid (next2 w s hsm)
  have HN4 := Lib.hid (next4 w s hsm)
  have HN8 := Lib.hid (next8 w s hsm)
  have HS := Lib.hid (sx_start w s)
  have k0 : PRec.g s.data.toList 0 1 < 256 := PRec.g_lt s.data.toList 0 1
  have k1 : PRec.g s.data.toList 1 8 < 18446744073709551616 := PRec.g_lt s.data.toList 1 8
  have k2 : PRec.g s.data.toList 9 8 < 18446744073709551616 := PRec.g_lt s.data.toList 9 8
  have hw0 : IntKind.u8.wrap ((PRec.g s.data.toList 0 1 : Nat) : Int) = (PRec.g s.data.toList 0 1 : Nat) := by rw [IntKind.wrap_u8]; omega
  have HBS : Hid (bs s.data.toList = ⟨PRec.g s.data.toList 0 1, PRec.g s.data.toList 1 8, PRec.g s.data.toList 9 8, 0, 0, 0, 0, [], [], [], 0, 0⟩) := Lib.hid rfl
  unfold zR at HS
  go_enter Try.func17, Try.ntmps17
  go_upto_region 3 with fail
  go_cut [7] (fun s7 wx => ∃ gr, s7 = .pointer (some ⟨gr, 0, none⟩) ∧ w.heap.size + 1 + 1 + 1 < gr ∧ Hid (Sx w s wx 17) ∧ Hid (wx.heap[gr]? = some (.cells (rc (bs s.data.toList) nils nils) 32 (0, 0))))
  case first =>
    go_wp2_with fail
    refine (HN1.out 0 (by omega) _ HS.out).mono ?_
    rintro e w1 ⟨rfl, hs1, hx1⟩
    replace HS := Lib.hid hs1
    clear hs1 hx1
    go_wp2_with fail
    refine (HN8.out 1 (by omega) _ HS.out).mono ?_
    rintro e w2 ⟨rfl, hs1, hx1⟩
    replace HS := Lib.hid hs1
    clear hs1 hx1
    go_wp2_with fail
    refine (HN8.out 9 (by omega) _ HS.out).mono ?_
    rintro e w3 ⟨rfl, hs1, hx1⟩
    replace HS := Lib.hid hs1
    clear hs1 hx1
    go_wp2_with fail
    have hgr : w.heap.size + 1 + 1 + 1 < w3.heap.size := (Array.getElem?_eq_some_iff.1 HS.out.2.2.2.2).1
    have HRB : Hid ((w3.alloc (.cells (rc (bs s.data.toList) nils nils) 32)).heap[w3.heap.size]? = some (.cells (rc (bs s.data.toList) nils nils) 32 (0, 0))) := Lib.hid (heap_alloc_new w3 _)
    have HS2 := Lib.hid (HS.out.below ((Below.refl w3.heap.size w3).alloc (Nat.le_refl _) (.cells (rc (bs s.data.toList) nils nils) 32)))
    go_meet
    exact ⟨w3.heap.size, rfl, hgr, HS2, HRB⟩
  case rest =>
    clear HS
    obtain ⟨gr, rfl, hgr, HS, HRB⟩ := hcut
    obtain ⟨w4, hw4⟩ : ∃ x, x = wc := ⟨_, rfl⟩
    subst hw4
    have c0 : w4.cell? ⟨gr, 0, none⟩ = some (.int .u8 (PRec.g s.data.toList 0 1 : Nat)) := (box12d HRB.out).1
    go_upto_block 0 with fail
    go_cut [7] (fun s7 wx => s7 = .pointer (some ⟨gr, 0, none⟩) ∧ ∃ vd vt p, Hid (p = PRec.endp s.data.toList ∧ p ≤ 100000) ∧ Hid (Sx w s wx p) ∧ Hid (RecS wx (gr + 1) (pre s.data.toList) vd vt) ∧ Hid (wx.heap[gr]? = some (.cells (rc (pre s.data.toList) vd vt) 32 (0, 0))))
    case first =>
      by_cases h2 : PRec.g s.data.toList 0 1 = 2
      · have HK := Lib.hid h2
        have k2 : (((PRec.g s.data.toList 0 1 : Nat) : Int) == 2) = true := by simp; omega
        have k3 : (((PRec.g s.data.toList 0 1 : Nat) : Int) == 3) = false := by simp; omega
        have k4 : (((PRec.g s.data.toList 0 1 : Nat) : Int) == 4) = false := by simp; omega
        have k8 : (((PRec.g s.data.toList 0 1 : Nat) : Int) == 8) = false := by simp; omega
        clear h2
        go_wp2_with fail
        refine (HN4.out 17 (by omega) _ HS.out).mono ?_
        rintro e w5 ⟨rfl, hs5, hx5⟩
        have hr5 := hx5.block hgr HRB.out
        have d5 := (box12d hr5).2.2.2.1
        have f5 := frozen12 (j := 3) hr5
        have hw5 : IntKind.u32.wrap ((PRec.g s.data.toList 17 4 : Nat) : Int) = (PRec.g s.data.toList 17 4 : Nat) := by have := PRec.g_lt s.data.toList 17 4; rw [IntKind.wrap_u32]; omega
        have HS5 := Lib.hid (hs5.set hgr (j := 3) (.int .u32 (PRec.g s.data.toList 17 4 : Nat)))
        have HR5 : Hid ((w5.setCell ⟨gr, 3, none⟩ (.int .u32 (PRec.g s.data.toList 17 4 : Nat))).heap[gr]? = some (.cells (rc { bs s.data.toList with page := PRec.g s.data.toList 17 4 } nils nils) 32 (0, 0))) := Lib.hid (set12 (j := 3) hr5 (.int .u32 (PRec.g s.data.toList 17 4 : Nat)))
        clear hs5 hx5 hr5
        go_wp2_with fail
        refine (HN2.out 21 (by omega) _ HS5.out).mono ?_
        rintro e w6 ⟨rfl, hs6, hx6⟩
        have hr6 := hx6.block hgr HR5.out
        have d6 := (box12d hr6).2.2.2.2.1
        have f6 := frozen12 (j := 4) hr6
        have hw6 : IntKind.u16.wrap ((PRec.g s.data.toList 21 2 : Nat) : Int) = (PRec.g s.data.toList 21 2 : Nat) := by have := PRec.g_lt s.data.toList 21 2; rw [IntKind.wrap_u16]; omega
        have HS6 := Lib.hid (hs6.set hgr (j := 4) (.int .u16 (PRec.g s.data.toList 21 2 : Nat)))
        have HR6 : Hid ((w6.setCell ⟨gr, 4, none⟩ (.int .u16 (PRec.g s.data.toList 21 2 : Nat))).heap[gr]? = some (.cells (rc { bs s.data.toList with page := PRec.g s.data.toList 17 4, slot := PRec.g s.data.toList 21 2 } nils nils) 32 (0, 0))) := Lib.hid (set12 (j := 4) hr6 (.int .u16 (PRec.g s.data.toList 21 2 : Nat)))
        clear hs6 hx6 hr6
        go_wp2_with fail
        go_meet
        exact ⟨rfl, nils, nils, 23, Lib.hid ⟨(pre_2 s.data.toList HK.out).2.2.symm, by omega⟩, HS6, Lib.hid (RecS.nil _ _ (by rw [(pre_2 s.data.toList HK.out).1]; rfl) (by rw [(pre_2 s.data.toList HK.out).1]; rfl)), Lib.hid (by rw [(pre_2 s.data.toList HK.out).1]; exact HR6.out)⟩
      by_cases h6 : PRec.g s.data.toList 0 1 = 6
      · have HK := Lib.hid h6
        have k2 : (((PRec.g s.data.toList 0 1 : Nat) : Int) == 2) = false := by simp; omega
        have k3 : (((PRec.g s.data.toList 0 1 : Nat) : Int) == 3) = false := by simp; omega
        have k4 : (((PRec.g s.data.toList 0 1 : Nat) : Int) == 4) = false := by simp; omega
        have k8 : (((PRec.g s.data.toList 0 1 : Nat) : Int) == 8) = false := by simp; omega
        clear h2 h6
        go_wp2_with fail
        go_meet
        exact ⟨rfl, nils, nils, 17, Lib.hid ⟨(pre_6 s.data.toList HK.out).2.2.symm, by omega⟩, HS, Lib.hid (RecS.nil _ _ (by rw [(pre_6 s.data.toList HK.out).1]; rfl) (by rw [(pre_6 s.data.toList HK.out).1]; rfl)), Lib.hid (by rw [(pre_6 s.data.toList HK.out).1]; exact HRB.out)⟩
      by_cases h3 : PRec.g s.data.toList 0 1 = 3
      · have HK := Lib.hid h3
        have k2 : (((PRec.g s.data.toList 0 1 : Nat) : Int) == 2) = false := by simp; omega
        have k3 : (((PRec.g s.data.toList 0 1 : Nat) : Int) == 3) = true := by simp; omega
        have k4 : (((PRec.g s.data.toList 0 1 : Nat) : Int) == 4) = false := by simp; omega
        have k8 : (((PRec.g s.data.toList 0 1 : Nat) : Int) == 8) = false := by simp; omega
        clear h2 h6 h3
        go_wp2_with fail
        refine (HN8.out 17 (by omega) _ HS.out).mono ?_
        rintro e w5 ⟨rfl, hs5, hx5⟩
        have hr5 := hx5.block hgr HRB.out
        have d5 := (box12d hr5).2.2.2.2.2.1
        have f5 := frozen12 (j := 5) hr5
        have HS5 := Lib.hid (hs5.set hgr (j := 5) (.int .u64 (PRec.g s.data.toList 17 8 : Nat)))
        have HR5 : Hid ((w5.setCell ⟨gr, 5, none⟩ (.int .u64 (PRec.g s.data.toList 17 8 : Nat))).heap[gr]? = some (.cells (rc { bs s.data.toList with next := PRec.g s.data.toList 17 8 } nils nils) 32 (0, 0))) := Lib.hid (set12 (j := 5) hr5 (.int .u64 (PRec.g s.data.toList 17 8 : Nat)))
        clear hs5 hx5 hr5
        go_wp2_with fail
        go_meet
        exact ⟨rfl, nils, nils, 25, Lib.hid ⟨(pre_3 s.data.toList HK.out).2.2.symm, by omega⟩, HS5, Lib.hid (RecS.nil _ _ (by rw [(pre_3 s.data.toList HK.out).1]; rfl) (by rw [(pre_3 s.data.toList HK.out).1]; rfl)), Lib.hid (by rw [(pre_3 s.data.toList HK.out).1]; exact HR5.out)⟩
      by_cases h4 : PRec.g s.data.toList 0 1 = 4
      · have HK := Lib.hid h4
        have k2 : (((PRec.g s.data.toList 0 1 : Nat) : Int) == 2) = false := by simp; omega
        have k3 : (((PRec.g s.data.toList 0 1 : Nat) : Int) == 3) = false := by simp; omega
        have k4 : (((PRec.g s.data.toList 0 1 : Nat) : Int) == 4) = true := by simp; omega
        have k8 : (((PRec.g s.data.toList 0 1 : Nat) : Int) == 8) = false := by simp; omega
        clear h2 h6 h3 h4
        go_wp2_with fail
        refine (HN8.out 17 (by omega) _ HS.out).mono ?_
        rintro e w5 ⟨rfl, hs5, hx5⟩
        have hr5 := hx5.block hgr HRB.out
        have d5 := (box12d hr5).2.2.2.2.2.2.1
        have f5 := frozen12 (j := 6) hr5
        have HS5 := Lib.hid (hs5.set hgr (j := 6) (.int .u64 (PRec.g s.data.toList 17 8 : Nat)))
        have HR5 : Hid ((w5.setCell ⟨gr, 6, none⟩ (.int .u64 (PRec.g s.data.toList 17 8 : Nat))).heap[gr]? = some (.cells (rc { bs s.data.toList with number := PRec.g s.data.toList 17 8 } nils nils) 32 (0, 0))) := Lib.hid (set12 (j := 6) hr5 (.int .u64 (PRec.g s.data.toList 17 8 : Nat)))
        clear hs5 hx5 hr5
        go_wp2_with fail
        go_meet
        exact ⟨rfl, nils, nils, 25, Lib.hid ⟨(pre_4 s.data.toList HK.out).2.2.symm, by omega⟩, HS5, Lib.hid (RecS.nil _ _ (by rw [(pre_4 s.data.toList HK.out).1]; rfl) (by rw [(pre_4 s.data.toList HK.out).1]; rfl)), Lib.hid (by rw [(pre_4 s.data.toList HK.out).1]; exact HR5.out)⟩
      by_cases h8 : PRec.g s.data.toList 0 1 = 8
      · have HK := Lib.hid h8
        have k2 : (((PRec.g s.data.toList 0 1 : Nat) : Int) == 2) = false := by simp; omega
        have k3 : (((PRec.g s.data.toList 0 1 : Nat) : Int) == 3) = false := by simp; omega
        have k4 : (((PRec.g s.data.toList 0 1 : Nat) : Int) == 4) = false := by simp; omega
        have k8 : (((PRec.g s.data.toList 0 1 : Nat) : Int) == 8) = true := by simp; omega
        clear h2 h6 h3 h4 h8
        go_wp2_with fail
        refine (HN8.out 17 (by omega) _ HS.out).mono ?_
        rintro e w5 ⟨rfl, hs5, hx5⟩
        have hr5 := Lib.hid (hx5.block hgr HRB.out)
        have HS5 := Lib.hid hs5
        clear hs5 hx5
        go_wp2_with fail
        refine (HN8.out 25 (by omega) _ HS5.out).mono ?_
        rintro e w6 ⟨rfl, hs6, hx6⟩
        have hr6 := hx6.block hgr hr5.out
        have d10 := (box12d hr6).2.2.2.2.2.2.2.2.2.2.1
        have d11 := (box12d hr6).2.2.2.2.2.2.2.2.2.2.2
        have f10 := frozen12 (j := 10) hr6
        have f11 := frozen12 (j := 11) hr6
        have HS6 := Lib.hid ((hs6.set hgr (j := 10) (.int .u64 (PRec.g s.data.toList 17 8 : Nat))).set hgr (j := 11) (.int .u64 (PRec.g s.data.toList 25 8 : Nat)))
        have HR6 : Hid (((w6.setCell ⟨gr, 10, none⟩ (.int .u64 (PRec.g s.data.toList 17 8 : Nat))).setCell ⟨gr, 11, none⟩ (.int .u64 (PRec.g s.data.toList 25 8 : Nat))).heap[gr]? = some (.cells (rc { bs s.data.toList with ttx := PRec.g s.data.toList 17 8, tnum := PRec.g s.data.toList 25 8 } nils nils) 32 (0, 0))) := Lib.hid (set12 (j := 11) (set12 (j := 10) hr6 (.int .u64 (PRec.g s.data.toList 17 8 : Nat))) (.int .u64 (PRec.g s.data.toList 25 8 : Nat)))
        clear hs6 hx6 hr6 c0
        go_wp2_with fail
        refine (HN1.out 33 (by omega) _ HS6.out).mono ?_
        rintro e w7 ⟨rfl, hs7, hx7⟩
        have HR7 := Lib.hid (hx7.block hgr HR6.out)
        have HS7 := Lib.hid hs7
        clear hs7 hx7 d10 d11 f10 f11 hr5 HS5 HR6 HS6
        have hn : PRec.g s.data.toList 33 1 < 256 := PRec.g_lt s.data.toList 33 1
        have HND : Hid (PRec.getD s.data.toList (PRec.g s.data.toList 33 1) 34 = PRec.getD s.data.toList (PRec.g s.data.toList 33 1) 34) := Lib.hid rfl
        obtain ⟨n, hnn⟩ : ∃ n : Nat, PRec.g s.data.toList 33 1 = n := ⟨_, rfl⟩
        have HNN := Lib.hid hnn
        rw [hnn] at hn ⊢
        clear hnn HND
        go_wp2
        go_loopw [55] (fun iv wr => ∃ (k : Nat) (v : Value), k ≤ n ∧ iv = .int .u64 k ∧ Hid (Sx w s wr (34 + 12 * k)) ∧ Hid (Sl wr (gr + 1) 52 2 v k (dirtyV (PRec.getD s.data.toList k 34))) ∧ Hid (wr.heap[gr]? = some (.cells (rc { bs s.data.toList with ttx := PRec.g s.data.toList 17 8, tnum := PRec.g s.data.toList 25 8 } v nils) 32 (0, 0)))) (fun iv _ => n - (intOf iv).toNat)
        case atStart => exact ⟨0, nils, by omega, rfl, HS7, Lib.hid (Sl.nil _ _ _ _), HR7⟩
        case round =>
          clear HR7 HS7
          obtain ⟨k, v, hk, rfl, HS, HSL, HR⟩ := hrel
          by_cases hlt : k < n
          · have i1 : (k : Int) < n := by omega
            obtain ⟨pv, cv, rfl⟩ := sl_formD HSL.out
            replace HS := Lib.hid (show Sx w s wr.drew (34 + 12 * k) from HS.out.drew)
            replace HSL := Lib.hid HSL.out.drew
            replace HR := Lib.hid (show wr.drew.heap[gr]? = _ from HR.out)
            have c8 := (box12d HR.out).2.2.2.2.2.2.2.2.1
            have hw4 : IntKind.u32.wrap ((PRec.g s.data.toList (34 + 12 * k) 4 : Nat) : Int) = (PRec.g s.data.toList (34 + 12 * k) 4 : Nat) := by have := PRec.g_lt s.data.toList (34 + 12 * k) 4; rw [IntKind.wrap_u32]; omega
            go_wp2_with fail
            go_region_law (first | (go_simp; go_at_call 28; (first | with_reducible refine (HN4.out (34 + 12 * k) (by omega) _ HS.out).mono ?_ | with_reducible refine (HN8.out (34 + 12 * k + 4) (by omega) _ HS.out).mono ?_); rintro e w8 ⟨rfl, hs, hx⟩; have hrX := hx.block hgr HR.out; replace HSL := Lib.hid (sl_nx HSL.out (by omega) hx); replace HS := Lib.hid hs; replace HR := Lib.hid hrX; clear hs hx hrX; replace c8 := (box12d HR.out).2.2.2.2.2.2.2.2.1; have c8n := (fun o => (World.cell?_alloc_some w8 ⟨gr, 8, none⟩ o (by rw [c8]; rfl)).trans c8); go_wp2_with fail) | (refine step_append_sl elem_drt (by rfl) (by rfl) (HSL.out.alloc _) (by rfl) [.int .u32 (PRec.g s.data.toList (34 + 12 * k) 4 : Nat), .int .u64 (PRec.g s.data.toList (34 + 12 * k + 4) 8 : Nat)] (by rfl) (by rfl) (new_cells _ _ _) (by intro u hu; simp at hu; rcases hu with rfl | rfl <;> rfl) (by unfold maxLen; omega) (by omega) (by have := (Array.getElem?_eq_some_iff.1 HR.out).1; simp; omega) ?_; intro v' w9 hl hg9 hown9; obtain ⟨p9, q9, rfl⟩ := sl_formD hl; have hpe := push_end (j := 8) hgr (Nat.lt_succ_self gr) HS.out HR.out HSL.out hl hg9; have c8 := (box12d hpe.1).2.2.2.2.2.2.2.2.1; have f8 := frozen12 (j := 8) hpe.1; have HPE := Lib.hid hpe; clear hpe hl hg9 hown9))
            all_goals (
              have HSn : Hid (Sx w s _ (34 + 12 * (k + 1))) := Lib.hid (by have h := HPE.out.2.1; rw [show 34 + 12 * k + 4 + 8 = 34 + 12 * (k + 1) by omega] at h; exact h)
              have HLn : Hid (Sl _ (gr + 1) 52 2 (.slice p9 (k + 1) q9) (k + 1) (dirtyV (PRec.getD s.data.toList (k + 1) 34))) := Lib.hid (by rw [PRec.getD_snoc, dirtyV_snoc]; exact HPE.out.2.2.2)
              have HRn := Lib.hid HPE.out.2.2.1
              clear HPE HS HSL HR c8 f8
              go_wp2
              exact ⟨⟨k + 1, _, by omega, by go_num, HSn, HLn, HRn⟩, by simp [intOf]; omega⟩)
          · have hkn : k = n := by omega
            subst hkn
            have i1 : ¬ (k : Int) < k := by omega
            obtain ⟨pv, cv, rfl⟩ := sl_formD HSL.out
            go_wp2_with fail
            refine (HN1.out (34 + 12 * k) (by omega) _ HS.out).mono ?_
            rintro e w8 ⟨rfl, hs, hx⟩
            replace HR := Lib.hid (hx.block hgr HR.out)
            replace HSL := Lib.hid (sl_nx HSL.out (by omega) hx)
            replace HS := Lib.hid hs
            clear hs hx hk hlt i1
            have hm : PRec.g s.data.toList (34 + 12 * k) 1 < 256 := PRec.g_lt s.data.toList (34 + 12 * k) 1
            obtain ⟨m, hmm⟩ : ∃ m : Nat, PRec.g s.data.toList (34 + 12 * k) 1 = m := ⟨_, rfl⟩
            have HMM := Lib.hid hmm
            rw [hmm] at hm ⊢
            clear hmm
            obtain ⟨B, hB⟩ : ∃ B : Nat, B = w8.heap.size := ⟨_, rfl⟩
            have hgB : gr < B := by rw [hB]; exact (Array.getElem?_eq_some_iff.1 HR.out).1
            have HDL : Hid (∀ j, (Value.slice pv k cv).ownBlock = some j → j < B) := Lib.hid (fun j hj => by rw [hB]; exact (HSL.out.lt j hj).2)
            have HB0 : Hid (B ≤ w8.heap.size) := Lib.hid (by omega)
            have HS8 : Hid (Sx w s w8 (35 + 12 * k + 32 * 0)) := Lib.hid (by have h := HS.out; rw [show 34 + 12 * k + 1 = 35 + 12 * k + 32 * 0 by omega] at h; exact h)
            clear hB HS
            go_wp2
            go_loopw [73] (fun iv wr => ∃ (i : Nat) (u : Value), i ≤ m ∧ iv = .int .u64 i ∧ Hid (Sx w s wr (35 + 12 * k + 32 * i)) ∧ Hid (Sl wr (gr + 1) 52 2 (.slice pv k cv) k (dirtyV (PRec.getD s.data.toList k 34))) ∧ Hid (Sl wr B 54 4 u i (txnsV (PRec.getT s.data.toList i (35 + 12 * k)))) ∧ Hid (wr.heap[gr]? = some (.cells (rc { bs s.data.toList with ttx := PRec.g s.data.toList 17 8, tnum := PRec.g s.data.toList 25 8 } (.slice pv k cv) u) 32 (0, 0))) ∧ Hid (B ≤ wr.heap.size)) (fun iv _ => m - (intOf iv).toNat)
            case atStart => exact ⟨0, nils, by omega, rfl, HS8, HSL, Lib.hid (Sl.nil _ _ _ _), HR, HB0⟩
            case round =>
              clear HR HS8 HSL HB0
              obtain ⟨i, u, hi, rfl, HS, HSD, HSL, HR, HBB⟩ := hrel
              by_cases hlt : i < m
              · have i1 : (i : Int) < m := by omega
                obtain ⟨pv2, cv2, rfl⟩ := sl_formD HSL.out
                obtain ⟨P, hP⟩ : ∃ P : Nat, P = 35 + 12 * k + 32 * i := ⟨_, rfl⟩
                have hP2 : P ≤ 90000 := by omega
                replace HS := Lib.hid (show Sx w s wr.drew P from by rw [hP]; exact HS.out.drew)
                have HPP := Lib.hid hP
                clear hP
                replace HSL := Lib.hid HSL.out.drew
                replace HSD := Lib.hid HSD.out.drew
                replace HR := Lib.hid (show wr.drew.heap[gr]? = _ from HR.out)
                replace HBB := Lib.hid (show B ≤ wr.drew.heap.size from HBB.out)
                have c9 := (box12d HR.out).2.2.2.2.2.2.2.2.2.1
                go_wp2_with fail
                go_region_law (first | (go_simp; go_at_call 28; (first | with_reducible refine (HN8.out P (by omega) _ HS.out).mono ?_ | with_reducible refine (HN8.out (P + 8) (by omega) _ HS.out).mono ?_ | with_reducible refine (HN8.out (P + 8 + 8) (by omega) _ HS.out).mono ?_ | with_reducible refine (HN8.out (P + 8 + 8 + 8) (by omega) _ HS.out).mono ?_); rintro e w8 ⟨rfl, hs, hx⟩; have hrX := hx.block hgr HR.out; replace HSL := Lib.hid (sl_nx HSL.out (by omega) hx); replace HSD := Lib.hid (sl_nx HSD.out (by omega) hx); replace HS := Lib.hid hs; replace HR := Lib.hid hrX; replace HBB := Lib.hid (Nat.le_trans HBB.out hx.2.2.2.1); clear hs hx hrX; replace c9 := (box12d HR.out).2.2.2.2.2.2.2.2.2.1; (try clear c9n); have c9n := (fun o => (World.cell?_alloc_some w8 ⟨gr, 9, none⟩ o (by rw [c9]; rfl)).trans c9); go_wp2_with fail) | (refine step_append_sl elem_act (by rfl) (by rfl) (HSL.out.alloc _) (by rfl) [.int .u64 (PRec.g s.data.toList P 8 : Nat), .int .u64 (PRec.g s.data.toList (P + 8) 8 : Nat), .int .u64 (PRec.g s.data.toList (P + 8 + 8) 8 : Nat), .int .u64 (PRec.g s.data.toList (P + 8 + 8 + 8) 8 : Nat)] (by rfl) (by rfl) (new_cells _ _ _) (by intro u hu; simp at hu; rcases hu with rfl | rfl | rfl | rfl <;> rfl) (by unfold maxLen; omega) (by omega) (by have := HBB.out; simp; omega) ?_; intro v' w9 hl hg9 hown9; obtain ⟨p9, q9, rfl⟩ := sl_formD hl; have hpe := push_end (j := 9) hgr hgB HS.out HR.out HSL.out hl hg9; have hpo := push_other (j := 9) (v' := .slice p9 (i + 1) q9) hgB HSL.out hg9 HSD.out HDL.out; have hsz := hg9.size; have c9 := (box12d hpe.1).2.2.2.2.2.2.2.2.2.1; have f9 := frozen12 (j := 9) hpe.1; have HPE := Lib.hid hpe; have HPO := Lib.hid hpo; have HSZ : Hid (B ≤ (w9.setCell ⟨gr, 9, none⟩ (.slice p9 (i + 1) q9)).heap.size) := Lib.hid (by have h1 := HBB.out; rw [World.size_alloc] at hsz; simp [World.setCell]; omega); clear hpe hpo hsz hl hg9 hown9))
                all_goals (
                  have HSn : Hid (Sx w s _ (35 + 12 * k + 32 * (i + 1))) := Lib.hid (by have h := HPE.out.2.1; rw [show P + 8 + 8 + 8 + 8 = 35 + 12 * k + 32 * (i + 1) by have := HPP.out; omega] at h; exact h)
                  have HLn : Hid (Sl _ B 54 4 (.slice p9 (i + 1) q9) (i + 1) (txnsV (PRec.getT s.data.toList (i + 1) (35 + 12 * k)))) := Lib.hid (by rw [PRec.getT_snoc, txnsV_snoc, ← HPP.out]; exact HPE.out.2.2.2)
                  have HRn := Lib.hid HPE.out.2.2.1
                  clear HPE HS HSL HSD HR c9 f9
                  go_wp2
                  exact ⟨⟨i + 1, _, by omega, by go_num, HSn, HPO, HLn, HRn, HSZ⟩, by simp [intOf]; omega⟩)
              · have hin : i = m := by omega
                subst hin
                have i1 : ¬ (i : Int) < i := by omega
                go_wp2_with fail
                go_meet
                refine ⟨rfl, .slice pv k cv, u, 35 + 12 * k + 32 * i, Lib.hid ⟨by rw [(pre_8 _ HK.out).2.2, HNN.out, HMM.out], by omega⟩, HS, Lib.hid ?_, Lib.hid (by rw [(pre_8 _ HK.out).1]; exact HR.out)⟩
                rw [(pre_8 _ HK.out).1]
                unfold RecS
                dsimp only
                rw [PRec.getD_length, PRec.getT_length, HNN.out, HMM.out, show 35 + 12 * k = 35 + 12 * k from rfl]
                exact ⟨HSD.out, HSL.out.base_le (by omega)⟩
      have HK := Lib.hid (⟨h2, h6, h3, h4, h8⟩ : _ ∧ _ ∧ _ ∧ _ ∧ _)
      have k2 : (((PRec.g s.data.toList 0 1 : Nat) : Int) == 2) = false := by simp; omega
      have k3 : (((PRec.g s.data.toList 0 1 : Nat) : Int) == 3) = false := by simp; omega
      have k4 : (((PRec.g s.data.toList 0 1 : Nat) : Int) == 4) = false := by simp; omega
      have k8 : (((PRec.g s.data.toList 0 1 : Nat) : Int) == 8) = false := by simp; omega
      clear h2 h6 h3 h4 h8
      go_wp2_with fail
      go_meet
      exact ⟨rfl, nils, nils, 17, Lib.hid ⟨(pre_0 s.data.toList HK.out.1 HK.out.2.1 HK.out.2.2.1 HK.out.2.2.2.1 HK.out.2.2.2.2).2.2.symm, by omega⟩, HS, Lib.hid (RecS.nil _ _ (by rw [(pre_0 s.data.toList HK.out.1 HK.out.2.1 HK.out.2.2.1 HK.out.2.2.2.1 HK.out.2.2.2.2).1]; rfl) (by rw [(pre_0 s.data.toList HK.out.1 HK.out.2.1 HK.out.2.2.1 HK.out.2.2.2.1 HK.out.2.2.2.2).1]; rfl)), Lib.hid (by rw [(pre_0 s.data.toList HK.out.1 HK.out.2.1 HK.out.2.2.1 HK.out.2.2.2.1 HK.out.2.2.2.2).1]; exact HRB.out)⟩
    case rest =>
      clear HS HRB c0
      obtain ⟨rfl, vd, vt, p, HP, HS, HRI, HRB⟩ := hcut
      obtain ⟨w9, hw9⟩ : ∃ x, x = wc := ⟨_, rfl⟩
      subst hw9
      obtain ⟨pd, cd, rfl⟩ := sl_formD HRI.out.1
      obtain ⟨pt, ct, rfl⟩ := sl_formD HRI.out.2
      have HZ := Lib.hid HS.out.2.2.1
      have HZ1 : Hid (zR.all (·.oneCell') = true) := Lib.hid (by simp [zR, Value.oneCell'])
      have HI : Hid ((Try.prog.info? 32).map (·.size) = some zR.size) := Lib.hid (by kernel_rfl)
      have HBW := Lib.hid HS.out.1
      have e5 := one_cell HS.out.2.2.2.2
      by_cases hin : p ≤ s.size
      · have e6 : w9.cell? ⟨w.heap.size + 1 + 1 + 1, 0, none⟩ = some (.bool true) := by rw [e5]; simp [hin]
        have es := one_cell HS.out.2.1
        have ep := one_cell HS.out.2.2.2.1
        clear e5
        have c0 : w9.cell? ⟨gr, 0, none⟩ = some (.int .u8 (PRec.g s.data.toList 0 1 : Nat)) := by have := (box12d HRB.out).1; rw [pre_kind] at this; exact this
        have c7 := (box12d HRB.out).2.2.2.2.2.2.2.1
        have f7 := frozen12 (j := 7) HRB.out
        go_upto_region 24 with fail
        go_cut [107] (fun s107 wx => s107 = .bool (bodyB (PRec.g s.data.toList 0 1)) ∧ wx = w9)
        case first =>
          by_cases q1 : 2 ≤ PRec.g s.data.toList 0 1
          · have y1 : (2 : Int) ≤ (PRec.g s.data.toList 0 1 : Nat) := by omega
            by_cases q2 : PRec.g s.data.toList 0 1 ≤ 4
            · have y2 : ((PRec.g s.data.toList 0 1 : Nat) : Int) ≤ 4 := by omega
              have HV : Hid (bodyB (PRec.g s.data.toList 0 1) = true) := Lib.hid (by simp [bodyB]; omega)
              clear q1 q2
              go_wp2_with fail
              go_meet
              exact ⟨by rw [HV.out], rfl⟩
            · have y2 : ¬ ((PRec.g s.data.toList 0 1 : Nat) : Int) ≤ 4 := by omega
              by_cases q3 : PRec.g s.data.toList 0 1 = 6
              · have y3 : (((PRec.g s.data.toList 0 1 : Nat) : Int) == 6) = true := by simp; omega
                have HV : Hid (bodyB (PRec.g s.data.toList 0 1) = true) := Lib.hid (by simp [bodyB]; omega)
                clear q1 q2 q3
                go_wp2_with fail
                go_meet
                exact ⟨by rw [HV.out], rfl⟩
              · have y3 : (((PRec.g s.data.toList 0 1 : Nat) : Int) == 6) = false := by simp; omega
                have HV : Hid (bodyB (PRec.g s.data.toList 0 1) = false) := Lib.hid (by simp [bodyB]; omega)
                clear q1 q2 q3
                go_wp2_with fail
                go_meet
                exact ⟨by rw [HV.out], rfl⟩
          · have y1 : ¬ (2 : Int) ≤ (PRec.g s.data.toList 0 1 : Nat) := by omega
            have y3 : (((PRec.g s.data.toList 0 1 : Nat) : Int) == 6) = false := by simp; omega
            have HV : Hid (bodyB (PRec.g s.data.toList 0 1) = false) := Lib.hid (by simp [bodyB]; omega)
            clear q1
            go_wp2_with fail
            go_meet
            exact ⟨by rw [HV.out], rfl⟩
        case rest =>
          obtain ⟨rfl, e9⟩ := hcut
          replace e9 := e9.symm
          subst e9
          go_upto_if 107 with fail
          go_cut [3] (fun s3 wx => s3 = .int .i64 0 ∧ Hid (St w s wx p true) ∧ Hid (RecS wx (gr + 1) (PRec.parse s.data.toList) (.slice pd (pre s.data.toList).dirty.length cd) (.slice pt (pre s.data.toList).txns.length ct)) ∧ Hid (wx.heap[gr]? = some (.cells (rc (PRec.parse s.data.toList) (.slice pd (pre s.data.toList).dirty.length cd) (.slice pt (pre s.data.toList).txns.length ct)) 32 (0, 0))))
          case first =>
            have HST : Hid (St w s w9 p true) := Lib.hid (by have := HS.out; unfold Sx at this; rwa [show decide (p ≤ s.size) = true by simp [hin]] at this)
            cases hbb : bodyB (PRec.g s.data.toList 0 1)
            · have HPB := Lib.hid (parse_bare _ hbb)
              clear hbb
              go_wp2_with fail
              go_meet
              exact ⟨rfl, HST, Lib.hid (by rw [HPB.out]; exact HRI.out), Lib.hid (by rw [HPB.out]; exact HRB.out)⟩
            · have HPB : Hid (PRec.parse s.data.toList = { pre s.data.toList with body := s.data.toList.drop p }) := Lib.hid (by rw [HP.out.1]; exact parse_body _ hbb)
              clear hbb
              have i1 : (0 : Int) ≤ p := by omega
              have i2 : (p : Int) ≤ s.size := by omega
              go_wp2_with fail
              go_meet
              have hr2 := set12 (j := 7) HRB.out (.string (s.extract p s.size))
              refine ⟨rfl, Lib.hid (HST.out.set hgr _), Lib.hid ?_, Lib.hid ?_⟩
              · rw [HPB.out]
                exact (show RecS _ _ (pre s.data.toList) _ _ from HRI.out.keep (fun k h1 _ => Below.heap_setCell _ _ _ _ (by simp; omega)))
              · rw [HPB.out, hr2, extract_endD]
                rfl
          case rest =>
            clear HS HRI HRB HP c0 c7 f7 e6 es ep hin
            obtain ⟨rfl, HS, HRI, HRB⟩ := hcut
            obtain ⟨w10, hw10⟩ : ∃ x, x = wc := ⟨_, rfl⟩
            subst hw10
            have hsz := PRec.parse_small s.data.toList
            have hbz : (PRec.parse s.data.toList).body.length ≤ s.size := hsz.2.2
            have HEN := Lib.hid (fun W (hW : RecIn W (PRec.parse s.data.toList) (.slice pd (pre s.data.toList).dirty.length cd) (.slice pt (pre s.data.toList).txns.length ct)) => enc9_any (PRec.parse s.data.toList) (PRec.parse_ok _) (by omega) (by omega) (by omega) _ _ W hW)
            have HD : Hid (PRec.dec s.data.toList = if PRec.may (PRec.parse s.data.toList) && decide (PRec.enc (PRec.parse s.data.toList) = s.data.toList) then (PRec.parse s.data.toList, 0) else (PRec.zero, 7)) := Lib.hid rfl
            clear hsz hbz
            have HZ := Lib.hid HS.out.2.2.1
            have HBW := Lib.hid HS.out.1
            have hes := HS.out.2.1
            generalize PRec.parse s.data.toList = G at *
            generalize (pre s.data.toList).dirty.length = nd at *
            generalize (pre s.data.toList).txns.length = nt at *
            unfold rv at HEN
            obtain ⟨c0, c1, c2, c3, c4, c5, c6, c7, c8, c9, c10, c11⟩ := box12d HRB.out
            go_wp2_with fail
            refine (HEN.out _ HRI.out.recIn).mono ?_
            rintro e w11 ⟨rfl, hb⟩
            have hr := (hb.block _ (Array.getElem?_eq_some_iff.1 HRB.out).1).trans HRB.out
            obtain ⟨c0, c1, c2, c3, c4, c5, c6, c7, c8, c9, c10, c11⟩ := box12d hr
            have es := one_cell ((hb.block _ (Array.getElem?_eq_some_iff.1 hes).1).trans hes)
            replace HZ := Lib.hid ((hb.block _ (Array.getElem?_eq_some_iff.1 HZ.out).1).trans HZ.out)
            replace HBW := Lib.hid (HBW.out.step hb)
            replace HRI := Lib.hid (HRI.out.below hb)
            clear hb hr hes HEN HRB HS
            have HI2 : Hid ((Try.prog.info? 32).map (·.size) = some (rc G (.slice pd nd cd) (.slice pt nt ct)).size) := Lib.hid (by kernel_rfl)
            have HZS : Hid (zR.size = (rc G (.slice pd nd cd) (.slice pt nt ct)).size) := Lib.hid rfl
            have H1 : Hid ((rc G (.slice pd nd cd) (.slice pt nt ct)).all (·.oneCell') = true) := Lib.hid (by simp [rc, Value.oneCell'])
            cases hmay : PRec.may G
            · have HEQ : Hid (PRec.dec s.data.toList = (PRec.zero, 7)) := Lib.hid (by rw [HD.out, hmay]; rfl)
              have he : PRec.err G = 2 := (by unfold PRec.err; rw [hmay]; rfl)
              rw [he]
              clear he hmay c0 c1 c2 c3 c4 c5 c6 c7 c8 c9 c10 c11
              go_wp2_with ((with_reducible refine wpList_row_same rfl 32 (.tmp 2) (.tmp 124) rfl (w.heap.size + 1) 32 zR ?_ ?_ HZ.out HI.out HZ1.out ?_); (· rfl); (· rfl))
              (try simp only [Exit.inBlock, Exit.then])
              refine bodyPost_ret (v := .tuple #[rv PRec.zero nils nils, .int .i64 7]) ?_ ?_ ?_
              · exact res_rec (r := PRec.zero) rfl _ _ (w.heap.size + 1) rfl rfl HZ.out
              · rfl
              · exact ⟨nils, nils, by rw [HEQ.out], by rw [HEQ.out]; exact ⟨RdS.nil _ _, RdS.nil _ _⟩, HBW.out⟩
            · have he : PRec.err G = 0 := (by unfold PRec.err; rw [hmay]; rfl)
              rw [he]
              clear he
              by_cases hen : PRec.enc G = s.data.toList
              · have HEQ : Hid (PRec.dec s.data.toList = (G, 0)) := Lib.hid (by rw [HD.out]; simp [hmay, hen])
                have hts : (⟨(PRec.enc G).toArray⟩ : ByteArray) = s := by rw [hen]
                rw [hts]
                clear hts hen hmay
                go_wp2_with ((with_reducible refine wpList_row_put rfl 32 (.tmp 2) (.tmp 125) rfl (w.heap.size + 1) 32 zR (rc G (.slice pd nd cd) (.slice pt nt ct)) ?_ ?_ HZ.out HI2.out HZS.out H1.out ?_); (· rfl); (· rfl))
                (try simp only [Exit.inBlock, Exit.then])
                refine bodyPost_ret (v := .tuple #[rv G (.slice pd nd cd) (.slice pt nt ct), .int .i64 0]) ?_ ?_ ?_
                · exact res_rec (r := G) rfl _ _ (w.heap.size + 1) rfl rfl (setRow_heap _ _ _ _ _ _ HZ.out)
                · rfl
                · exact ⟨_, _, by rw [HEQ.out], by rw [HEQ.out]; exact (HRI.out.keep (fun k h1 _ => setRow_ne _ _ _ _ (by omega))).recIn, below_rowD HBW.out (Nat.le_succ _) _⟩
              · have HEQ : Hid (PRec.dec s.data.toList = (PRec.zero, 7)) := Lib.hid (by rw [HD.out, hmay]; simp [hen])
                obtain ⟨t, ht⟩ : ∃ t, (⟨(PRec.enc G).toArray⟩ : ByteArray) = t := ⟨_, rfl⟩
                have hts : (t.toList == s.toList) = false := by
                  rw [beq_eq_false_iff_ne, bytes_eq, bytes_eq, ← ht]
                  exact hen
                rw [ht]
                clear ht hen hmay c0 c1 c2 c3 c4 c5 c6 c7 c8 c9 c10 c11
                go_wp2_with ((with_reducible refine wpList_row_same rfl 32 (.tmp 2) (.tmp 124) rfl (w.heap.size + 1) 32 zR ?_ ?_ HZ.out HI.out HZ1.out ?_); (· rfl); (· rfl))
                (try simp only [Exit.inBlock, Exit.then])
                refine bodyPost_ret (v := .tuple #[rv PRec.zero nils nils, .int .i64 7]) ?_ ?_ ?_
                · exact res_rec (r := PRec.zero) rfl _ _ (w.heap.size + 1) rfl rfl HZ.out
                · rfl
                · exact ⟨nils, nils, by rw [HEQ.out], by rw [HEQ.out]; exact ⟨RdS.nil _ _, RdS.nil _ _⟩, HBW.out⟩
      · have e6 : w9.cell? ⟨w.heap.size + 1 + 1 + 1, 0, none⟩ = some (.bool false) := by rw [e5]; simp [hin]
        have HD : Hid (PRec.dec s.data.toList = (PRec.zero, 7)) := Lib.hid (PRec.dec_far _ (by rw [← HP.out.1]; exact hin))
        clear e5 hin
        go_wp2_with ((with_reducible refine wpList_row_same rfl 32 (.tmp 2) (.tmp 94) rfl (w.heap.size + 1) 32 zR ?_ ?_ HZ.out HI.out HZ1.out ?_); (· rfl); (· rfl))
        (try simp only [Exit.inBlock, Exit.then])
        refine bodyPost_ret (v := .tuple #[rv PRec.zero nils nils, .int .i64 7]) ?_ ?_ ?_
        · exact res_rec (r := PRec.zero) rfl _ _ (w.heap.size + 1) rfl rfl HZ.out
        · rfl
        · exact ⟨nils, nils, by rw [HD.out], by rw [HD.out]; exact ⟨RdS.nil _ _, RdS.nil _ _⟩, HBW.out⟩
end Go.Proofs.Ytpkmnihiepbmcaa
