/-
  Records, the document's answer: Decode (under way).
-/
import Derived.Test.YtpkmnihiepbmcaaRfd
import Derived.Test.YtpkmnihiepbmcaaRfq
import Derived.Test.YtpkmnihiepbmcaaDecP
import Derived.Test.YtpkmnihiepbmcaaDecA
import Derived.Deep.RegionHeld3
import Derived.Deep.RegionLaw
import Derived.Deep.DeepCutAuto
import Derived.Deep.CutBlock
namespace Go.Proofs.Ytpkmnihiepbmcaa
open Go.RowKit
open PRec (Rec Drt Atx)
/-- the result's box and the record's *)-/
def Sd (w W : World) (gx : Nat) (A : Array Value) : Prop := Below w.heap.size w W ∧ W.heap[w.heap.size]? = some (.cells zR 32 (0, 0)) ∧ w.heap.size < gx ∧ W.heap[gx]? = some (.cells A 32 (0, 0))
theorem Sd.set {w W : World} {gx : Nat} {A : Array Value} (h : Sd w W gx A) (j : Nat) (v : Value) : Sd w (W.setCell ⟨gx, j, none⟩ v) gx (A.setIfInBounds j v) :=
  ⟨h.1.setCell (by have := h.2.2.1; simp; omega) v, (Below.heap_setCell _ _ _ _ (by have := h.2.2.1; simp; omega)).trans h.2.1, h.2.2.1, set12 h.2.2.2 v⟩
/-- behind an append to a list of the record, and its store *)-/
theorem pushS {w w3 w5 : World} {gx B n m size j : Nat} {e : TypeId} {v v' : Value} {xs ys : List Value} {A : Array Value} {o : Obj} (hB : gx < B)
    (HS : Sd w w3 gx A) (HSL : Sl w3 B e size v n xs) (hl : Sl w5 B e size v' m ys) (hg : (w3.alloc o).grownBy w5 v.ownBlock) :
    w5.heap[gx]? = some (.cells A 32 (0, 0)) ∧ Sd w (w5.setCell ⟨gx, j, none⟩ v') gx (A.setIfInBounds j v') ∧ Sl (w5.setCell ⟨gx, j, none⟩ v') B e size v' m ys := by
  have hv : ∀ k, v.ownBlock = some k → B ≤ k := fun k hk => (HSL.lt k hk).1
  have hgx := HS.2.2.1
  have h5 : w5.heap[gx]? = some (.cells A 32 (0, 0)) := grown_block hg (fun k e => by have := hv k e; omega) ((Below.heap_alloc _ _ _ (Array.getElem?_eq_some_iff.1 HS.2.2.2).1).trans HS.2.2.2)
  have h6 : w5.heap[w.heap.size]? = some (.cells zR 32 (0, 0)) := grown_block hg (fun k e => by have := hv k e; omega) ((Below.heap_alloc _ _ _ (Array.getElem?_eq_some_iff.1 HS.2.1).1).trans HS.2.1)
  have hsd : Sd w w5 gx A := ⟨(HS.1.alloc HS.1.size o).grown hg (by have := HS.1.size; rw [World.size_alloc]; omega) (fun k e => by have := hv k e; omega), h6, hgx, h5⟩
  exact ⟨h5, hsd.set j v', hl.keep fun k hk => Below.heap_setCell _ _ _ _ (by have := (hl.lt k hk).1; simp; omega)⟩
theorem first_g (s : ByteArray) (h : 17 ≤ s.size) : (s.data.toList[0]?.map (·.toNat)) = some (PRec.g s.data.toList 0 1) := by
  obtain ⟨x, l, hl⟩ : ∃ x l, s.data.toList = x :: l := by
    cases hc : s.data.toList with
    | nil => have : s.data.toList.length = s.size := rfl; rw [hc] at this; simp at this; omega
    | cons x l => exact ⟨x, l, rfl⟩
  rw [hl]
  unfold PRec.g PWord.get PWord.inside
  simp [PWord.val]
  rw [if_pos (by omega)]
set_option maxRecDepth 20000 in
set_option maxHeartbeats 8000000 in
theorem rdec_any (s : ByteArray) (hs : s.size ≤ 100000) (w : World) : Calls Try.prog 18 #[.string s] w fun e w' => ∃ vd vt, e = .returned (.tuple #[rv (PRec.dec s.data.toList).1 vd vt, .int .i64 (PRec.dec s.data.toList).2]) ∧ RecIn w' (PRec.dec s.data.toList).1 vd vt ∧ Below w.heap.size w w' := by
  have hsm : s.size ≤ maxLen := by unfold maxLen; omega
  have HG8 := Lib.hid (fun (p : Nat) (W : World) => rget_nat s hsm p 8 W)
  have HG4 := Lib.hid (fun (p : Nat) (W : World) => rget_nat s hsm p 4 W)
  have HG2 := Lib.hid (fun (p : Nat) (W : World) => rget_nat s hsm p 2 W)
  have HG1 := Lib.hid (fun (p : Nat) (W : World) => rget_nat s hsm p 1 W)
  have HRE := Lib.hid (fun (p : Nat) (W : World) => rrest_any s p W)
  have HNZ : Hid ((w.alloc (.cells zR 32)).heap[w.heap.size]? = some (.cells zR 32 (0, 0))) := Lib.hid (heap_alloc_new w _)
  by_cases hin : 17 ≤ s.size ∧ s.size ≤ 4096
  case neg =>
    have HD : Hid (PRec.dec s.data.toList = (PRec.zero, 7)) := Lib.hid (PRec.dec_size _ (by show s.size < 17 ∨ 4096 < s.size; omega))
    have HZ1 : Hid (zR.all (·.oneCell') = true) := Lib.hid (by simp [zR, Value.oneCell'])
    have HI : Hid ((Try.prog.info? 32).map (·.size) = some zR.size) := Lib.hid (by kernel_rfl)
    have HBW : Hid (Below w.heap.size w (w.alloc (.cells zR 32))) := Lib.hid ((Below.refl _ _).alloc (Nat.le_refl _) _)
    have hc : (s.size : Int) < 17 ∨ (¬ (s.size : Int) < 17 ∧ (4096 : Int) < s.size) := by omega
    clear hin
    rcases hc with y1 | ⟨y1, y2⟩
    all_goals (
      go_enter Try.func18, Try.ntmps18
      go_wp2_with ((with_reducible refine wpList_row_same rfl 32 (.tmp 2) (.tmp 18) rfl w.heap.size 32 zR ?_ ?_ HNZ.out HI.out HZ1.out ?_); (· rfl); (· rfl))
      (try simp only [Exit.inBlock, Exit.then])
      refine bodyPost_ret (v := .tuple #[rv PRec.zero nils nils, .int .i64 7]) ?_ ?_ ?_
      · exact res_rec (r := PRec.zero) rfl _ _ w.heap.size rfl rfl HNZ.out
      · rfl
      · exact ⟨nils, nils, by rw [HD.out], by rw [HD.out]; exact ⟨RdS.nil _ _, RdS.nil _ _⟩, HBW.out⟩)
  case pos =>
    have y1 : ¬ (s.size : Int) < 17 := by omega
    have y2 : ¬ (4096 : Int) < s.size := by omega
    go_enter Try.func18, Try.ntmps18
    go_upto_region 3 with fail
    have i1 : (0 : Int) < s.size := by omega
    go_cut [4] (fun s4 wx => ∃ gx, s4 = .pointer (some ⟨gx, 0, none⟩) ∧ Hid (Sd w wx gx (rc (bs s.data.toList) nils nils)))
    case first =>
      have h0 : 0 < s.size := by omega
      have hx : (s[0]'h0).toNat = PRec.g s.data.toList 0 1 := by have := first_g s hin.1; have e : s.data.toList[0]? = some (s[0]'h0) := (List.getElem?_eq_getElem (by show 0 < s.size; omega)); rw [e] at this; simpa using this
      have HSD : Hid (Sd w ((w.alloc (.cells zR 32)).alloc (.cells (rc (bs s.data.toList) nils nils) 32)).drew (w.heap.size + 1) (rc (bs s.data.toList) nils nils)) := Lib.hid ⟨(((Below.refl _ _).alloc (Nat.le_refl _) _).alloc (by simp) _).drew, (Below.heap_alloc _ _ _ (by simp)).trans (heap_alloc_new w _), Nat.lt_succ_self _, by have h := heap_alloc_new (w.alloc (.cells zR 32)) (.cells (rc (bs s.data.toList) nils nils) 32); rw [World.size_alloc] at h; exact h⟩
      refine wp_region_held_drew (S := (fun _ => True)) (by kernel_rfl) ?_ (fun hHeld => ?_)
      · ((try dsimp only); all_goals exact trivial)
      refine wpAnyH_take (i := 0) (v := ?_) (by simp only [List.getElem?_toArray, List.getElem?_cons_zero]; rfl) (by kernel_rfl) (by kernel_rfl) (by kernel_rfl) (by intro _ _ _ h; exact h) (Or.inl ⟨by kernel_rfl, ?_⟩) (by assumption) ?_
      rotate_left
      · ((intro w hSw; (try dsimp only at hSw); go_simp); (try (with_reducible rfl)))
      try simp only [Act.put, List.setIfInBounds_toArray, List.set_cons_zero, List.set_cons_succ]
      refine wpAnyH_take (i := 1) (v := ?_) (by simp only [List.getElem?_toArray, List.getElem?_cons_succ, List.getElem?_cons_zero]; rfl) (by kernel_rfl) (by kernel_rfl) (by kernel_rfl) (by intro _ _ _ h; exact h) (Or.inl ⟨by kernel_rfl, ?_⟩) (by assumption) ?_
      rotate_left
      · ((intro w hSw; (try dsimp only at hSw); go_simp); (try (with_reducible rfl)))
      try simp only [Act.put, List.setIfInBounds_toArray, List.set_cons_zero, List.set_cons_succ]
      refine wpAnyH_take (i := 2) (v := ?_) (by simp only [List.getElem?_toArray, List.getElem?_cons_succ, List.getElem?_cons_zero]; rfl) (by kernel_rfl) (by kernel_rfl) (by kernel_rfl) (by intro _ _ _ h; exact h) (Or.inl ⟨by kernel_rfl, ?_⟩) (by assumption) ?_
      rotate_left
      · ((intro w hSw; (try dsimp only at hSw); go_simp); (try (with_reducible rfl)))
      try simp only [Act.put, List.setIfInBounds_toArray, List.set_cons_zero, List.set_cons_succ]
      refine wpAnyH_take (i := 4) (v := ?_) (by simp only [List.getElem?_toArray, List.getElem?_cons_succ, List.getElem?_cons_zero]; rfl) (by kernel_rfl) (by kernel_rfl) (by kernel_rfl) (by intro _ _ _ h; exact h) (Or.inl ⟨by kernel_rfl, ?_⟩) (by assumption) ?_
      rotate_left
      · ((intro w hSw; (try dsimp only at hSw); go_simp); (try (with_reducible rfl)))
      try simp only [Act.put, List.setIfInBounds_toArray, List.set_cons_zero, List.set_cons_succ]
      refine wpAnyH_ready (rs := [3, 7]) (by kernel_rfl) (by simp) ?_
      refine (AllReadyH.cons (by simp only [List.getElem?_toArray, List.getElem?_cons_succ, List.getElem?_cons_zero]; rfl) (fun K hK => ?_) (AllReadyH.cons (by simp only [List.getElem?_toArray, List.getElem?_cons_succ, List.getElem?_cons_zero]; rfl) (fun K hK => ?_) AllReadyH.nil))
      · go_simp
        (refine (HG8.out 1 _).mono ?_; rintro e w3 ⟨rfl, rfl⟩)
        go_wp2_with fail
        refine hK.out _ _ ?_ (fun hHeld2 => ?_)
        · ((try dsimp only); all_goals exact trivial)
        clear hK K
        try simp only [Act.put, List.setIfInBounds_toArray, List.set_cons_zero, List.set_cons_succ]
        clear hHeld; have hHeld := hHeld2; clear hHeld2
        refine wpAnyH_ready (rs := [5, 7]) (by kernel_rfl) (by simp) ?_
        refine (AllReadyH.cons (by simp only [List.getElem?_toArray, List.getElem?_cons_succ, List.getElem?_cons_zero]; rfl) (fun K hK => ?_) (AllReadyH.cons (by simp only [List.getElem?_toArray, List.getElem?_cons_succ, List.getElem?_cons_zero]; rfl) (fun K hK => ?_) AllReadyH.nil))
        · go_simp
          (refine (HG8.out 9 _).mono ?_; rintro e w3 ⟨rfl, rfl⟩)
          go_wp2_with fail
          refine hK.out _ _ ?_ (fun hHeld2 => ?_)
          · ((try dsimp only); all_goals exact trivial)
          clear hK K
          try simp only [Act.put, List.setIfInBounds_toArray, List.set_cons_zero, List.set_cons_succ]
          clear hHeld; have hHeld := hHeld2; clear hHeld2
          refine wpAnyH_take (i := 6) (v := ?_) (by simp only [List.getElem?_toArray, List.getElem?_cons_succ, List.getElem?_cons_zero]; rfl) (by kernel_rfl) (by kernel_rfl) (by kernel_rfl) (by intro _ _ _ h; exact h) (Or.inl ⟨by kernel_rfl, ?_⟩) (by assumption) ?_
          rotate_left
          · ((intro w hSw; (try dsimp only at hSw); go_simp); (try (with_reducible rfl)))
          try simp only [Act.put, List.setIfInBounds_toArray, List.set_cons_zero, List.set_cons_succ]
          refine wpAnyH_ready (rs := [7]) (by kernel_rfl) (by simp) ?_
          refine AllReadyH.cons (by simp only [List.getElem?_toArray, List.getElem?_cons_succ, List.getElem?_cons_zero]; rfl) (fun K hK => ?_) AllReadyH.nil
          go_simp
          refine hK.out _ _ ?_ (fun hHeld2 => ?_)
          · ((try dsimp only); all_goals exact trivial)
          clear hK K
          try simp only [Act.put, List.setIfInBounds_toArray, List.set_cons_zero, List.set_cons_succ]
          clear hHeld; have hHeld := hHeld2; clear hHeld2
          refine wpAnyH_ready (rs := [8]) (by kernel_rfl) (by simp) ?_
          refine AllReadyH.cons (by simp only [List.getElem?_toArray, List.getElem?_cons_succ, List.getElem?_cons_zero]; rfl) (fun K hK => ?_) AllReadyH.nil
          go_simp
          refine hK.out _ _ ?_ (fun hHeld2 => ?_)
          · ((try dsimp only); all_goals exact trivial)
          clear hK K
          try simp only [Act.put, List.setIfInBounds_toArray, List.set_cons_zero, List.set_cons_succ]
          clear hHeld; have hHeld := hHeld2; clear hHeld2
          refine wpAnyH_done (by kernel_rfl) ?_ _
          go_wp2_with fail
          go_meet
          exact ⟨w.heap.size + 1, rfl, HSD⟩
        · go_simp
          refine hK.out _ _ ?_ (fun hHeld2 => ?_)
          · ((try dsimp only); all_goals exact trivial)
          clear hK K
          try simp only [Act.put, List.setIfInBounds_toArray, List.set_cons_zero, List.set_cons_succ]
          clear hHeld; have hHeld := hHeld2; clear hHeld2
          refine wpAnyH_ready (rs := [5]) (by kernel_rfl) (by simp) ?_
          refine AllReadyH.cons (by simp only [List.getElem?_toArray, List.getElem?_cons_succ, List.getElem?_cons_zero]; rfl) (fun K hK => ?_) AllReadyH.nil
          go_simp
          (refine (HG8.out 9 _).mono ?_; rintro e w3 ⟨rfl, rfl⟩)
          go_wp2_with fail
          refine hK.out _ _ ?_ (fun hHeld2 => ?_)
          · ((try dsimp only); all_goals exact trivial)
          clear hK K
          try simp only [Act.put, List.setIfInBounds_toArray, List.set_cons_zero, List.set_cons_succ]
          clear hHeld; have hHeld := hHeld2; clear hHeld2
          refine wpAnyH_take (i := 6) (v := ?_) (by simp only [List.getElem?_toArray, List.getElem?_cons_succ, List.getElem?_cons_zero]; rfl) (by kernel_rfl) (by kernel_rfl) (by kernel_rfl) (by intro _ _ _ h; exact h) (Or.inl ⟨by kernel_rfl, ?_⟩) (by assumption) ?_
          rotate_left
          · ((intro w hSw; (try dsimp only at hSw); go_simp); (try (with_reducible rfl)))
          try simp only [Act.put, List.setIfInBounds_toArray, List.set_cons_zero, List.set_cons_succ]
          refine wpAnyH_ready (rs := [8]) (by kernel_rfl) (by simp) ?_
          refine AllReadyH.cons (by simp only [List.getElem?_toArray, List.getElem?_cons_succ, List.getElem?_cons_zero]; rfl) (fun K hK => ?_) AllReadyH.nil
          go_simp
          refine hK.out _ _ ?_ (fun hHeld2 => ?_)
          · ((try dsimp only); all_goals exact trivial)
          clear hK K
          try simp only [Act.put, List.setIfInBounds_toArray, List.set_cons_zero, List.set_cons_succ]
          clear hHeld; have hHeld := hHeld2; clear hHeld2
          refine wpAnyH_done (by kernel_rfl) ?_ _
          go_wp2_with fail
          go_meet
          exact ⟨w.heap.size + 1, rfl, HSD⟩
      · go_simp
        refine hK.out _ _ ?_ (fun hHeld2 => ?_)
        · ((try dsimp only); all_goals exact trivial)
        clear hK K
        try simp only [Act.put, List.setIfInBounds_toArray, List.set_cons_zero, List.set_cons_succ]
        clear hHeld; have hHeld := hHeld2; clear hHeld2
        refine wpAnyH_ready (rs := [3]) (by kernel_rfl) (by simp) ?_
        refine AllReadyH.cons (by simp only [List.getElem?_toArray, List.getElem?_cons_succ, List.getElem?_cons_zero]; rfl) (fun K hK => ?_) AllReadyH.nil
        go_simp
        (refine (HG8.out 1 _).mono ?_; rintro e w3 ⟨rfl, rfl⟩)
        go_wp2_with fail
        refine hK.out _ _ ?_ (fun hHeld2 => ?_)
        · ((try dsimp only); all_goals exact trivial)
        clear hK K
        try simp only [Act.put, List.setIfInBounds_toArray, List.set_cons_zero, List.set_cons_succ]
        clear hHeld; have hHeld := hHeld2; clear hHeld2
        refine wpAnyH_ready (rs := [5]) (by kernel_rfl) (by simp) ?_
        refine AllReadyH.cons (by simp only [List.getElem?_toArray, List.getElem?_cons_succ, List.getElem?_cons_zero]; rfl) (fun K hK => ?_) AllReadyH.nil
        go_simp
        (refine (HG8.out 9 _).mono ?_; rintro e w3 ⟨rfl, rfl⟩)
        go_wp2_with fail
        refine hK.out _ _ ?_ (fun hHeld2 => ?_)
        · ((try dsimp only); all_goals exact trivial)
        clear hK K
        try simp only [Act.put, List.setIfInBounds_toArray, List.set_cons_zero, List.set_cons_succ]
        clear hHeld; have hHeld := hHeld2; clear hHeld2
        refine wpAnyH_take (i := 6) (v := ?_) (by simp only [List.getElem?_toArray, List.getElem?_cons_succ, List.getElem?_cons_zero]; rfl) (by kernel_rfl) (by kernel_rfl) (by kernel_rfl) (by intro _ _ _ h; exact h) (Or.inl ⟨by kernel_rfl, ?_⟩) (by assumption) ?_
        rotate_left
        · ((intro w hSw; (try dsimp only at hSw); go_simp); (try (with_reducible rfl)))
        try simp only [Act.put, List.setIfInBounds_toArray, List.set_cons_zero, List.set_cons_succ]
        refine wpAnyH_ready (rs := [8]) (by kernel_rfl) (by simp) ?_
        refine AllReadyH.cons (by simp only [List.getElem?_toArray, List.getElem?_cons_succ, List.getElem?_cons_zero]; rfl) (fun K hK => ?_) AllReadyH.nil
        go_simp
        refine hK.out _ _ ?_ (fun hHeld2 => ?_)
        · ((try dsimp only); all_goals exact trivial)
        clear hK K
        try simp only [Act.put, List.setIfInBounds_toArray, List.set_cons_zero, List.set_cons_succ]
        clear hHeld; have hHeld := hHeld2; clear hHeld2
        refine wpAnyH_done (by kernel_rfl) ?_ _
        go_wp2_with fail
        go_meet
        exact ⟨w.heap.size + 1, rfl, HSD⟩
    case rest =>
      obtain ⟨gx, rfl, HS⟩ := hcut
      obtain ⟨w4, hw4⟩ : ∃ x, x = wc := ⟨_, rfl⟩
      subst hw4
      have c0 : w4.cell? ⟨gx, 0, none⟩ = some (.int .u8 (PRec.g s.data.toList 0 1 : Nat)) := (box12d HS.out.2.2.2).1
      go_upto_block 0 with fail
      go_cut [4] (fun s4 wx => s4 = .pointer (some ⟨gx, 0, none⟩) ∧ ∃ vd vt, Hid (Sd w wx gx (rc (PRec.parse s.data.toList) vd vt)) ∧ Hid (RecS wx (gx + 1) (PRec.parse s.data.toList) vd vt))
      case first =>
        have d3 := (box12d HS.out.2.2.2).2.2.2.1
        have f3 := frozen12 (j := 3) HS.out.2.2.2
        have d4 := (box12d HS.out.2.2.2).2.2.2.2.1
        have f4 := frozen12 (j := 4) HS.out.2.2.2
        have d5 := (box12d HS.out.2.2.2).2.2.2.2.2.1
        have f5 := frozen12 (j := 5) HS.out.2.2.2
        have d6 := (box12d HS.out.2.2.2).2.2.2.2.2.2.1
        have f6 := frozen12 (j := 6) HS.out.2.2.2
        have d7 := (box12d HS.out.2.2.2).2.2.2.2.2.2.2.1
        have f7 := frozen12 (j := 7) HS.out.2.2.2
        have hw4b : IntKind.u32.wrap ((PRec.g s.data.toList 17 4 : Nat) : Int) = (PRec.g s.data.toList 17 4 : Nat) := by have := PRec.g_lt s.data.toList 17 4; rw [IntKind.wrap_u32]; omega
        have hw2b : IntKind.u16.wrap ((PRec.g s.data.toList 21 2 : Nat) : Int) = (PRec.g s.data.toList 21 2 : Nat) := by have := PRec.g_lt s.data.toList 21 2; rw [IntKind.wrap_u16]; omega
        by_cases h2 : PRec.g s.data.toList 0 1 = 2
        · have HK := Lib.hid h2
          have k2 : (((PRec.g s.data.toList 0 1 : Nat) : Int) == 2) = true := by simp; omega
          have k6 : (((PRec.g s.data.toList 0 1 : Nat) : Int) == 6) = false := by simp; omega
          have k3 : (((PRec.g s.data.toList 0 1 : Nat) : Int) == 3) = false := by simp; omega
          have k4 : (((PRec.g s.data.toList 0 1 : Nat) : Int) == 4) = false := by simp; omega
          have k8 : (((PRec.g s.data.toList 0 1 : Nat) : Int) == 8) = false := by simp; omega
          clear h2
          have HPP : Hid (PRec.parse s.data.toList = { pre s.data.toList with body := PRec.rest s.data.toList 23 }) := Lib.hid (pre_2 _ HK.out).2.1
          have HEND : Hid (Sd w _ gx (rc (PRec.parse s.data.toList) nils nils)) := Lib.hid (by rw [HPP.out, (pre_2 _ HK.out).1]; exact (((HS.out.set 3 (.int .u32 (PRec.g s.data.toList 17 4 : Nat))).set 4 (.int .u16 (PRec.g s.data.toList 21 2 : Nat))).set 7 (.string ⟨(PRec.rest s.data.toList 23).toArray⟩)))
          go_wp2_with fail
          refine (HG4.out 17 _).mono ?_
          rintro e w5 ⟨rfl, rfl⟩
          go_wp2_with fail
          refine (HG2.out 21 _).mono ?_
          rintro e w5 ⟨rfl, rfl⟩
          go_wp2_with fail
          refine (HRE.out 23 _).mono ?_
          rintro e w5 ⟨rfl, rfl⟩
          go_wp2_with fail
          go_meet
          exact ⟨rfl, nils, nils, HEND, Lib.hid (RecS.nil _ _ (by rw [HPP.out, (pre_2 _ HK.out).1]; rfl) (by rw [HPP.out, (pre_2 _ HK.out).1]; rfl))⟩
        by_cases h6 : PRec.g s.data.toList 0 1 = 6
        · have HK := Lib.hid h6
          have k2 : (((PRec.g s.data.toList 0 1 : Nat) : Int) == 2) = false := by simp; omega
          have k6 : (((PRec.g s.data.toList 0 1 : Nat) : Int) == 6) = true := by simp; omega
          have k3 : (((PRec.g s.data.toList 0 1 : Nat) : Int) == 3) = false := by simp; omega
          have k4 : (((PRec.g s.data.toList 0 1 : Nat) : Int) == 4) = false := by simp; omega
          have k8 : (((PRec.g s.data.toList 0 1 : Nat) : Int) == 8) = false := by simp; omega
          clear h2 h6
          have HPP : Hid (PRec.parse s.data.toList = { pre s.data.toList with body := PRec.rest s.data.toList 17 }) := Lib.hid (pre_6 _ HK.out).2.1
          have HEND : Hid (Sd w _ gx (rc (PRec.parse s.data.toList) nils nils)) := Lib.hid (by rw [HPP.out, (pre_6 _ HK.out).1]; exact (HS.out.set 7 (.string ⟨(PRec.rest s.data.toList 17).toArray⟩)))
          go_wp2_with fail
          refine (HRE.out 17 _).mono ?_
          rintro e w5 ⟨rfl, rfl⟩
          go_wp2_with fail
          go_meet
          exact ⟨rfl, nils, nils, HEND, Lib.hid (RecS.nil _ _ (by rw [HPP.out, (pre_6 _ HK.out).1]; rfl) (by rw [HPP.out, (pre_6 _ HK.out).1]; rfl))⟩
        by_cases h3 : PRec.g s.data.toList 0 1 = 3
        · have HK := Lib.hid h3
          have k2 : (((PRec.g s.data.toList 0 1 : Nat) : Int) == 2) = false := by simp; omega
          have k6 : (((PRec.g s.data.toList 0 1 : Nat) : Int) == 6) = false := by simp; omega
          have k3 : (((PRec.g s.data.toList 0 1 : Nat) : Int) == 3) = true := by simp; omega
          have k4 : (((PRec.g s.data.toList 0 1 : Nat) : Int) == 4) = false := by simp; omega
          have k8 : (((PRec.g s.data.toList 0 1 : Nat) : Int) == 8) = false := by simp; omega
          clear h2 h6 h3
          have HPP : Hid (PRec.parse s.data.toList = { pre s.data.toList with body := PRec.rest s.data.toList 25 }) := Lib.hid (pre_3 _ HK.out).2.1
          have HEND : Hid (Sd w _ gx (rc (PRec.parse s.data.toList) nils nils)) := Lib.hid (by rw [HPP.out, (pre_3 _ HK.out).1]; exact ((HS.out.set 5 (.int .u64 (PRec.g s.data.toList 17 8 : Nat))).set 7 (.string ⟨(PRec.rest s.data.toList 25).toArray⟩)))
          go_wp2_with fail
          refine (HG8.out 17 _).mono ?_
          rintro e w5 ⟨rfl, rfl⟩
          go_wp2_with fail
          refine (HRE.out 25 _).mono ?_
          rintro e w5 ⟨rfl, rfl⟩
          go_wp2_with fail
          go_meet
          exact ⟨rfl, nils, nils, HEND, Lib.hid (RecS.nil _ _ (by rw [HPP.out, (pre_3 _ HK.out).1]; rfl) (by rw [HPP.out, (pre_3 _ HK.out).1]; rfl))⟩
        by_cases h4 : PRec.g s.data.toList 0 1 = 4
        · have HK := Lib.hid h4
          have k2 : (((PRec.g s.data.toList 0 1 : Nat) : Int) == 2) = false := by simp; omega
          have k6 : (((PRec.g s.data.toList 0 1 : Nat) : Int) == 6) = false := by simp; omega
          have k3 : (((PRec.g s.data.toList 0 1 : Nat) : Int) == 3) = false := by simp; omega
          have k4 : (((PRec.g s.data.toList 0 1 : Nat) : Int) == 4) = true := by simp; omega
          have k8 : (((PRec.g s.data.toList 0 1 : Nat) : Int) == 8) = false := by simp; omega
          clear h2 h6 h3 h4
          have HPP : Hid (PRec.parse s.data.toList = { pre s.data.toList with body := PRec.rest s.data.toList 25 }) := Lib.hid (pre_4 _ HK.out).2.1
          have HEND : Hid (Sd w _ gx (rc (PRec.parse s.data.toList) nils nils)) := Lib.hid (by rw [HPP.out, (pre_4 _ HK.out).1]; exact ((HS.out.set 6 (.int .u64 (PRec.g s.data.toList 17 8 : Nat))).set 7 (.string ⟨(PRec.rest s.data.toList 25).toArray⟩)))
          go_wp2_with fail
          refine (HG8.out 17 _).mono ?_
          rintro e w5 ⟨rfl, rfl⟩
          go_wp2_with fail
          refine (HRE.out 25 _).mono ?_
          rintro e w5 ⟨rfl, rfl⟩
          go_wp2_with fail
          go_meet
          exact ⟨rfl, nils, nils, HEND, Lib.hid (RecS.nil _ _ (by rw [HPP.out, (pre_4 _ HK.out).1]; rfl) (by rw [HPP.out, (pre_4 _ HK.out).1]; rfl))⟩
        by_cases h8 : PRec.g s.data.toList 0 1 = 8
        · have HK := Lib.hid h8
          have k2 : (((PRec.g s.data.toList 0 1 : Nat) : Int) == 2) = false := by simp; omega
          have k6 : (((PRec.g s.data.toList 0 1 : Nat) : Int) == 6) = false := by simp; omega
          have k3 : (((PRec.g s.data.toList 0 1 : Nat) : Int) == 3) = false := by simp; omega
          have k4 : (((PRec.g s.data.toList 0 1 : Nat) : Int) == 4) = false := by simp; omega
          have k8 : (((PRec.g s.data.toList 0 1 : Nat) : Int) == 8) = true := by simp; omega
          clear h2 h6 h3 h4 h8
          have d10 := (box12d HS.out.2.2.2).2.2.2.2.2.2.2.2.2.2.1
          have d11 := (box12d HS.out.2.2.2).2.2.2.2.2.2.2.2.2.2.2
          have f10 := frozen12 (j := 10) HS.out.2.2.2
          have f11 := frozen12 (j := 11) HS.out.2.2.2
          have HL4 : Hid (∀ (p : Nat) (W : World), Calls Try.prog 30 #[.string s, .int .i64 p, .int .i64 4] W fun e w' => e = .returned (.int .u64 (PRec.g s.data.toList p 4)) ∧ W = w') := Lib.hid (fun p W => rget_nat s hsm p 4 W)
          have HL8 : Hid (∀ (p : Nat) (W : World), Calls Try.prog 30 #[.string s, .int .i64 p, .int .i64 8] W fun e w' => e = .returned (.int .u64 (PRec.g s.data.toList p 8)) ∧ W = w') := Lib.hid (fun p W => rget_nat s hsm p 8 W)
          clear d3 f3 d4 f4 d5 f5 d6 f6 d7 f7 hw4b hw2b
          go_wp2_with fail
          refine (HG8.out 17 _).mono ?_
          rintro e w5 ⟨rfl, rfl⟩
          go_wp2_with fail
          refine (HG8.out 25 _).mono ?_
          rintro e w5 ⟨rfl, rfl⟩
          go_wp2_with fail
          refine (HG1.out 33 _).mono ?_
          rintro e w5 ⟨rfl, rfl⟩
          have HS7 : Hid (Sd w _ gx (rc { bs s.data.toList with ttx := PRec.g s.data.toList 17 8, tnum := PRec.g s.data.toList 25 8 } nils nils)) := Lib.hid ((HS.out.set 10 (.int .u64 (PRec.g s.data.toList 17 8 : Nat))).set 11 (.int .u64 (PRec.g s.data.toList 25 8 : Nat)))
          have hn : PRec.g s.data.toList 33 1 < 256 := PRec.g_lt s.data.toList 33 1
          obtain ⟨n, hnn⟩ : ∃ n : Nat, PRec.g s.data.toList 33 1 = n := ⟨_, rfl⟩
          have HNN := Lib.hid hnn
          rw [hnn] at hn ⊢
          clear hnn HS d10 d11 f10 f11 c0
          have hwn : IntKind.i64.wrap (n : Int) = (n : Nat) := by rw [IntKind.wrap_i64]; omega
          go_wp2
          go_loopw [6, 7] (fun av iv wr => ∃ (k P : Nat) (v : Value), k ≤ n ∧ av = .int .i64 P ∧ iv = .int .i64 k ∧ Hid (P = 34 + 12 * k) ∧ Hid (Sd w wr gx (rc { bs s.data.toList with ttx := PRec.g s.data.toList 17 8, tnum := PRec.g s.data.toList 25 8 } v nils)) ∧ Hid (Sl wr (gx + 1) 52 2 v k (dirtyV (PRec.getD s.data.toList k 34)))) (fun _ iv _ => n - (intOf iv).toNat)
          case atStart => exact ⟨0, 34, nils, by omega, rfl, rfl, Lib.hid rfl, HS7, Lib.hid (Sl.nil _ _ _ _)⟩
          case round =>
            clear HS7
            obtain ⟨k, P, v, hk, rfl, rfl, HP, HS, HSL⟩ := hrel
            obtain ⟨pv, cv, rfl⟩ := sl_formD HSL.out
            have hP : P ≤ 3100 := by have := HP.out; omega
            by_cases hlt : k < n
            · have i1 : (k : Int) < n := by omega
              replace HS := Lib.hid (show Sd w wr.drew gx _ from ⟨HS.out.1.drew, HS.out.2⟩)
              replace HSL := Lib.hid HSL.out.drew
              have c8 := (box12d HS.out.2.2.2).2.2.2.2.2.2.2.2.1
              have c8n : ∀ o, (wr.alloc o).drew.cell? ⟨gx, 8, none⟩ = some (.slice pv k cv) := (fun o => (World.cell?_alloc_some wr.drew ⟨gx, 8, none⟩ o (by rw [c8]; rfl)).trans c8)
              have hw4 : IntKind.u32.wrap ((PRec.g s.data.toList P 4 : Nat) : Int) = (PRec.g s.data.toList P 4 : Nat) := by have := PRec.g_lt s.data.toList P 4; rw [IntKind.wrap_u32]; omega
              obtain ⟨P4, hP4⟩ : ∃ P4 : Nat, P4 = P + 4 := ⟨_, rfl⟩
              have HP4 := Lib.hid hP4
              have hwp : IntKind.i64.wrap ((P : Int) + 4) = (P4 : Nat) := by rw [IntKind.wrap_i64]; omega
              clear hP4
              go_wp2_with fail
              go_region_law (first | ((try go_simp); (first | with_reducible refine (HL4.out P _).mono ?_ | with_reducible refine (HL8.out P4 _).mono ?_); rintro e w8 ⟨rfl, rfl⟩; go_wp2_with fail) | (refine step_append_sl elem_drt (by rfl) (by rfl) (HSL.out.alloc _) (by rfl) [.int .u32 (PRec.g s.data.toList P 4 : Nat), .int .u64 (PRec.g s.data.toList P4 8 : Nat)] (by rfl) (by rfl) (new_cells _ _ _) (by intro u hu; simp at hu; rcases hu with rfl | rfl <;> rfl) (by unfold maxLen; omega) (by omega) (by have h0 : gx < wr.heap.size := (Array.getElem?_eq_some_iff.1 HS.out.2.2.2).1; show gx + 1 ≤ (World.alloc wr _).heap.size; rw [World.size_alloc]; omega) ?_; intro v' w9 hl hg9 hown9; obtain ⟨p9, q9, rfl⟩ := sl_formD hl; have hpe := pushS (j := 8) (Nat.lt_succ_self gx) HS.out HSL.out hl hg9; have c8 := (box12d hpe.1).2.2.2.2.2.2.2.2.1; have f8 := frozen12 (j := 8) hpe.1; have HPE := Lib.hid hpe; clear hpe hl hg9 hown9))
              all_goals (
                have HLn : Hid (Sl _ (gx + 1) 52 2 (.slice p9 (k + 1) q9) (k + 1) (dirtyV (PRec.getD s.data.toList (k + 1) 34))) := Lib.hid (by rw [PRec.getD_snoc, dirtyV_snoc, ← HP.out, ← HP4.out]; exact HPE.out.2.2)
                have HSn := Lib.hid HPE.out.2.1
                clear HPE HS HSL c8 f8 c8n
                go_wp2
                exact ⟨⟨k + 1, P + 12, _, by omega, by go_num, by go_num, Lib.hid (by have := HP.out; omega), HSn, HLn⟩, by simp [intOf]; omega⟩)
            · have hkn : k = n := by omega
              subst hkn
              have i1 : ¬ (k : Int) < k := by omega
              go_wp2_with fail
              refine (HG1.out P _).mono ?_
              rintro e w8 ⟨rfl, rfl⟩
              have hm : PRec.g s.data.toList P 1 < 256 := PRec.g_lt s.data.toList P 1
              obtain ⟨m, hmm⟩ : ∃ m : Nat, PRec.g s.data.toList P 1 = m := ⟨_, rfl⟩
              have HMM := Lib.hid hmm
              rw [hmm] at hm ⊢
              clear hmm hlt i1 hk
              have hwm : IntKind.i64.wrap (m : Int) = (m : Nat) := by rw [IntKind.wrap_i64]; omega
              obtain ⟨B, hB⟩ : ∃ B : Nat, B = wr.heap.size := ⟨_, rfl⟩
              have hgB : gx < B := by rw [hB]; exact (Array.getElem?_eq_some_iff.1 HS.out.2.2.2).1
              have HDL : Hid (∀ j, (Value.slice pv k cv).ownBlock = some j → j < B) := Lib.hid (fun j hj => by rw [hB]; exact (HSL.out.lt j hj).2)
              have HB0 : Hid (B ≤ wr.heap.size) := Lib.hid (by omega)
              have HS8 := HS
              have HSL8 := HSL
              clear hB HS HSL
              go_wp2
              go_loopw [6, 9] (fun av iv wr => ∃ (i Q : Nat) (u : Value), i ≤ m ∧ av = .int .i64 Q ∧ iv = .int .i64 i ∧ Hid (Q = 35 + 12 * k + 32 * i) ∧ Hid (Sd w wr gx (rc { bs s.data.toList with ttx := PRec.g s.data.toList 17 8, tnum := PRec.g s.data.toList 25 8 } (.slice pv k cv) u)) ∧ Hid (Sl wr (gx + 1) 52 2 (.slice pv k cv) k (dirtyV (PRec.getD s.data.toList k 34))) ∧ Hid (Sl wr B 54 4 u i (txnsV (PRec.getT s.data.toList i (35 + 12 * k)))) ∧ Hid (B ≤ wr.heap.size)) (fun _ iv _ => m - (intOf iv).toNat)
              case atStart => exact ⟨0, P + 1, nils, by omega, by go_num, rfl, Lib.hid (by have := HP.out; omega), HS8, HSL8, Lib.hid (Sl.nil _ _ _ _), HB0⟩
              case round =>
                clear HS8 HSL8 HB0
                obtain ⟨i, Q, u, hi, rfl, rfl, HQ, HS, HSD, HSL, HBB⟩ := hrel
                obtain ⟨pv2, cv2, rfl⟩ := sl_formD HSL.out
                have hQ : Q ≤ 90000 := by have := HQ.out; have := HP.out; omega
                by_cases hlt : i < m
                · have i1 : (i : Int) < m := by omega
                  replace HS := Lib.hid (show Sd w wr.drew gx _ from ⟨HS.out.1.drew, HS.out.2⟩)
                  replace HSL := Lib.hid HSL.out.drew
                  replace HSD := Lib.hid HSD.out.drew
                  replace HBB := Lib.hid (show B ≤ wr.drew.heap.size from HBB.out)
                  have c9 := (box12d HS.out.2.2.2).2.2.2.2.2.2.2.2.2.1
                  have c9n : ∀ o, (wr.alloc o).drew.cell? ⟨gx, 9, none⟩ = some (.slice pv2 i cv2) := (fun o => (World.cell?_alloc_some wr.drew ⟨gx, 9, none⟩ o (by rw [c9]; rfl)).trans c9)
                  obtain ⟨Q8, hQ8⟩ : ∃ x : Nat, x = Q + 8 := ⟨_, rfl⟩
                  have HQ8 := Lib.hid hQ8
                  have hwQ8 : IntKind.i64.wrap ((Q : Int) + 8) = (Q8 : Nat) := by rw [IntKind.wrap_i64]; omega
                  clear hQ8
                  obtain ⟨Q16, hQ16⟩ : ∃ x : Nat, x = Q + 16 := ⟨_, rfl⟩
                  have HQ16 := Lib.hid hQ16
                  have hwQ16 : IntKind.i64.wrap ((Q : Int) + 16) = (Q16 : Nat) := by rw [IntKind.wrap_i64]; omega
                  clear hQ16
                  obtain ⟨Q24, hQ24⟩ : ∃ x : Nat, x = Q + 24 := ⟨_, rfl⟩
                  have HQ24 := Lib.hid hQ24
                  have hwQ24 : IntKind.i64.wrap ((Q : Int) + 24) = (Q24 : Nat) := by rw [IntKind.wrap_i64]; omega
                  clear hQ24
                  go_wp2_with fail
                  go_region_law (first | ((try go_simp); (first | with_reducible refine (HL8.out Q _).mono ?_ | with_reducible refine (HL8.out Q8 _).mono ?_ | with_reducible refine (HL8.out Q16 _).mono ?_ | with_reducible refine (HL8.out Q24 _).mono ?_); rintro e w8 ⟨rfl, rfl⟩; go_wp2_with fail) | (refine step_append_sl elem_act (by rfl) (by rfl) (HSL.out.alloc _) (by rfl) [.int .u64 (PRec.g s.data.toList Q 8 : Nat), .int .u64 (PRec.g s.data.toList Q8 8 : Nat), .int .u64 (PRec.g s.data.toList Q16 8 : Nat), .int .u64 (PRec.g s.data.toList Q24 8 : Nat)] (by rfl) (by rfl) (new_cells _ _ _) (by intro u hu; simp at hu; rcases hu with rfl | rfl | rfl | rfl <;> rfl) (by unfold maxLen; omega) (by omega) (by have h0 : B ≤ wr.heap.size := HBB.out; show B ≤ (World.alloc wr _).heap.size; rw [World.size_alloc]; omega) ?_; intro v' w9 hl hg9 hown9; obtain ⟨p9, q9, rfl⟩ := sl_formD hl; have hpe := pushS (j := 9) hgB HS.out HSL.out hl hg9; have hpo := push_other (j := 9) (v' := .slice p9 (i + 1) q9) hgB HSL.out hg9 HSD.out HDL.out; have hsz := hg9.size; have c9 := (box12d hpe.1).2.2.2.2.2.2.2.2.2.1; have f9 := frozen12 (j := 9) hpe.1; have HPE := Lib.hid hpe; have HPO := Lib.hid hpo; have HSZ : Hid (B ≤ (w9.setCell ⟨gx, 9, none⟩ (.slice p9 (i + 1) q9)).heap.size) := Lib.hid (by have h1 : B ≤ wr.heap.size := HBB.out; have h2 : (World.alloc wr _).heap.size ≤ w9.heap.size := hsz; rw [World.size_alloc] at h2; simp [World.setCell]; omega); clear hpe hpo hsz hl hg9 hown9))
                  all_goals (
                    have HLn : Hid (Sl _ B 54 4 (.slice p9 (i + 1) q9) (i + 1) (txnsV (PRec.getT s.data.toList (i + 1) (35 + 12 * k)))) := Lib.hid (by rw [PRec.getT_snoc, txnsV_snoc, ← HQ.out, ← HQ8.out, ← HQ16.out, ← HQ24.out]; exact HPE.out.2.2)
                    have HSn := Lib.hid HPE.out.2.1
                    clear HPE HS HSL HSD c9 f9 c9n
                    go_wp2
                    exact ⟨⟨i + 1, Q + 32, _, by omega, by go_num, by go_num, Lib.hid (by have := HQ.out; omega), HSn, HPO, HLn, HSZ⟩, by simp [intOf]; omega⟩)
                · have hin : i = m := by omega
                  subst hin
                  have i1 : ¬ (i : Int) < i := by omega
                  have HPP : Hid (PRec.parse s.data.toList = { { bs s.data.toList with ttx := PRec.g s.data.toList 17 8, tnum := PRec.g s.data.toList 25 8 } with dirty := PRec.getD s.data.toList k 34, txns := PRec.getT s.data.toList i (35 + 12 * k) }) := Lib.hid (by rw [(pre_8 _ HK.out).2.1, (pre_8 _ HK.out).1, HNN.out, ← HP.out, HMM.out])
                  go_wp2_with fail
                  go_meet
                  refine ⟨rfl, .slice pv k cv, _, Lib.hid (by rw [HPP.out]; exact HS.out), Lib.hid ?_⟩
                  rw [HPP.out]
                  unfold RecS
                  dsimp only
                  rw [PRec.getD_length, PRec.getT_length]
                  exact ⟨HSD.out, HSL.out.base_le (by omega)⟩
        have HK := Lib.hid (⟨h2, h6, h3, h4, h8⟩ : _ ∧ _ ∧ _ ∧ _ ∧ _)
        have k2 : (((PRec.g s.data.toList 0 1 : Nat) : Int) == 2) = false := by simp; omega
        have k6 : (((PRec.g s.data.toList 0 1 : Nat) : Int) == 6) = false := by simp; omega
        have k3 : (((PRec.g s.data.toList 0 1 : Nat) : Int) == 3) = false := by simp; omega
        have k4 : (((PRec.g s.data.toList 0 1 : Nat) : Int) == 4) = false := by simp; omega
        have k8 : (((PRec.g s.data.toList 0 1 : Nat) : Int) == 8) = false := by simp; omega
        clear h2 h6 h3 h4 h8
        have HPP : Hid (PRec.parse s.data.toList = bs s.data.toList) := Lib.hid ((pre_0 _ HK.out.1 HK.out.2.1 HK.out.2.2.1 HK.out.2.2.2.1 HK.out.2.2.2.2).2.1.trans (pre_0 _ HK.out.1 HK.out.2.1 HK.out.2.2.1 HK.out.2.2.2.1 HK.out.2.2.2.2).1)
        go_wp2_with fail
        go_meet
        exact ⟨rfl, nils, nils, Lib.hid (by rw [HPP.out]; exact HS.out), Lib.hid (RecS.nil _ _ (by rw [HPP.out]; rfl) (by rw [HPP.out]; rfl))⟩
      case rest =>
        obtain ⟨rfl, vd, vt, HS, HRI⟩ := hcut
        obtain ⟨w9, hw9⟩ : ∃ x, x = wc := ⟨_, rfl⟩
        subst hw9
        obtain ⟨pd, cd, rfl⟩ := sl_formD HRI.out.1
        obtain ⟨pt, ct, rfl⟩ := sl_formD HRI.out.2
        have HD : Hid (PRec.dec s.data.toList = if PRec.may (PRec.parse s.data.toList) && decide (PRec.enc (PRec.parse s.data.toList) = s.data.toList) then (PRec.parse s.data.toList, 0) else (PRec.zero, 7)) := Lib.hid rfl
        have HPO := Lib.hid (PRec.parse_ok s.data.toList)
        have HPS : Hid ((PRec.parse s.data.toList).body.length ≤ 1000000) := Lib.hid (by have := (PRec.parse_small s.data.toList).2.2; have e : s.data.toList.length = s.size := rfl; omega)
        generalize PRec.parse s.data.toList = G at *
        have HZ1 : Hid (zR.all (·.oneCell') = true) := Lib.hid (by simp [zR, Value.oneCell'])
        have HI : Hid ((Try.prog.info? 32).map (·.size) = some zR.size) := Lib.hid (by kernel_rfl)
        have HI2 : Hid ((Try.prog.info? 32).map (·.size) = some (rc G (.slice pd G.dirty.length cd) (.slice pt G.txns.length ct)).size) := Lib.hid (by kernel_rfl)
        have HZS : Hid (zR.size = (rc G (.slice pd G.dirty.length cd) (.slice pt G.txns.length ct)).size) := Lib.hid rfl
        have H1 : Hid ((rc G (.slice pd G.dirty.length cd) (.slice pt G.txns.length ct)).all (·.oneCell') = true) := Lib.hid (by simp [rc, Value.oneCell'])
        have HS2 := Lib.hid (fun W (hb : Below w9.heap.size w9 W) => (⟨HS.out.1.step hb, (hb.block _ (Array.getElem?_eq_some_iff.1 HS.out.2.1).1).trans HS.out.2.1, HS.out.2.2.1, (hb.block _ (Array.getElem?_eq_some_iff.1 HS.out.2.2.2).1).trans HS.out.2.2.2⟩ : Sd w W gx (rc G (.slice pd G.dirty.length cd) (.slice pt G.txns.length ct))))
        obtain ⟨c0, c1, c2, c3, c4, c5, c6, c7, c8, c9, c10, c11⟩ := box12d HS.out.2.2.2
        go_wp2_with fail
        refine (rmay_any G _ _ _ HRI.out.recIn).mono ?_
        rintro e w10 ⟨rfl, hb⟩
        replace HS := Lib.hid (HS2.out _ hb)
        replace HRI := Lib.hid (HRI.out.below hb)
        clear hb HS2 c0 c1 c2 c3 c4 c5 c6 c7 c8 c9 c10 c11
        have HZ := Lib.hid HS.out.2.1
        cases hmay : PRec.may G
        · have HEQ : Hid (PRec.dec s.data.toList = (PRec.zero, 7)) := Lib.hid (by rw [HD.out, hmay]; rfl)
          clear hmay
          go_wp2_with ((with_reducible refine wpList_row_same rfl 32 (.tmp 2) (.tmp 143) rfl w.heap.size 32 zR ?_ ?_ HZ.out HI.out HZ1.out ?_); (· rfl); (· rfl))
          (try simp only [Exit.inBlock, Exit.then])
          refine bodyPost_ret (v := .tuple #[rv PRec.zero nils nils, .int .i64 7]) ?_ ?_ ?_
          · exact res_rec (r := PRec.zero) rfl _ _ w.heap.size rfl rfl HZ.out
          · rfl
          · exact ⟨nils, nils, by rw [HEQ.out], by rw [HEQ.out]; exact ⟨RdS.nil _ _, RdS.nil _ _⟩, HS.out.1⟩
        · have HMAY := Lib.hid hmay
          clear hmay
          obtain ⟨c0, c1, c2, c3, c4, c5, c6, c7, c8, c9, c10, c11⟩ := box12d HS.out.2.2.2
          go_wp2_with fail
          refine (renc_any G HPO.out HPS.out _ _ _ HRI.out.recIn).mono ?_
          rintro e w11 ⟨rfl, hb⟩
          have h2 := (hb.block _ (Array.getElem?_eq_some_iff.1 HS.out.2.2.2).1).trans HS.out.2.2.2
          replace HZ := Lib.hid ((hb.block _ (Array.getElem?_eq_some_iff.1 HZ.out).1).trans HZ.out)
          have HBW := Lib.hid (HS.out.1.step hb)
          have HGX := Lib.hid HS.out.2.2.1
          replace HRI := Lib.hid (HRI.out.below hb)
          obtain ⟨c0, c1, c2, c3, c4, c5, c6, c7, c8, c9, c10, c11⟩ := box12d h2
          clear hb h2 HS
          by_cases hen : PRec.enc G = s.data.toList
          · have HEQ : Hid (PRec.dec s.data.toList = (G, 0)) := Lib.hid (by rw [HD.out]; simp [HMAY.out, hen])
            have hts : (⟨(PRec.enc G).toArray⟩ : ByteArray) = s := by rw [hen]
            rw [hts]
            clear hts hen
            go_wp2_with ((with_reducible refine wpList_row_put rfl 32 (.tmp 2) (.tmp 144) rfl w.heap.size 32 zR (rc G (.slice pd G.dirty.length cd) (.slice pt G.txns.length ct)) ?_ ?_ HZ.out HI2.out HZS.out H1.out ?_); (· rfl); (· rfl))
            (try simp only [Exit.inBlock, Exit.then])
            refine bodyPost_ret (v := .tuple #[rv G (.slice pd G.dirty.length cd) (.slice pt G.txns.length ct), .int .i64 0]) ?_ ?_ ?_
            · exact res_rec (r := G) rfl _ _ w.heap.size rfl rfl (setRow_heap _ _ _ _ _ _ HZ.out)
            · rfl
            · exact ⟨_, _, by rw [HEQ.out], by rw [HEQ.out]; exact (HRI.out.keep (fun k h1 _ => setRow_ne _ _ _ _ (by have := HGX.out; omega))).recIn, below_rowD HBW.out (Nat.le_refl _) _⟩
          · have HEQ : Hid (PRec.dec s.data.toList = (PRec.zero, 7)) := Lib.hid (by rw [HD.out, HMAY.out]; simp [hen])
            obtain ⟨t, ht⟩ : ∃ t, (⟨(PRec.enc G).toArray⟩ : ByteArray) = t := ⟨_, rfl⟩
            have hts : (t.toList == s.toList) = false := by rw [beq_eq_false_iff_ne, bytes_eq, bytes_eq, ← ht]; exact hen
            have hts2 : (t.toList != s.toList) = true := by rw [bne, hts]; rfl
            rw [ht]
            clear ht hen c0 c1 c2 c3 c4 c5 c6 c7 c8 c9 c10 c11
            go_wp2_with ((with_reducible refine wpList_row_same rfl 32 (.tmp 2) (.tmp 143) rfl w.heap.size 32 zR ?_ ?_ HZ.out HI.out HZ1.out ?_); (· rfl); (· rfl))
            (try simp only [Exit.inBlock, Exit.then])
            refine bodyPost_ret (v := .tuple #[rv PRec.zero nils nils, .int .i64 7]) ?_ ?_ ?_
            · exact res_rec (r := PRec.zero) rfl _ _ w.heap.size rfl rfl HZ.out
            · rfl
            · exact ⟨nils, nils, by rw [HEQ.out], by rw [HEQ.out]; exact ⟨RdS.nil _ _, RdS.nil _ _⟩, HBW.out⟩
end Go.Proofs.Ytpkmnihiepbmcaa
