/-
  A disk's Crash.
-/
import Derived.Test.YtjnggldalggfnaaDisk5
import Derived.WalkMore
namespace PDsk
theorem kept_step (l : List (Nat × List UInt8)) (ks : List Bool) (i : Nat) (hi : i < l.length) (hk : i < ks.length) : kept (l.take (i + 1)) ks = kept (l.take i) ks ++ (if ks[i] then [l[i]] else []) := by
  have h : ∀ (l : List (Nat × List UInt8)) (ks : List Bool) (i : Nat) (hi : i < l.length) (hk : i < ks.length), (l.take (i + 1)).zip ks = (l.take i).zip ks ++ [(l[i], ks[i])] := by
    intro l
    induction l with
    | nil => intro ks i hi; simp at hi
    | cons a l ih =>
      intro ks i hi hk
      cases ks with
      | nil => simp at hk
      | cons b ks =>
        cases i with
        | zero => simp
        | succ i =>
          have := ih ks i (by simpa using hi) (by simpa using hk)
          simp [this]
  unfold kept
  rw [h l ks i hi hk, List.filter_append, List.map_append]
  congr 1
  cases ks[i] <;> simp
theorem kept_over (l : List (Nat × List UInt8)) (ks : List Bool) (i : Nat) (h : ks.length ≤ i ∨ l.length ≤ i) : kept (l.take i) ks = kept l ks := by
  have hz : ∀ (l : List (Nat × List UInt8)) (ks : List Bool) (i : Nat), (ks.length ≤ i ∨ l.length ≤ i) → (l.take i).zip ks = l.zip ks := by
    intro l
    induction l with
    | nil => intro ks i _; simp
    | cons a l ih =>
      intro ks i h
      cases ks with
      | nil => simp
      | cons b ks =>
        cases i with
        | zero => simp at h
        | succ i => simp [ih ks i (by simpa using h)]
  unfold kept; rw [hz l ks i h]
end PDsk
namespace Go.Proofs.Ytjnggldalggfnaa
open Go.RowKit
theorem crash_nil (v : Value) (w : World) : Calls Try.prog 26 #[.pointer none, v] w fun e w' => e = .returned (.int .i64 1) ∧ w = w' := by
  go_enter Try.func26, Try.ntmps26
  go_wp2_with fail
  go_step3
  go_wp2_with fail
  refine (none_nil _).mono ?_; rintro e w1 ⟨rfl, rfl⟩
  go_wp2
  try rw [Exit.noGoto_ret]
  go_ret
  exact ⟨rfl, rfl⟩
theorem IsDisk.fuseCell {w : World} {b : Nat} {D : PDsk.Dsk} {own : List Nat} (h : IsDisk w b D own) : ∃ v, w.cell? ⟨b, 2, none⟩ = some v ∧ w.frozen? ⟨b, 2, none⟩ = false := by
  obtain ⟨hok, gs', os', cs', vl, hb, hs, hl, e1, e2, e3, rfl⟩ := h
  exact ⟨_, by simp [World.cell?, hb]; rfl, by simp [World.frozen?, hb]⟩
theorem rd_turns' {w w' : World} {v : Value} {xs : List Value} {own : List Nat} (h : Rd w v xs) (t : Turns own w w') (hd : xs ≠ [] → ∀ k, v.ownBlock = some k → k ∉ own) : Rd w' v xs := by
  obtain ⟨p, c, rfl, h2, h3, h4⟩ := h
  refine ⟨p, c, rfl, h2, h3, fun hx => ?_⟩
  obtain ⟨g, off, rfl, e2, e3⟩ := h4 hx
  exact ⟨g, off, rfl, Nat.lt_of_lt_of_le e2 t.size, fun j hj => (World.cell?_of_block (t.block g e2 (hd hx g rfl))).trans (e3 j hj)⟩
theorem rd_turns {w w' : World} {v : Value} {xs : List Value} {own : List Nat} (h : Rd w v xs) (t : Turns own w w') (hd : ∀ k, v.ownBlock = some k → k ∉ own) : Rd w' v xs := rd_turns' h t (fun _ => hd)
set_option maxRecDepth 100000 in
set_option maxHeartbeats 4000000 in
theorem crash_gen {b : Nat} {D : PDsk.Dsk} {own : List Nat} (w : World) (h : IsDisk w b D own) (v : Value) (ks : List Bool) (hv : Rd w v (ks.map Value.bool)) (hd : ks.map Value.bool ≠ [] → ∀ k, v.ownBlock = some k → k ∉ own) :
    Calls Try.prog 26 #[.pointer (some ⟨b, 0, none⟩), v] w (StepPost (.int .i64 0) b (PDsk.crash D ks) own w) := by
  have H := Lib.hid h
  have hok := h.ok
  have HK := Lib.hid hok
  obtain ⟨_, gs, os, cs, vl, hb, hsu, hl, h1, h2, h3, hown⟩ := h
  have hcs0 : w.cell? ⟨b, 0, none⟩ = some (.slice (some ⟨gs, os, none⟩) D.sure.length cs) := by simp [World.cell?, hb]
  have hc1 : w.cell? ⟨b, 1, none⟩ = some vl := by simp [World.cell?, hb]
  obtain ⟨p, c, rfl⟩ := Sl.form hl
  have HL := Lib.hid hl
  have HO := Lib.hid hown
  clear hb hsu hl hok hown
  have hm63 : D.loose.length ≤ maxLen := by
    rcases HL.out.2 with ⟨_, h0⟩ | ⟨_, _, _, _, _, h0, _, _, _, h5, h6, _⟩
    · rw [h0]; exact Nat.zero_le _
    · omega
  unfold maxLen at hm63
  have HV := Lib.hid hv
  have HVD := Lib.hid hd
  obtain ⟨pv, cv, rfl, hv2, hv3, hv4⟩ := hv
  rw [List.length_map] at *
  unfold maxLen at hv3
  clear hv4 hd
  have hlv : ∀ q ∈ D.loose, (wrV q).length = 129 := fun q hq => by rw [wrV_length, (HK.out.2.2.2.1 q hq).2]
  have HLV := Lib.hid hlv
  clear hlv
  go_enter Try.func26, Try.ntmps26
  go_wp2_with fail
  go_step3
  go_wp2_with fail
  refine (none_any _ H.out).mono ?_; rintro e w1 ⟨rfl, rfl⟩
  go_wp2
  go_step3
  go_wp2
  go_loopw [14] (fun iv wr => ∃ i : Nat, i ≤ D.loose.length ∧ iv = .int .i64 i ∧ Hid (IsDisk wr b { D with sure := (PDsk.kept (D.loose.take i) ks).foldl PDsk.keep D.sure } own) ∧ wr.cell? ⟨b, 0, none⟩ = some (.slice (some ⟨gs, os, none⟩) D.sure.length cs) ∧
    Hid (Sl wr 0 84 129 (.slice p D.loose.length c) D.loose.length (looseV D.loose)) ∧ Hid (Turns own w wr)) (fun iv _ => D.loose.length - (intOf iv).toNat)
  case atStart => exact ⟨0, by omega, rfl, Lib.hid (by simpa [PDsk.kept] using H.out), hcs0, HL, Lib.hid (Turns.refl _ _)⟩
  case round =>
    obtain ⟨i, hi, rfl, hD, hc0, hSl, hT⟩ := hrel
    clear hcs0
    by_cases hlt : i < D.loose.length
    · obtain ⟨gl, ol, rfl⟩ : ∃ gl ol, p = some ⟨gl, ol, none⟩ := by
        rcases hSl.out.2 with ⟨_, h0⟩ | ⟨g, off, _, _, _, h0, _⟩
        · omega
        · simp at h0; exact ⟨g, off, h0.1⟩
      have hq := HK.out.2.2.2.1 D.loose[i] (List.getElem_mem hlt)
      have hrange := Sl.rangeAt hSl.out (flat_part wrV 129 D.loose i hlt HLV.out)
      have hi64 : (Try.prog.info? 84).map (·.size) = some (wrV D.loose[i]).length := by rw [HLV.out _ (List.getElem_mem hlt)]; exact size_wr
      have hone : (wrV D.loose[i]).toArray.all (·.oneCell') = true := all_oneCell_toArray (fun u hu => by
        rcases List.mem_cons.1 hu with rfl | hu
        · rfl
        · exact bytesV_one _ u hu)
      have hstep : (hk : i < ks.length) → Hid (PDsk.kept (D.loose.take (i + 1)) ks = PDsk.kept (D.loose.take i) ks ++ (if ks[i] then [D.loose[i]] else [])) := fun hk => Lib.hid (PDsk.kept_step D.loose ks i hlt hk)
      have hzw := zero_wr
      have hmem := List.getElem_mem hlt
      generalize D.loose[i] = q at *
      obtain ⟨k, x⟩ := q
      have HR := Lib.hid hrange
      have HI := Lib.hid hi64
      have H1 := Lib.hid hone
      have HI2 : Hid ((Try.prog.info? 84).map (·.size) = some (wrV (k, x)).toArray.size) := Lib.hid (by rw [hi64, List.size_toArray])
      have HZ : Hid (zWr.size = (wrV (k, x)).toArray.size) := Lib.hid (by rw [zWr_size, List.size_toArray, HLV.out _ hmem])
      have HM := Lib.hid hmem
      obtain ⟨hq1, hq2⟩ := hq
      clear hrange hi64 hone hmem
      have i0 : (0 : Int) ≤ i := by omega
      have i1 : (i : Int) < D.loose.length := by omega
      dsimp only at hq1 hq2
      have hBA : Below wr.heap.size wr (wr.alloc (Obj.cells (wrV (k, x)).toArray 84)) := (Below.refl _ wr).alloc (Nat.le_refl _) _
      by_cases hkl : i < ks.length
      · have hst := hstep hkl
        have i2 : ¬ (ks.length : Int) ≤ i := by omega
        have i3 : (i : Int) < ks.length := by omega
        obtain ⟨pv', cv', e1, e2, e3, e4⟩ := rd_turns' HV.out hT.out HVD.out
        rw [List.length_map] at e1
        simp at e1
        obtain ⟨rfl, rfl⟩ := e1
        obtain ⟨gk, ok, rfl, hgk, hck⟩ := e4 (by intro e; have := congrArg List.length e; simp at this; subst this; simp at hkl)
        have hcell := hck i (by simpa using hkl)
        rw [List.getElem_map] at hcell
        have hcellA : (wr.alloc (Obj.cells (wrV (k, x)).toArray 84)).cell? ⟨gk, ok + i, none⟩ = some (.bool ks[i]) := (hBA.cell (p := ⟨gk, ok + i, none⟩) hgk).trans hcell
        clear e2 e3 e4 hck hstep
        cases hkb : ks[i]
        · rw [hkb] at hst hcell hcellA
          clear hkb
          go_wp2_with (first | (with_reducible refine wpList_load_mid rfl _ _ rfl gl (ol + i * 129) rfl (wrV (k, x)) _ HR.out Try.underlying84 rfl HI.out ?_) | (with_reducible refine wpList_row_new rfl _ _ _ rfl wr.heap.size _ zWr _ rfl rfl rfl HI2.out HZ.out H1.out ?_))
          refine ⟨⟨i + 1, by omega, by go_num, Lib.hid ?_, (hBA.cell (p := ⟨b, 0, none⟩) (cell_lt hc0)).trans hc0, Lib.hid (hSl.out.alloc _), Lib.hid (hT.out.trans (Turns.of_below hBA))⟩, by simp [intOf]; omega⟩
          rw [hst.out]
          simpa using hD.out.below hBA
        · rw [hkb] at hst hcell hcellA
          clear hkb
          have cA0 : (wr.alloc (Obj.cells (wrV (k, x)).toArray 84)).cell? ⟨b, 0, none⟩ = some (.slice (some ⟨gs, os, none⟩) D.sure.length cs) := by
            rw [World.cell?_alloc_lt _ _ _ (cell_lt hc0)]; exact hc0
          have cA1 : (wr.alloc (Obj.cells (wrV (k, x)).toArray 84)).cell? ⟨wr.heap.size, 0, none⟩ = some (.int .i64 k) := by
            rw [cell_of_row _ _ _ _ _ _ (heap_alloc_new wr _)]; simp [wrV]
          have rA : (wr.alloc (Obj.cells (wrV (k, x)).toArray 84)).rangeAt wr.heap.size 1 (bytesV x) := by
            intro j v hv
            rw [cell_of_row _ _ _ _ _ _ (heap_alloc_new wr _)]
            simp [wrV, Nat.add_comm 1 j, hv]
          have hlen0 : ((PDsk.kept (D.loose.take i) ks).foldl PDsk.keep D.sure).length = D.sure.length := PDsk.fold_length _ _
          have HLEN : Hid (({ D with sure := (PDsk.kept (D.loose.take i) ks).foldl PDsk.keep D.sure } : PDsk.Dsk).sure.length = D.sure.length) := Lib.hid hlen0
          obtain ⟨tA0, hgs⟩ := hD.out.thereSec (by rw [HLEN.out]; exact hc0) (k := k) (by rw [HLEN.out]; exact hq1)
          have tA := World.there_alloc tA0 (Obj.cells (wrV (k, x)).toArray 84)
          clear tA0 hlen0
          have NE1 : b ≠ gs := fun e => h1 e.symm
          have NE2 : wr.heap.size ≠ gs := by have := hgs; omega
          have hu := Try.underlying82
          have hbl : (bytesV x).length = 128 := by rw [bytesV_length]; exact hq2
          have hi2 : (Try.prog.info? 82).map (·.size) = some (bytesV x).length := by rw [size_sec, hbl]
          have hb1 := bytesV_one x
          have k0 : (0 : Int) ≤ k := by omega
          have k1 : (k : Int) < D.sure.length := by omega
          have HBA := Lib.hid hBA
          clear hBA
          go_wp2_with (first | (with_reducible refine wpList_load_mid rfl _ _ rfl gl (ol + i * 129) rfl (wrV (k, x)) _ HR.out Try.underlying84 rfl HI.out ?_) | (with_reducible refine wpList_row_new rfl _ _ _ rfl wr.heap.size _ zWr _ rfl rfl rfl HI2.out HZ.out H1.out ?_))
          go_region_held3 (fun w' => w'.cell? ⟨b, 0, none⟩ = some (.slice (some ⟨gs, os, none⟩) D.sure.length cs) ∧ w'.cell? ⟨wr.heap.size, 0, none⟩ = some (.int .i64 k) ∧ w'.rangeAt wr.heap.size 1 (bytesV x) ∧ w'.there gs (os + k * 128) 128) (first | (go_split_ands; exact ⟨(cell_setCells_ne NE1).trans (by assumption), (cell_setCells_ne NE2).trans (by assumption), World.rangeAt_setCells_apart (by assumption) _ _ _ (.inl NE2), World.there_setCells (by assumption) _ _ _⟩) | go_keep_ranges | go_keep) (fail)
          go_wp2
          refine ⟨⟨i + 1, by omega, by go_num, Lib.hid ?_, (cell_setCells_ne NE1).trans cA0, Lib.hid ?_, Lib.hid ?_⟩, by simp [intOf]; omega⟩
          · rw [hst.out, if_pos trivial, List.foldl_append]
            exact ((hD.out.below HBA.out.drew).keepSec (k := k) (x := x) (by rw [HLEN.out]; exact cA0) (by rw [HLEN.out]; exact hq1) hq2).1
          · refine ((hSl.out.alloc _).drew).keep fun j e => setCells_other _ _ _ _ _ ?_
            simp [Value.ownBlock] at e
            subst e
            intro e
            subst e
            exact h3 (by simp [ownsOf, Value.ownBlock])
          · exact (hT.out.trans (Turns.of_below HBA.out.drew)).setCells (by rw [HO.out]; simp) _
      · have i2 : (ks.length : Int) ≤ i := by omega
        have hDE := hD.out.below hBA
        rw [PDsk.kept_over D.loose ks i (.inl (by omega))] at hDE
        have hTE := Lib.hid (hT.out.trans (Turns.of_below hBA))
        clear hBA hstep
        obtain ⟨WE, hWE⟩ : ∃ WE, wr.alloc (Obj.cells (wrV (k, x)).toArray 84) = WE := ⟨_, rfl⟩
        rw [hWE] at hDE hTE
        obtain ⟨v1, hcb1, hfb1⟩ := hDE.looseCell
        obtain ⟨v2, hcb2, hfb2⟩ := hDE.fuseCell
        obtain ⟨own2, hdrop, hsub⟩ := hDE.dropLoose
        have hdrop2 := hdrop.setFuse (-1) (by omega) (by omega)
        have hcb3 : (WE.setCell ⟨b, 1, none⟩ (.slice none 0 0)).cell? ⟨b, 2, none⟩ = some v2 := by rw [World.cell?_setCell_other _ _ _ _ (by simp)]; exact hcb2
        have hfb3 : (WE.setCell ⟨b, 1, none⟩ (.slice none 0 0)).frozen? ⟨b, 2, none⟩ = false := by rw [World.frozen?_setCell]; exact hfb2
        have HX := Lib.hid hdrop2
        have HSUB := Lib.hid hsub
        have HB := Lib.hid hDE.mem
        clear hdrop hdrop2 hsub hDE
        go_wp2_with (first | (with_reducible refine wpList_load_mid rfl _ _ rfl gl (ol + i * 129) rfl (wrV (k, x)) _ HR.out Try.underlying84 rfl HI.out ?_) | (with_reducible refine wpList_row_new rfl _ _ _ rfl wr.heap.size _ zWr _ rfl rfl rfl HI2.out HZ.out H1.out ?_))
        try rw [Exit.noGoto_ret]
        go_ret
        exact ⟨own2, rfl, HX.out, (hTE.out.trans (Turns.cell _ HB.out)).trans (Turns.cell _ HB.out), fun k hk => .inl (HSUB.out k hk)⟩
    · have hDE := hD.out
      rw [PDsk.kept_over D.loose ks i (.inr (by omega))] at hDE
      have hTE := hT
      obtain ⟨WE, hWE⟩ : ∃ WE, wr = WE := ⟨_, rfl⟩
      rw [hWE] at hDE hTE
      obtain ⟨v1, hcb1, hfb1⟩ := hDE.looseCell
      obtain ⟨v2, hcb2, hfb2⟩ := hDE.fuseCell
      obtain ⟨own2, hdrop, hsub⟩ := hDE.dropLoose
      have hdrop2 := hdrop.setFuse (-1) (by omega) (by omega)
      have hcb3 : (WE.setCell ⟨b, 1, none⟩ (.slice none 0 0)).cell? ⟨b, 2, none⟩ = some v2 := by rw [World.cell?_setCell_other _ _ _ _ (by simp)]; exact hcb2
      have hfb3 : (WE.setCell ⟨b, 1, none⟩ (.slice none 0 0)).frozen? ⟨b, 2, none⟩ = false := by rw [World.frozen?_setCell]; exact hfb2
      have HX := Lib.hid hdrop2
      have HSUB := Lib.hid hsub
      have HB := Lib.hid hDE.mem
      clear hdrop hdrop2 hsub hDE
      go_wp2
      try rw [Exit.noGoto_ret]
      go_ret
      exact ⟨own2, rfl, HX.out, (hTE.out.trans (Turns.cell _ HB.out)).trans (Turns.cell _ HB.out), fun k hk => .inl (HSUB.out k hk)⟩
theorem crash_any {b : Nat} {D : PDsk.Dsk} {own : List Nat} (w : World) (h : IsDisk w b D own) (v : Value) (ks : List Bool) (hv : Rd w v (ks.map Value.bool)) (hd : ∀ k, v.ownBlock = some k → k ∉ own) :
    Calls Try.prog 26 #[.pointer (some ⟨b, 0, none⟩), v] w (StepPost (.int .i64 0) b (PDsk.crash D ks) own w) := crash_gen w h v ks hv (fun _ => hd)
end Go.Proofs.Ytjnggldalggfnaa
