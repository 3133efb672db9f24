/-
  A disk's Sync.
-/
import Derived.Test.YtjnggldalggfnaaDisk4
namespace Go.Proofs.Ytjnggldalggfnaa
open Go.RowKit
theorem size_sec : (Try.prog.info? 82).map (·.size) = some 128 := by kernel_rfl
theorem size_wr : (Try.prog.info? 84).map (·.size) = some 129 := by kernel_rfl
def zWr : Array Value := #[.int .i64 0] ++ Array.replicate 128 (.int .u8 0)
theorem zWr_size : zWr.size = 129 := by simp [zWr]
theorem cell_setCells_ne {w : World} {g o : Nat} {vs : List Value} {b j : Nat} (h : b ≠ g) : (w.setCells g o vs).cell? ⟨b, j, none⟩ = w.cell? ⟨b, j, none⟩ := World.cell?_of_block (setCells_other g vs o w b h)
theorem zero_wr (w : World) : (zeroValue 84).run Try.prog w = .ok (.agg zWr) w := (zero_of_info (P := Try.prog) (t := 84) (v := .agg zWr) (n := 129) (by kernel_rfl)).1 w
theorem IsDisk.thereSec {w : World} {b gs os cs : Nat} {D : PDsk.Dsk} {own : List Nat} (h : IsDisk w b D own) (hc : w.cell? ⟨b, 0, none⟩ = some (.slice (some ⟨gs, os, none⟩) D.sure.length cs)) {k : Nat} (hk : k < D.sure.length) :
    w.there gs (os + k * 128) 128 ∧ gs < w.heap.size := by
  obtain ⟨hok, gs', os', cs', vl, hb, hs, hl, e1, e2, e3, rfl⟩ := h
  have hcc : w.cell? ⟨b, 0, none⟩ = some (.slice (some ⟨gs', os', none⟩) D.sure.length cs') := by simp [World.cell?, hb]
  rw [hcc] at hc
  simp at hc
  obtain ⟨⟨rfl, rfl⟩, rfl⟩ := hc
  exact ⟨Sl.there hs (by omega), (hs.lt gs' rfl).2⟩
theorem IsDisk.looseCell {w : World} {b : Nat} {D : PDsk.Dsk} {own : List Nat} (h : IsDisk w b D own) : ∃ v, w.cell? ⟨b, 1, none⟩ = some v ∧ w.frozen? ⟨b, 1, none⟩ = false := by
  obtain ⟨hok, gs', os', cs', vl, hb, hs, hl, e1, e2, e3, rfl⟩ := h
  exact ⟨vl, by simp [World.cell?, hb], by simp [World.frozen?, hb]⟩
theorem IsDisk.dropLoose {w : World} {b : Nat} {D : PDsk.Dsk} {own : List Nat} (h : IsDisk w b D own) : ∃ own', IsDisk (w.setCell ⟨b, 1, none⟩ (.slice none 0 0)) b { D with loose := [] } own' ∧ ∀ k ∈ own', k ∈ own := by
  obtain ⟨hok, gs', os', cs', vl, hb, hs, hl, e1, e2, e3, rfl⟩ := h
  refine ⟨[b, gs'], ⟨⟨hok.1, hok.2.1, hok.2.2.1, by simp, hok.2.2.2.2⟩, gs', os', cs', .slice none 0 0, ?_, ?_, Sl.nil _ _ _ _, e1, by simp [ownsOf, Value.ownBlock], by simp [ownsOf, Value.ownBlock], by simp [ownsOf, Value.ownBlock]⟩, fun k hk => by simp at hk; rcases hk with rfl | rfl <;> simp⟩
  · rw [heap_set hb]; rfl
  · exact hs.keep fun k e => Below.heap_setCell _ _ _ _ (by simp [Value.ownBlock] at e; subst e; exact e1)
theorem sync_nil (w : World) : Calls Try.prog 38 #[.pointer none] w fun e w' => e = .returned (.int .i64 1) ∧ w = w' := by
  go_enter Try.func38, Try.ntmps38
  go_wp2_with fail
  refine (may_nil _).mono ?_; rintro e w1 ⟨rfl, rfl⟩
  go_wp2
  go_ret
  exact ⟨rfl, rfl⟩
set_option maxRecDepth 100000 in
set_option maxHeartbeats 2000000 in
theorem sync_ok_any {b : Nat} {D : PDsk.Dsk} {own : List Nat} (w : World) (h : IsDisk w b D own) (hf : D.fuse ≠ 0) :
    Calls Try.prog 38 #[.pointer (some ⟨b, 0, none⟩)] w (StepPost (.int .i64 0) b (PDsk.synced D) own w) := by
  have H := Lib.hid h
  have hmay : Hid (PDsk.may D = 0) := Lib.hid (by unfold PDsk.may; rw [if_neg hf])
  have HF := Lib.hid hf
  have hok := h.ok
  have HK := Lib.hid hok
  clear hok h hf
  go_enter Try.func38, Try.ntmps38
  go_wp2_with fail
  refine (may_any _ H.out).mono ?_; rintro e w1 ⟨rfl, rfl⟩
  rw [hmay.out]
  go_wp2_with fail
  refine (burns_any _ H.out).mono ?_; rintro e w1 ⟨rfl, hd, hst⟩
  have HD := Lib.hid hd
  obtain ⟨hok, gs, os, cs, vl, hb, hsu, hl, h1, h2, h3, hown⟩ := hd
  dsimp only at hb hsu hl hok
  have hcs0 : w1.cell? ⟨b, 0, none⟩ = some (.slice (some ⟨gs, os, none⟩) D.sure.length cs) := by simp [World.cell?, hb]
  have hc1 : w1.cell? ⟨b, 1, none⟩ = some vl := by simp [World.cell?, hb]
  obtain ⟨p, c, rfl⟩ := Sl.form hl
  have HL := Lib.hid hl
  have HO := Lib.hid hown
  clear hb hsu hl hok hown
  have hm63 : D.loose.length ≤ maxLen := by
    rcases HL.out.2 with ⟨_, h0⟩ | ⟨_, _, _, _, _, h0, _, _, _, h5, h6, _⟩
    · rw [h0]; exact Nat.zero_le _
    · omega
  unfold maxLen at hm63
  go_wp2
  have hlv : ∀ q ∈ D.loose, (wrV q).length = 129 := fun q hq => by rw [wrV_length, (HK.out.2.2.2.1 q hq).2]
  have HLV := Lib.hid hlv
  clear hlv
  go_loopw [18] (fun iv wr => ∃ i : Nat, i ≤ D.loose.length ∧ iv = .int .i64 i ∧ Hid (IsDisk wr b { D with sure := (D.loose.take i).foldl PDsk.keep D.sure, fuse := PDsk.burn D.fuse } own) ∧ wr.cell? ⟨b, 0, none⟩ = some (.slice (some ⟨gs, os, none⟩) D.sure.length cs) ∧
    Hid (Sl wr 0 84 129 (.slice p D.loose.length c) D.loose.length (looseV D.loose)) ∧ Hid (Turns own w1 wr)) (fun iv _ => D.loose.length - (intOf iv).toNat)
  case atStart => exact ⟨0, by omega, rfl, by simpa using HD, hcs0, HL, Lib.hid (Turns.refl _ _)⟩
  case round =>
    obtain ⟨i, hi, rfl, hD, hc0, hSl, hT⟩ := hrel
    clear hcs0
    by_cases hlt : i < D.loose.length
    · obtain ⟨gl, ol, rfl⟩ : ∃ gl ol, p = some ⟨gl, ol, none⟩ := by
        rcases hSl.out.2 with ⟨_, h0⟩ | ⟨g, off, _, _, _, h0, _⟩
        · omega
        · simp at h0; exact ⟨g, off, h0.1⟩
      have hq := HK.out.2.2.2.1 D.loose[i] (List.getElem_mem hlt)
      have hrange := Sl.rangeAt hSl.out (flat_part wrV 129 D.loose i hlt HLV.out)
      have hi64 : (Try.prog.info? 84).map (·.size) = some (wrV D.loose[i]).length := by rw [HLV.out _ (List.getElem_mem hlt)]; exact size_wr
      have hone : (wrV D.loose[i]).toArray.all (·.oneCell') = true := all_oneCell_toArray (fun u hu => by
        rcases List.mem_cons.1 hu with rfl | hu
        · rfl
        · exact bytesV_one _ u hu)
      have hstep : Hid ((D.loose.take (i + 1)).foldl PDsk.keep D.sure = PDsk.keep ((D.loose.take i).foldl PDsk.keep D.sure) D.loose[i]) := Lib.hid (by
        rw [List.take_succ_eq_append_getElem hlt, List.foldl_append]; rfl)
      have hzw := zero_wr
      have hmem := List.getElem_mem hlt
      generalize D.loose[i] = q at *
      obtain ⟨k, x⟩ := q
      have HR := Lib.hid hrange
      have HI := Lib.hid hi64
      have H1 := Lib.hid hone
      have HI2 : Hid ((Try.prog.info? 84).map (·.size) = some (wrV (k, x)).toArray.size) := Lib.hid (by rw [hi64, List.size_toArray])
      have HZ : Hid (zWr.size = (wrV (k, x)).toArray.size) := Lib.hid (by rw [zWr_size, List.size_toArray, HLV.out _ hmem])
      have HM := Lib.hid hmem
      obtain ⟨hq1, hq2⟩ := hq
      clear hrange hi64 hone hmem
      have i0 : (0 : Int) ≤ i := by omega
      have i1 : (i : Int) < D.loose.length := by omega
      dsimp only at hq1 hq2
      go_wp2_with (first | (with_reducible refine wpList_load_mid rfl _ _ rfl gl (ol + i * 129) rfl (wrV (k, x)) _ HR.out Try.underlying84 rfl HI.out ?_) | (with_reducible refine wpList_row_new rfl _ _ _ rfl wr.heap.size _ zWr _ rfl rfl rfl HI2.out HZ.out H1.out ?_))
      have cA0 : (wr.alloc (Obj.cells (wrV (k, x)).toArray 84)).cell? ⟨b, 0, none⟩ = some (.slice (some ⟨gs, os, none⟩) D.sure.length cs) := by
        rw [World.cell?_alloc_lt _ _ _ (cell_lt hc0)]; exact hc0
      have cA1 : (wr.alloc (Obj.cells (wrV (k, x)).toArray 84)).cell? ⟨wr.heap.size, 0, none⟩ = some (.int .i64 k) := by
        rw [cell_of_row _ _ _ _ _ _ (heap_alloc_new wr _)]; simp [wrV]
      have rA : (wr.alloc (Obj.cells (wrV (k, x)).toArray 84)).rangeAt wr.heap.size 1 (bytesV x) := by
        intro j v hv
        rw [cell_of_row _ _ _ _ _ _ (heap_alloc_new wr _)]
        simp [wrV, Nat.add_comm 1 j, hv]
      have hlen0 : ((D.loose.take i).foldl PDsk.keep D.sure).length = D.sure.length := PDsk.fold_length _ _
      obtain ⟨tA0, hgs⟩ := hD.out.thereSec (by rw [show ({ D with sure := (D.loose.take i).foldl PDsk.keep D.sure, fuse := PDsk.burn D.fuse } : PDsk.Dsk).sure.length = D.sure.length from hlen0]; exact hc0) (k := k) (by rw [show ({ D with sure := (D.loose.take i).foldl PDsk.keep D.sure, fuse := PDsk.burn D.fuse } : PDsk.Dsk).sure.length = D.sure.length from hlen0]; exact hq1)
      have tA := World.there_alloc tA0 (Obj.cells (wrV (k, x)).toArray 84)
      have HLEN := Lib.hid hlen0
      clear tA0 hlen0
      have NE1 : b ≠ gs := fun e => h1 e.symm
      have NE2 : wr.heap.size ≠ gs := by have := hgs; omega
      have hu := Try.underlying82
      have hbl : (bytesV x).length = 128 := by rw [bytesV_length]; exact hq2
      have hi2 : (Try.prog.info? 82).map (·.size) = some (bytesV x).length := by rw [size_sec, hbl]
      have hb1 := bytesV_one x
      have k0 : (0 : Int) ≤ k := by omega
      have k1 : (k : Int) < D.sure.length := by omega
      go_region_held3 (fun w' => w'.cell? ⟨b, 0, none⟩ = some (.slice (some ⟨gs, os, none⟩) D.sure.length cs) ∧ w'.cell? ⟨wr.heap.size, 0, none⟩ = some (.int .i64 k) ∧ w'.rangeAt wr.heap.size 1 (bytesV x) ∧ w'.there gs (os + k * 128) 128) (first | (go_split_ands; exact ⟨(cell_setCells_ne NE1).trans (by assumption), (cell_setCells_ne NE2).trans (by assumption), World.rangeAt_setCells_apart (by assumption) _ _ _ (.inl NE2), World.there_setCells (by assumption) _ _ _⟩) | go_keep_ranges | go_keep) (fail)
      go_wp2
      refine ⟨⟨i + 1, by omega, by go_num, Lib.hid ?_, (cell_setCells_ne NE1).trans cA0, Lib.hid ?_, Lib.hid ?_⟩, by simp [intOf]; omega⟩
      · rw [hstep.out]
        exact ((hD.out.below (((Below.refl _ wr).alloc (Nat.le_refl _) _).drew)).keepSec (k := k) (x := x) (by rw [show ({ D with sure := (D.loose.take i).foldl PDsk.keep D.sure, fuse := PDsk.burn D.fuse } : PDsk.Dsk).sure.length = D.sure.length from HLEN.out]; exact cA0)
          (by rw [show ({ D with sure := (D.loose.take i).foldl PDsk.keep D.sure, fuse := PDsk.burn D.fuse } : PDsk.Dsk).sure.length = D.sure.length from HLEN.out]; exact hq1) hq2).1
      · refine ((hSl.out.alloc _).drew).keep fun j e => setCells_other _ _ _ _ _ ?_
        simp [Value.ownBlock] at e
        subst e
        intro e
        subst e
        exact h3 (by simp [ownsOf, Value.ownBlock])
      · exact (hT.out.trans (Turns.of_below (((Below.refl _ wr).alloc (Nat.le_refl _) _).drew))).setCells (by rw [HO.out]; simp) _
    · have him : i = D.loose.length := by omega
      have hD2 := hD.out
      rw [him, List.take_length] at hD2
      obtain ⟨v1, hcb1, hfb1⟩ := hD2.looseCell
      obtain ⟨own2, hdrop, hsub⟩ := hD2.dropLoose
      have HX := Lib.hid hdrop
      have HSUB := Lib.hid hsub
      have HB := Lib.hid hD2.mem
      clear hdrop hsub him hD2
      go_wp2
      go_ret
      exact ⟨own2, rfl, HX.out, hst.trans ⟨hT.out.trans (Turns.cell _ HB.out), fun k hk => .inl (HSUB.out k hk)⟩⟩
theorem sync_any {b : Nat} {D : PDsk.Dsk} {own : List Nat} (w : World) (h : IsDisk w b D own) :
    Calls Try.prog 38 #[.pointer (some ⟨b, 0, none⟩)] w (StepPost (.int .i64 (PDsk.sync D).2) b (PDsk.sync D).1 own w) := by
  by_cases hf : D.fuse = 0
  · have hx : Hid (PDsk.sync D = (D, 40)) := Lib.hid (by unfold PDsk.sync; rw [if_pos hf])
    have hmay : Hid (PDsk.may D = 40) := Lib.hid (by unfold PDsk.may; rw [if_pos hf])
    have H := Lib.hid h
    rw [hx.out]
    clear hf h
    go_enter Try.func38, Try.ntmps38
    go_wp2_with fail
    refine (may_any _ H.out).mono ?_; rintro e w1 ⟨rfl, rfl⟩
    rw [hmay.out]
    go_wp2
    go_ret
    exact ⟨_, rfl, H.out, Stepped.refl _ _⟩
  · have hx : PDsk.sync D = (PDsk.synced D, 0) := by unfold PDsk.sync; rw [if_neg hf]
    rw [hx]
    exact sync_ok_any w h hf
end Go.Proofs.Ytjnggldalggfnaa
