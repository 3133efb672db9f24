/-
  The document's disk: Sync.
-/
import Derived.Test.YtkmgmfahhidbbaaRef04c
import Derived.Test.YtkmgmfahhidbbaaDisk6
namespace Go.Proofs.Ytkmgmfahhidbbaa
open Go.RowKit
theorem IsRef.drop {w : World} {b : Nat} {D : PDsk.Dsk} {own : List Nat} (h : IsRef w b D own) : ∃ own2, IsRef (w.setCell ⟨b, 1, none⟩ (.slice none 0 0)) b { D with loose := [] } own2 ∧ ∀ k ∈ own2, k ∈ own := by
  obtain ⟨hk, gs, os, cs, vl, hb, hs, hl, e1, e2, e3, rfl⟩ := h
  refine ⟨[b, gs], ⟨⟨hk.1, hk.2.1, hk.2.2.1, by simp, hk.2.2.2.2⟩, gs, os, cs, .slice none 0 0, ?_, ?_, Sl.nil _ _ _ _, e1, by simp [ownsOf, Value.ownBlock], by simp [ownsOf, Value.ownBlock], by simp [ownsOf, Value.ownBlock]⟩, by simp⟩
  · rw [heap_set hb]; rfl
  · exact hs.keep fun k e => Below.heap_setCell _ _ _ _ (by simp [Value.ownBlock] at e; subst e; exact e1)
theorem IsRef.looseCell {w : World} {b : Nat} {D : PDsk.Dsk} {own : List Nat} (h : IsRef w b D own) : ∃ p c, w.cell? ⟨b, 1, none⟩ = some (.slice p D.loose.length c) ∧ w.frozen? ⟨b, 1, none⟩ = false ∧
    ∀ i (hi : i < D.loose.length), ∃ g off, p = some ⟨g, off, none⟩ ∧ w.cell? ⟨g, off + i * 2, none⟩ = some (.int .i64 (D.loose[i]).1) ∧ w.cell? ⟨g, off + i * 2 + 1, none⟩ = some (refT (D.loose[i]).2) := by
  obtain ⟨hk, gs, os, cs, vl, hb, hs, hl, e1, e2, e3, rfl⟩ := h
  obtain ⟨p, c, rfl⟩ := Sl.form hl
  refine ⟨p, c, by simp [World.cell?, hb], by simp [World.frozen?, hb], fun i hi => ?_⟩
  obtain ⟨g, off, rfl⟩ : ∃ g off, p = some ⟨g, off, none⟩ := by
    rcases hl.shape with ⟨_, h0, _⟩ | ⟨g, o, c', h, _⟩
    · omega
    · simp at h; exact ⟨g, o, h.1⟩
  exact ⟨g, off, rfl, Sl.wcells hl hi⟩
theorem IsRef.looseMax {w : World} {b : Nat} {D : PDsk.Dsk} {own : List Nat} (h : IsRef w b D own) : D.loose.length ≤ maxLen := by
  obtain ⟨hk, gs, os, cs, vl, hb, hs, hl, e1, e2, e3, rfl⟩ := h
  rcases hl.2 with ⟨_, h0⟩ | ⟨_, _, _, _, _, h0, _, _, _, h5, h6, _⟩
  · rw [h0]; exact Nat.zero_le _
  · omega
theorem IsRef.fuseCell {w : World} {b : Nat} {D : PDsk.Dsk} {own : List Nat} (h : IsRef w b D own) : w.cell? ⟨b, 2, none⟩ = some (.int .i64 D.fuse) ∧ w.frozen? ⟨b, 2, none⟩ = false := by
  obtain ⟨hk, gs, os, cs, vl, hb, _⟩ := h
  exact ⟨by simp [World.cell?, hb], by simp [World.frozen?, hb]⟩
theorem rsync_ok {b : Nat} {D : PDsk.Dsk} {own : List Nat} (w : World) (h : IsRef w b D own) (hf : D.fuse ≠ 0) :
    Calls Try.prog 33 #[.pointer (some ⟨b, 0, none⟩)] w (RefPost (.int .i64 0) b (PDsk.synced D) own w) := by
  have H := Lib.hid h
  have hok := h.1
  have hmx := h.looseMax
  unfold maxLen at hmx
  have hc2 := h.fuseCell.1
  have hf' : (D.fuse == 0) = false := by rw [beq_eq_false_iff_ne]; exact hf
  have HOK := Lib.hid hok
  clear h hf hok
  go_enter Try.func33, Try.ntmps33
  go_wp2_with fail
  refine (rburn_any _ H.out).mono ?_; rintro e w1 ⟨rfl, hd, hst⟩
  have HD := Lib.hid hd
  have HST := Lib.hid hst
  clear hd hst hc2 hf'
  go_wp2
  go_loopw [3] (fun iv wr => ∃ i : Nat, i ≤ D.loose.length ∧ iv = .int .i64 i ∧ Hid (IsRef wr b { D with sure := (D.loose.take i).foldl PDsk.keep D.sure, fuse := PDsk.burn D.fuse } own) ∧ Hid (Stepped w wr own own)) (fun iv _ => D.loose.length - (intOf iv).toNat)
  case atStart => exact ⟨0, by omega, rfl, HD, HST⟩
  case round =>
    obtain ⟨i, hi, rfl, HD, HST⟩ := hrel
    obtain ⟨p, c, hc1, hf1, hat⟩ := HD.out.looseCell
    dsimp only at hc1 hat
    by_cases hlt : i < D.loose.length
    · obtain ⟨g, off, rfl, e1, e2⟩ := hat i hlt
      have hq := HOK.out.2.2.2.1 _ (List.getElem_mem hlt)
      have hstep : Hid ((D.loose.take (i + 1)).foldl PDsk.keep D.sure = PDsk.keep ((D.loose.take i).foldl PDsk.keep D.sure) D.loose[i]) := Lib.hid (by
        rw [List.take_succ_eq_append_getElem hlt, List.foldl_append]; rfl)
      clear hat
      generalize D.loose[i] = q at *
      obtain ⟨k, x⟩ := q
      obtain ⟨hq1, hq2⟩ := hq
      dsimp only at e1 e2 hq1 hq2
      have i0 : (0 : Int) ≤ i := by omega
      have i1 : (i : Int) < D.loose.length := by omega
      unfold refT at e2
      go_wp2_with fail
      refine (rkeep_any _ HD.out k (by show k < ((D.loose.take i).foldl PDsk.keep D.sure).length; rw [PDsk.fold_length]; exact hq1) x hq2).mono ?_
      rintro e w4 ⟨rfl, hd4, hs4⟩
      have HD4 : Hid (IsRef w4 b { D with sure := (D.loose.take (i + 1)).foldl PDsk.keep D.sure, fuse := PDsk.burn D.fuse } own) := Lib.hid (by rw [hstep.out]; exact hd4)
      have HS4 := Lib.hid (HST.out.trans hs4)
      clear hd4 hs4
      go_wp2
      exact ⟨⟨i + 1, by omega, by go_num, HD4, HS4⟩, by simp [intOf]; omega⟩
    · have him : i = D.loose.length := by omega
      have hD2 := HD.out
      rw [him, List.take_length] at hD2
      obtain ⟨own2, hdrop, hsub⟩ := hD2.drop
      have HX := Lib.hid hdrop
      have HSUB := Lib.hid hsub
      have HM := Lib.hid hD2.mem
      have hnl : ¬ (i : Int) < D.loose.length := by omega
      clear hdrop hsub hD2 hat him
      go_wp2
      go_ret
      exact ⟨own2, rfl, HX.out, HST.out.trans ⟨Turns.cell _ HM.out, fun k hk => .inl (HSUB.out k hk)⟩⟩
theorem rsync_any {b : Nat} {D : PDsk.Dsk} {own : List Nat} (w : World) (h : IsRef w b D own) :
    Calls Try.prog 33 #[.pointer (some ⟨b, 0, none⟩)] w (RefPost (.int .i64 (PDsk.sync D).2) b (PDsk.sync D).1 own w) := by
  by_cases hf : D.fuse = 0
  · have hx : PDsk.sync D = (D, 40) := by unfold PDsk.sync; rw [if_pos hf]
    have H := Lib.hid h
    rw [hx]
    obtain ⟨_, gs, os, cs, vl, hb, _⟩ := h
    have hc2 : w.cell? ⟨b, 2, none⟩ = some (.int .i64 D.fuse) := by simp [World.cell?, hb]
    rw [hf] at hc2
    clear hf hb hx
    go_enter Try.func33, Try.ntmps33
    go_wp2
    go_ret
    exact ⟨_, rfl, H.out, Stepped.refl _ _⟩
  · have hx : PDsk.sync D = (PDsk.synced D, 0) := by unfold PDsk.sync; rw [if_neg hf]
    rw [hx]
    exact rsync_ok w h hf
def CrPost (D : PDsk.Dsk) (b : Nat) (own : List Nat) (w : World) (e : Ending) (w' : World) : Prop := ∃ own', e = .returned (.tuple #[]) ∧ IsRef w' b D own' ∧ Stepped w w' own own'
set_option maxHeartbeats 1000000 in
theorem rcrash_any {b : Nat} {D : PDsk.Dsk} {own : List Nat} (w : World) (h : IsRef w b D own) (v : Value) (ks : List Bool) (hv : Rd w v (ks.map Value.bool)) (hd : ks ≠ [] → ∀ k, v.ownBlock = some k → k ∉ own) :
    Calls Try.prog 36 #[.pointer (some ⟨b, 0, none⟩), v] w (CrPost (PDsk.crash D ks) b own w) := by
  have H := Lib.hid h
  have HOK := Lib.hid h.1
  have hmx := h.looseMax
  unfold maxLen at hmx
  have HV := Lib.hid hv
  have HVD := Lib.hid hd
  obtain ⟨pv, cv, rfl, hv2, hv3, hv4⟩ := hv
  rw [List.length_map] at *
  unfold maxLen at hv3
  clear hv4 hd h
  have HT0 := Lib.hid (Turns.refl own w)
  have H0 : Hid (IsRef w b { D with sure := (PDsk.kept (D.loose.take 0) ks).foldl PDsk.keep D.sure } own) := Lib.hid (by simpa [PDsk.kept] using H.out)
  clear H
  go_enter Try.func36, Try.ntmps36
  go_wp2
  go_loopw [4] (fun iv wr => ∃ i : Nat, i ≤ D.loose.length ∧ iv = .int .i64 i ∧ Hid (IsRef wr b { D with sure := (PDsk.kept (D.loose.take i) ks).foldl PDsk.keep D.sure } own) ∧ Hid (Turns own w wr)) (fun iv _ => D.loose.length - (intOf iv).toNat)
  case atStart => exact ⟨0, by omega, rfl, H0, HT0⟩
  case round =>
    obtain ⟨i, hi, rfl, HD, HT⟩ := hrel
    clear H0 HT0
    obtain ⟨p, c, hc1, hf1, hat⟩ := HD.out.looseCell
    dsimp only at hc1 hat
    by_cases hlt : i < D.loose.length ∧ i < ks.length
    · obtain ⟨hlt1, hlt2⟩ := hlt
      obtain ⟨g, off, rfl, e1, e2⟩ := hat i hlt1
      have hq := HOK.out.2.2.2.1 _ (List.getElem_mem hlt1)
      have hstep := PDsk.kept_step D.loose ks i hlt1 hlt2
      obtain ⟨pv', cv', f1, f2, f3, f4⟩ := rd_turns HV.out HT.out (HVD.out (fun e => by rw [e] at hlt2; simp at hlt2))
      rw [List.length_map] at f1
      simp at f1
      obtain ⟨rfl, rfl⟩ := f1
      obtain ⟨gk, ok, rfl, hgk, hck⟩ := f4 (by intro e; have := congrArg List.length e; simp at this; subst this; simp at hlt2)
      have hkc := hck i (by simpa using hlt2)
      rw [List.getElem_map] at hkc
      clear f2 f3 f4 hck hat
      generalize D.loose[i] = q at *
      generalize ks[i] = kb at *
      obtain ⟨k, x⟩ := q
      obtain ⟨hq1, hq2⟩ := hq
      dsimp only at e1 e2 hq1 hq2
      have i0 : (0 : Int) ≤ i := by omega
      have i1 : (i : Int) < D.loose.length := by omega
      have i2 : (i : Int) < ks.length := by omega
      have HS := Lib.hid hstep
      clear hstep
      unfold refT at e2
      cases kb
      · have HD4 : Hid (IsRef wr b { D with sure := (PDsk.kept (D.loose.take (i + 1)) ks).foldl PDsk.keep D.sure } own) := Lib.hid (by rw [HS.out, if_neg (by decide), List.append_nil]; exact HD.out)
        go_wp2
        exact ⟨⟨i + 1, by omega, by go_num, HD4, HT⟩, by simp [intOf]; omega⟩
      · go_wp2_with fail
        refine (rkeep_any _ HD.out k (by show k < ((PDsk.kept (D.loose.take i) ks).foldl PDsk.keep D.sure).length; rw [PDsk.fold_length]; exact hq1) x hq2).mono ?_
        rintro e w4 ⟨rfl, hd4, hs4⟩
        have HD4 : Hid (IsRef w4 b { D with sure := (PDsk.kept (D.loose.take (i + 1)) ks).foldl PDsk.keep D.sure } own) := Lib.hid (by rw [HS.out, if_pos trivial, List.foldl_append]; exact hd4)
        have HT4 := Lib.hid (HT.out.trans hs4.1)
        clear hd4 hs4
        go_wp2
        exact ⟨⟨i + 1, by omega, by go_num, HD4, HT4⟩, by simp [intOf]; omega⟩
    · have hD2 := HD.out
      rw [PDsk.kept_over D.loose ks i (by omega)] at hD2
      obtain ⟨own2, hdrop, hsub⟩ := hD2.drop
      have hx := hdrop.setFuse (-1) (by omega) (by omega)
      obtain ⟨hc2, hf2⟩ := hdrop.fuseCell
      have HX := Lib.hid hx
      have HSUB := Lib.hid hsub
      have HM := Lib.hid hD2.mem
      have hTE := Lib.hid (HT.out)
      clear hdrop hsub hD2 hat hx
      by_cases hl2 : i < D.loose.length
      · have hnl : (i : Int) < D.loose.length := by omega
        have hnk : ¬ (i : Int) < ks.length := by omega
        go_wp2
        go_end0
        exact ⟨own2, rfl, HX.out, (hTE.out.trans (Turns.cell _ HM.out)).trans (Turns.cell _ HM.out), fun k hk => .inl (HSUB.out k hk)⟩
      · have hnl : ¬ (i : Int) < D.loose.length := by omega
        go_wp2
        go_end0
        exact ⟨own2, rfl, HX.out, (hTE.out.trans (Turns.cell _ HM.out)).trans (Turns.cell _ HM.out), fun k hk => .inl (HSUB.out k hk)⟩
end Go.Proofs.Ytkmgmfahhidbbaa
