/-
  DiskPlays returns true.
-/
import Derived.Test.YtkmgmfahhidbbaaPlays1
namespace Go.Proofs.Ytkmgmfahhidbbaa
open Go.RowKit
set_option maxRecDepth 100000 in
set_option maxHeartbeats 8000000 in
theorem diskPlays_false (w : World) (sec : Int) (img : ByteArray) (v : Value) (cs : List CallM) (h : RdCalls w v cs) (hok : ∀ x ∈ cs, x.Ok) (hl : cs.length ≤ 100) (hhv : heavyB cs = false) (him : img.size ≤ 2048) (hs1 : -9223372036854775808 ≤ sec) (hs2 : sec ≤ 9223372036854775807) (hsec : sec ≤ 64 ∨ 16384 < sec) :
    Calls Try.prog 6 #[.int .i64 sec, .string img, .bool false, v] w fun e w' => e = .returned (.bool true) ∧ Below w.heap.size w w' := by
  have HC := Lib.hid h
  have HOK := Lib.hid hok
  have HHV := Lib.hid hhv
  obtain ⟨p, c, rfl, h2, h3, h4⟩ := h
  unfold maxLen at h3
  have H4 := Lib.hid h4
  have f1 : ¬ (2048 : Int) < img.size := by omega
  have him2 : img.size ≤ maxLen := by unfold maxLen; omega
  have hgd : decide ((64 : Int) < sec) = false ∨ (decide ((64 : Int) < sec) = true ∧ decide (sec ≤ (16384 : Int)) = false) := by
    rcases hsec with h | h
    · left; simp; omega
    · right; simp; omega
  clear h4 hok hhv hsec him
  go_enter Try.func6, Try.ntmps6
  go_wp2_with fail
  refine (heavy_any _ _ cs HC.out HOK.out).mono ?_
  rintro e w1 ⟨rfl, hB⟩
  rw [HHV.out]
  rcases hgd with hg | ⟨hg, hg2⟩
  all_goals
    go_wp2_with fail
    refine (new_any sec hs1 hs2 _).mono ?_
    rintro e w2 hN1
    obtain ⟨p1, p2, rfl, hN⟩ := new_form2 hN1
    have HN1 := Lib.hid hN
    clear hN1 hN
    go_wp2_with fail
    refine (rnew_any sec hs1 hs2 _).mono ?_
    rintro e W2 hN2
    obtain ⟨q1, rfl, hN⟩ := rnew_form2 hN2
    obtain ⟨hB2, hM⟩ := (made_new hB HN1.out hN).v
    clear hB hN2 HN1 hN
    have hB := hB2
    clear hB2

    rcases hM with ⟨rfl, rfl, rfl⟩ | ⟨b, bx, D, own, ownx, rfl, rfl, rfl, hl0, hb0⟩
    · go_wp2_with fail
      refine (alive_any _).mono ?_; rintro e w5 ⟨rfl, hb⟩; replace hB := hB.step hb
      go_wp2
      go_ret
      exact ⟨rfl, hB⟩
    have HB0 := Lib.hid hb0
    have HBb := Lib.hid hB
    have hsu := hb0.1.1
    obtain ⟨_, gx, ox, cx, vx, hbx, _⟩ := hb0.2.1
    have hcx : W2.cell? ⟨bx, 0, none⟩ = some (.slice (some ⟨gx, ox, none⟩) D.sure.length cx) := by simp [World.cell?, hbx]
    have HL0 : Hid (D.loose.length ≤ 0) := Lib.hid (by rw [hl0]; simp)
    clear hb0 hbx hB hsu hl0
    go_wp2
    go_quiet ((go_at_call 18; exact quiet_eq (len_any _ (HB0.out.below (lowN _ _)).1)))
    go_wp2
    have HBn := Lib.hid (HBb.out.trans ((lowN W2 nq).mono HBb.out.size))
    have HB1 := Lib.hid (HB0.out.below (lowN W2 nq))
    clear HB0 HBb hcx
    generalize W2.drewN nq = W3 at *
    go_loopw [9, 12] (fun dv iv wr => ∃ (k b : Nat) (D : PDsk.Dsk) (own ownx : List Nat), k ≤ cs.length ∧ dv = .pointer (some ⟨b, 0, none⟩) ∧ iv = .int .i64 k ∧ Hid (D.loose.length ≤ k) ∧ Hid (Both wr w.heap.size b D own bx D ownx) ∧ Hid (Below w.heap.size w wr)) (fun _ iv _ => cs.length - (intOf iv).toNat)
    case atStart => exact ⟨0, b, D, own, ownx, by omega, rfl, rfl, HL0, HB1, HBn⟩
    case round =>
      clear HL0 HB1 HBn
      obtain ⟨k, b, D, own, ownx, hkn, rfl, rfl, HL, HD, HB⟩ := hrel
      by_cases hlt : k < cs.length
      · obtain ⟨g, off, rfl, hg, hca⟩ := callAt_rd H4.out HB.out hlt
        have hall : ∀ W, Below w.heap.size w W → CallAt W g (off + k * 7) cs[k] := fun W hW => by
          obtain ⟨g', off', e1, e2, e3⟩ := callAt_rd H4.out hW hlt
          simp at e1
          obtain ⟨rfl, rfl⟩ := e1
          exact e3
        have hxk := HOK.out cs[k] (List.getElem_mem hlt)
        obtain ⟨c0, c1, c2, c3, c4, c5, c6, _⟩ := hca
        have hr := (hall w (Below.refl _ _)).2.2.2.2.2.2.2
        have hll : D.loose.length ≤ 1000000 := by have := HL.out; omega
        have HLL := Lib.hid hll
        generalize cs[k] = x at *
        have HDO := Lib.hid (fun (W : World) (h : Both W w.heap.size b D own bx D ownx) (h0 : Below w.heap.size w W) => does_any w W x hr hxk h h0 hll)
        have HDL := Lib.hid (doD_loose D x)
        unfold CallM.val at HDO
        have hd := hxk.1
        have i0 : (0 : Int) ≤ k := by omega
        have i1 : (k : Int) < cs.length := by omega
        clear hall hr hxk hll
        by_cases h7 : x.dO % 8 = 7
        · have h7i : (x.dO : Int) % 8 = 7 := by omega
          clear c1 c2 c3 c4 c5 c6 HDO h7
          go_wp2_with fail
          refine (copy_any _ HD.out.1 HLL.out).mono ?_
          rintro e w3 ⟨b2, own2, rfl, hdn, hon, hb⟩
          have HT := Lib.hid (Two.mk' HD.out HB.out.size hb hdn hon)
          have HB3 := Lib.hid (HB.out.step hb)
          clear hdn hon hb HD HB
          go_wp2_with fail
          refine (full_any 99 (by omega) _).mono ?_; rintro e w4 ⟨rfl, hb⟩
          have HT4 := Lib.hid (HT.out.below hb)
          have HB4 := Lib.hid (HB3.out.step hb)
          clear hb HT HB3
          go_wp2_with fail
          refine (write_any _ HT4.out.1.1 0 _ (full_max 99) (by omega) (by omega) HLL.out).mono ?_
          rintro e w5 ⟨own5, rfl, hd, hs⟩
          have HT5 := Lib.hid (HT4.out.disk (HB4.out.size) hd hs)
          have HB5 := Lib.hid (HT4.out.1.below_disk HB4.out (Nat.le_refl _) hs)
          clear hd hs HT4 HB4
          generalize (PDsk.write D 0 (⟨(fullL 99).toArray⟩ : ByteArray).data.toList).1 = D5 at *
          generalize (PDsk.write D 0 (⟨(fullL 99).toArray⟩ : ByteArray).data.toList).2 = r5 at *
          have HT6 := Lib.hid (fun o => HT5.out.below ((Below.refl w5.heap.size w5).alloc (Nat.le_refl _) o))
          have HB6 := Lib.hid (fun o => HB5.out.trans (((Below.refl w5.heap.size w5).alloc (Nat.le_refl _) o).mono HB5.out.size))
          go_wp2_with fail
          refine (crash_any _ (HT6.out _).1.1 _ [true] (rd_new (w := w5) (vs := [.bool true]) 4 (by unfold maxLen; simp)) (fun k e hm => by simp [Value.ownBlock] at e; subst e; have := HT5.out.1.1.lt _ hm; omega)).mono ?_
          rintro e w7 ⟨own7, rfl, hd, hs⟩
          have HT7 := Lib.hid ((HT6.out _).disk ((HB6.out _).size) hd hs)
          have HB7 := Lib.hid ((HT6.out _).1.below_disk (HB6.out _) (Nat.le_refl _) hs)
          clear hd hs HT6 HB6
          go_wp2
          exact ⟨⟨k + 1, b2, D, own2, ownx, by omega, rfl, by go_num, Lib.hid (Nat.le_trans HL.out (by omega)), Lib.hid HT7.out.swap, HB7⟩, by simp [intOf]; omega⟩
        · have h7i : ((x.dO : Int) % 8 == 7) = false := by simp; omega
          clear h7
          go_wp2_with fail
          go_region_with (first
            | (go_at_call 23; refine (HDO.out _ (HD.out.below (Below.refl _ _).drew) (HB.out.drew)).mono ?_; rintro e w2 ⟨own2, ownx2, rfl, hb2, hB2⟩; obtain ⟨pl, cl, hcl, _⟩ := hb2.2.1.looseCell; have HD2 := Lib.hid hb2; have HB2 := Lib.hid hB2; clear hb2 hB2)
            | (go_at_call 19; refine (loose_any _ HD2.out.1).mono ?_; rintro e w3 ⟨rfl, rfl⟩)
            | (go_at_call 17; refine (sure_any _ HD2.out.1).mono ?_; rintro e w4 ⟨rfl, hb⟩; have HD3 := Lib.hid (HD2.out.below hb); have HB3 := Lib.hid (HB2.out.step hb); clear hb)
            | (go_at_call 24; refine (rall_any _ HD3.out.2.1).mono ?_; rintro e w5 ⟨rfl, hb⟩; have HD4 := Lib.hid (HD3.out.below hb); have HB4 := Lib.hid (HB3.out.step hb); clear hb))
          all_goals (
            go_wp2
            exact ⟨⟨k + 1, b, doD D x, own2, ownx2, by omega, rfl, by go_num, Lib.hid (by have := HDL.out; have := HL.out; omega), HD4, HB4⟩, by simp [intOf]; omega⟩)
      · go_wp2_with fail
        refine (alive_any _).mono ?_; rintro e w5 ⟨rfl, hb⟩
        have HB9 := Lib.hid (HB.out.step hb)
        clear hb
        go_wp2
        go_ret
        exact ⟨rfl, HB9.out⟩

end Go.Proofs.Ytkmgmfahhidbbaa
