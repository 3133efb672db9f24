/-
  Twin: works.
-/
import Derived.Test.YtdkhmhlphhammaaTwG
namespace Go.Proofs.Ytdkhmhlphhammaa
open Go.RowKit
open PTwin (Hm Pt)
/-- a disk under way, all of it new *)-/
def Td (w W : World) (b : Nat) (D : PDsk.Dsk) (own : List Nat) : Prop := Below w.heap.size w W ∧ IsDisk W b D own ∧ ∀ k ∈ own, w.heap.size ≤ k
theorem Td.below {w W W' : World} {b : Nat} {D : PDsk.Dsk} {own : List Nat} (h : Td w W b D own) (hb : Below W.heap.size W W') : Td w W' b D own := ⟨h.1.step hb, h.2.1.below hb, h.2.2⟩
theorem Td.step {w W W' : World} {b : Nat} {D D' : PDsk.Dsk} {own own' : List Nat} (h : Td w W b D own) (hd : IsDisk W' b D' own') (hs : Stepped W W' own own') : Td w W' b D' own' := by
  obtain ⟨h1, h2⟩ := Stepped.below h.1 (Nat.le_refl _) h.2.2 hs
  exact ⟨h1, hd, h2⟩
theorem new_pos (n : Nat) (h1 : 1 ≤ n) (h2 : n ≤ 16384) (w : World) : Calls Try.prog 7 #[.int .i64 n] w fun e w' => ∃ b own, e = .returned (.tuple #[.pointer (some ⟨b, 0, none⟩), .int .i64 0]) ∧ Td w w' b (PDsk.new n) own := by
  refine (new_any (n : Int) (by omega) (by omega) w).mono ?_
  rintro e w' ⟨hb, h | ⟨_, _, b, own, he, hd, ho⟩⟩
  · exact absurd ⟨by omega, by omega⟩ h.1
  · exact ⟨b, own, he, hb, by simpa using hd, ho⟩
def oneH : List Hm := [⟨1, PTwin.pageB 97 1⟩]
theorem one_may : PTwin.may 80 2 40 oneH = true := by
  have hB := PTwin.pageB_length 97 1
  unfold oneH
  generalize PTwin.pageB 97 1 = B at *
  unfold PTwin.may PTwin.fit PTwin.fit PTwin.inside
  simp [hB]
theorem one_good : PTwin.Good 80 2 40 oneH := PTwin.good_of one_may (by intro x hx; rw [List.mem_singleton.1 hx]; show (1 : Nat) < _; omega) (by omega) (by omega)
theorem sec_new (n i : Nat) (h : i < n) : PTwin.sec (List.replicate n PDsk.zero) i = PTwin.clear := by
  unfold PTwin.sec
  rw [List.getD_eq_getElem?_getD, List.getElem?_replicate, if_pos h]; rfl
theorem old_new (n a base : Nat) (b : List Hm) (h : a < n) : PTwin.Old n a base b (List.replicate n PDsk.zero) (List.replicate n PDsk.zero) :=
  PTwin.Old.refl (by simp) (fun x hx => by rw [(List.mem_replicate.1 hx).2]; exact List.length_replicate) (sec_new n a h)
theorem new_form (n : Nat) : PDsk.new n = ⟨List.replicate n PDsk.zero, [], -1⟩ := rfl
set_option maxRecDepth 20000 in
set_option maxHeartbeats 8000000 in
theorem works14_any (w : World) : Calls Try.prog 6 #[] w fun e w' => e = .returned (.bool true) ∧ Below w.heap.size w w' := by
  have HN := Lib.hid (show Calls Try.prog 7 #[.int .i64 80] w fun e w' => ∃ b own, e = .returned (.tuple #[.pointer (some ⟨b, 0, none⟩), .int .i64 0]) ∧ Td w w' b (PDsk.new 80) own from new_pos 80 (by omega) (by omega) w)
  obtain ⟨B, hB⟩ : ∃ B : ByteArray, (⟨(PTwin.pageB 97 1).toArray⟩ : ByteArray) = B := ⟨_, rfl⟩
  have HP : Hid (∀ W, Calls Try.prog 24 #[.int .u8 97, .int .i64 1] W fun e w' => e = .returned (.string B) ∧ Below W.heap.size W w') := Lib.hid (fun W => by
    have := page_any 97 1 (by omega) (by omega) W
    rw [hB] at this
    exact this)
  have HHV : Hid (homesV oneH = [.int .u32 1, .string B]) := Lib.hid (by rw [← hB]; rfl)
  -- what the Write leaves
  obtain ⟨S1, f1, hst, hnew, hf1, hf2, _⟩ : ∃ S' f', PTwin.steps (PDsk.new 80) (PTwin.writeC 2 40 oneH) = (⟨S', [], f'⟩, 0) ∧ PTwin.New 80 2 40 oneH (List.replicate 80 PDsk.zero) S' ∧ -1 ≤ f' ∧ ((-1 : Int) = -1 → f' = -1) ∧ f' ≤ -1 := by
    rw [new_form]
    rcases PTwin.write_cases one_good (old_new 80 2 40 oneH (by omega)) (-1) (by omega) with ⟨_, h, _⟩ | h
    · exact absurd rfl h
    · exact h
  have hf : f1 = -1 := hf2 rfl
  subst hf
  obtain ⟨D, hD⟩ : ∃ D : PDsk.Dsk, (⟨S1, [], -1⟩ : PDsk.Dsk) = D := ⟨_, rfl⟩
  have hDl : D.sure.length = 80 := by rw [← hD]; exact hnew.kept.len
  have hDlo : D.loose = [] := by rw [← hD]
  have hDf : D.fuse ≠ 0 := by rw [← hD]; show (-1 : Int) ≠ 0; omega
  have HW : Hid (∀ (W : World) (b : Nat) (own : List Nat) (v : Value), IsDisk W b (PDsk.new 80) own → HomeIn W v oneH → Calls Try.prog 18 #[.pointer (some ⟨b, 0, none⟩), .int .i64 2, .int .i64 40, v] W (StepPost (.int .i64 0) b D own W)) := Lib.hid (fun W b own v hW hI => by
    have hl : (PDsk.new 80).sure.length = 80 := by simp [PDsk.new]
    have := tw_write_yes W hW 2 40 (by rw [hl]; omega) (by rw [hl]; omega) oneH v one_good.page hI (by rw [hl]; exact one_may) (by simp [PDsk.new])
    rw [hst, hD] at this
    exact this)
  have HR : Hid (∀ (W : World) (b : Nat) (own : List Nat), IsDisk W b D own → Calls Try.prog 19 #[.pointer (some ⟨b, 0, none⟩), .int .i64 40, .int .u32 1] W fun e w' => e = .returned (.tuple #[.string B, .int .i64 0]) ∧ Below W.heap.size W w') := Lib.hid (fun W b own hW => by
    have h1 := readT_any W hW hDf 40 1 (by rw [hDl]; omega)
    have h2 : PTwin.pageAt D 40 1 = PTwin.pageB 97 1 := by
      rw [← hD]
      exact PTwin.pageAt_new one_good hnew (-1) (x := ⟨1, PTwin.pageB 97 1⟩) (by simp [oneH])
    rw [h2] at h1
    unfold ReadPost at h1
    rw [hB] at h1
    exact h1)
  have HRP : Hid (∀ (W : World) (b : Nat) (own : List Nat), IsDisk W b D own → Calls Try.prog 14 #[.pointer (some ⟨b, 0, none⟩), .int .i64 2, .int .i64 40] W fun e w' => ∃ own', e = .returned (.tuple #[.int .i64 0, .int .i64 0]) ∧ IsDisk w' b D own' ∧ Stepped W w' own own') := Lib.hid (fun W b own hW => by
    have h1 := tw_repair_any W hW 2 40 (by rw [hDl]; omega) (by rw [hDl]; omega) (by rw [hDlo]; simp)
    have h2 : PTwin.repair D 2 40 = (D, 0, 0) := by rw [← hD]; exact PTwin.rep_clear (by omega) hnew.mark
    unfold RepPost at h1
    rw [h2] at h1
    exact h1)
  have HWN : Hid (∀ (W : World) (b : Nat) (own : List Nat), IsDisk W b D own → Calls Try.prog 18 #[.pointer (some ⟨b, 0, none⟩), .int .i64 2, .int .i64 40, .slice none 0 0] W fun e w' => e = .returned (.int .i64 2) ∧ Below W.heap.size W w') := Lib.hid (fun W b own hW =>
    tw_write_no W hW 2 40 (by rw [hDl]; omega) (by rw [hDl]; omega) [] _ (by simp) (by simp) (RdS.nil _ _) rfl)
  have HWZ : Hid (∀ (W : World), Calls Try.prog 18 #[.pointer none, .int .i64 2, .int .i64 40, .slice none 0 0] W fun e w' => e = .returned (.int .i64 1) ∧ W = w') := Lib.hid (fun W => tw_write_nil 2 40 _ W)
  have HLO : Hid (∀ (W : World) (b : Nat) (own : List Nat), IsDisk W b D own → Calls Try.prog 17 #[.pointer (some ⟨b, 0, none⟩)] W fun e w' => e = .returned (.int .i64 0) ∧ W = w') := Lib.hid (fun W b own hW => by
    have := loose_any W hW
    rw [hDlo] at this
    exact this)
  clear hB hst hnew hf1 hf2 hD hDl hDlo hDf
  go_enter Try.func6, Try.ntmps6
  go_wp2_with fail
  refine HN.out.mono ?_
  rintro e w1 ⟨b, own, rfl, ht⟩
  have HT := Lib.hid ht
  clear ht HN
  go_wp2_with fail
  refine (HP.out _).mono ?_
  rintro e w2 ⟨rfl, hb⟩
  have HT2 := Lib.hid ((HT.out.below hb).below ((Below.refl _ _).alloc (Nat.le_refl _) (.cells #[.int .u32 1, .string B] 34)))
  have HHI : Hid (HomeIn (w2.alloc (.cells #[.int .u32 1, .string B] 34)) (.slice (some ⟨w2.heap.size, 0, none⟩) 1 1) oneH) := Lib.hid (by
    have := Sl.of_built w2 0 (Nat.zero_le _) 34 2 1 [.int .u32 1, .string B] rfl (by unfold maxLen; omega)
    have := RdS.of_sl this
    rw [← HHV.out] at this
    rw [HHV.out] at this
    unfold HomeIn
    rw [HHV.out]
    exact this)
  clear hb HT
  go_wp2_with fail
  refine (HW.out _ b own _ HT2.out.2.1 HHI.out).mono ?_
  rintro e w3 ⟨own3, rfl, hd, hs⟩
  have HT3 := Lib.hid (HT2.out.step hd hs)
  clear hd hs HT2 HHI HW HHV
  go_wp2_with fail
  refine (HR.out _ b own3 HT3.out.2.1).mono ?_
  rintro e w4 ⟨rfl, hb⟩
  have HT4 := Lib.hid (HT3.out.below hb)
  clear hb HT3
  go_wp2_with fail
  refine (HRP.out _ b own3 HT4.out.2.1).mono ?_
  rintro e w5 ⟨own5, rfl, hd, hs⟩
  have HT5 := Lib.hid (HT4.out.step hd hs)
  clear hd hs HT4
  go_wp2_with fail
  refine (HP.out _).mono ?_
  rintro e w6 ⟨rfl, hb⟩
  have HT6 := Lib.hid (HT5.out.below hb)
  clear hb HT5
  go_wp2_with fail
  refine (HWN.out _ b own5 HT6.out.2.1).mono ?_
  rintro e w7 ⟨rfl, hb⟩
  have HT7 := Lib.hid (HT6.out.below hb)
  clear hb HT6
  go_wp2_with fail
  refine (HWZ.out _).mono ?_
  rintro e w8 ⟨rfl, rfl⟩
  go_wp2_with fail
  refine (HLO.out _ b own5 HT7.out.2.1).mono ?_
  rintro e w8 ⟨rfl, rfl⟩
  go_wp2
  go_ret
  exact ⟨rfl, HT7.out.1⟩
end Go.Proofs.Ytdkhmhlphhammaa
