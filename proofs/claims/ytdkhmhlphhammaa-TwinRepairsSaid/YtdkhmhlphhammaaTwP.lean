/-
  Twin: Repair.
-/
import Derived.Test.YtdkhmhlphhammaaTwW
namespace PTwin
theorem found_succ (D : PDsk.Dsk) (a k : Nat) : found D a (k + 1) = found D a k ++ [⟨(PWord.get (PDsk.now D a) (2 + 4 * (k : Nat) : Nat) 4).1, pageAt D (a + 1) k⟩] := by simp [found, List.range_succ]
theorem found_length (D : PDsk.Dsk) (a k : Nat) : (found D a k).length = k := by simp [found]
theorem get_lt4 (s : List UInt8) (p : Int) : (PWord.get s p 4).1 < 4294967296 := by
  unfold PWord.get
  split
  · rename_i h
    simp only [Bool.and_eq_true, decide_eq_true_eq] at h
    unfold PWord.inside at h
    simp only [Bool.and_eq_true, decide_eq_true_eq] at h
    have := PWord.val_lt 4 (List.take (4 : Int).toNat (List.drop p.toNat s)) (by rw [List.length_take, List.length_drop]; omega)
    simpa using this
  · simp
theorem get_lt1 (s : List UInt8) (p : Int) : (PWord.get s p 1).1 < 256 := by
  unfold PWord.get
  split
  · rename_i h
    simp only [Bool.and_eq_true, decide_eq_true_eq] at h
    unfold PWord.inside at h
    simp only [Bool.and_eq_true, decide_eq_true_eq] at h
    have := PWord.val_lt 1 (List.take (1 : Int).toNat (List.drop p.toNat s)) (by rw [List.length_take, List.length_drop]; omega)
    simpa using this
  · simp
end PTwin
namespace Go.Proofs.Ytdkhmhlphhammaa
open Go.RowKit
open PTwin (Hm)
theorem tw_repair_nil (a base : Int) (w : World) : Calls Try.prog 14 #[.pointer none, .int .i64 a, .int .i64 base] w fun e w' => e = .returned (.tuple #[.int .i64 0, .int .i64 1]) ∧ w = w' := by
  go_enter Try.func14, Try.ntmps14
  go_wp2_with fail
  refine (placed_nil a 0 _).mono ?_; rintro e w1 ⟨rfl, rfl⟩
  go_wp2
  go_ret2
  exact ⟨rfl, rfl⟩
theorem tw_repair_no {b : Nat} {D : PDsk.Dsk} {own : List Nat} (w : World) (h : IsDisk w b D own) (a base : Nat) (ha : a ≤ 100000) (hno : D.sure.length < a + 33) :
    Calls Try.prog 14 #[.pointer (some ⟨b, 0, none⟩), .int .i64 a, .int .i64 base] w fun e w' => e = .returned (.tuple #[.int .i64 0, .int .i64 2]) ∧ w = w' := by
  have HPL : Hid (Calls Try.prog 33 #[.pointer (some ⟨b, 0, none⟩), .int .i64 a, .int .i64 0] w fun e w' => e = .returned (.int .i64 2) ∧ w = w') := Lib.hid (by
    have := placed_any w h a 0 ha (by omega)
    unfold placedE at this
    rw [if_pos (.inl hno)] at this
    exact this)
  clear h hno
  go_enter Try.func14, Try.ntmps14
  go_wp2_with fail
  refine HPL.out.mono ?_; rintro e w1 ⟨rfl, rfl⟩
  go_wp2
  go_ret2
  exact ⟨rfl, rfl⟩
def RepPost (b : Nat) (D : PDsk.Dsk) (a base : Nat) (own : List Nat) (w : World) (e : Ending) (w' : World) : Prop := ∃ own', e = .returned (.tuple #[.int .i64 (PTwin.repair D a base).2.1, .int .i64 (PTwin.repair D a base).2.2]) ∧ IsDisk w' b (PTwin.repair D a base).1 own' ∧ Stepped w w' own own'
theorem rep_same {b : Nat} {D : PDsk.Dsk} {a base : Nat} {own : List Nat} {w w' : World} {e : Ending} {k : Nat} {c : Int} (hr : PTwin.repair D a base = (D, k, c)) (he : e = .returned (.tuple #[.int .i64 k, .int .i64 c])) (h : IsDisk w b D own) (hb : Below w.heap.size w w') : RepPost b D a base own w e w' := by
  unfold RepPost
  rw [hr]
  exact ⟨own, he, h.below hb, Stepped.of_below hb own⟩
set_option maxRecDepth 20000 in
set_option maxHeartbeats 8000000 in
theorem tw_repair_any {b : Nat} {D : PDsk.Dsk} {own : List Nat} (w : World) (h : IsDisk w b D own) (a base : Nat) (ha : a + 33 ≤ D.sure.length) (hb : base ≤ D.sure.length) (hll : D.loose.length ≤ 1000) :
    Calls Try.prog 14 #[.pointer (some ⟨b, 0, none⟩), .int .i64 a, .int .i64 base] w (RepPost b D a base own w) := by
  have hs16 := h.1.2.1
  have ha5 : a ≤ 16384 := by omega
  have hb5 : base ≤ 16384 := by omega
  have HPL : Hid (Calls Try.prog 33 #[.pointer (some ⟨b, 0, none⟩), .int .i64 a, .int .i64 0] w fun e w' => e = .returned (.int .i64 0) ∧ w = w') := Lib.hid (by
    have := placed_any w h a 0 (by omega) (by omega)
    unfold placedE at this
    rw [if_neg (by omega)] at this
    exact this)
  have HD := Lib.hid h
  have z2 : ¬ (base : Int) < 0 := by omega
  have HRD := Lib.hid (read_any w h (a : Int) (by omega))
  by_cases hf : D.fuse = 0
  · have hr : PDsk.read D (a : Int) = ([], 40) := by unfold PDsk.read; rw [if_pos hf]
    rw [hr] at HRD
    have HR : Hid (PTwin.repair D a base = (D, 0, 40)) := Lib.hid (by unfold PTwin.repair; rw [if_pos hf])
    clear h hr hf ha hb hll hs16
    go_enter Try.func14, Try.ntmps14
    go_wp2_with fail
    refine HPL.out.mono ?_; rintro e w1 ⟨rfl, rfl⟩
    go_wp2_with fail
    refine HRD.out.mono ?_; rintro e w1 ⟨rfl, hbw⟩
    have HB := Lib.hid hbw
    clear hbw
    go_wp2
    go_ret2
    exact rep_same HR.out rfl HD.out HB.out
  have hr : PDsk.read D (a : Int) = (PDsk.now D a, 0) := PDsk.read_now hf (by omega)
  rw [hr] at HRD
  obtain ⟨s, hs⟩ : ∃ s : ByteArray, (⟨(PDsk.now D a).toArray⟩ : ByteArray) = s := ⟨_, rfl⟩
  have HSL : Hid (s.data.toList = PDsk.now D a ∧ s.size = 128 ∧ s.toList = PDsk.now D a) := Lib.hid (by subst hs; exact ⟨rfl, PDsk.now_length h.1 (by omega), by rw [bytes_eq]⟩)
  rw [show (ReadPost (PDsk.now D a, (0:Int)).1 (PDsk.now D a, (0:Int)).2 w) = (fun e w' => e = .returned (.tuple #[.string s, .int .i64 0]) ∧ Below w.heap.size w w') by unfold ReadPost; rw [← hs]] at HRD
  obtain ⟨z, hz⟩ : ∃ z : ByteArray, (⟨PTwin.clear.toArray⟩ : ByteArray) = z := ⟨_, rfl⟩
  have HCL : Hid (∀ W, Calls Try.prog 34 #[] W fun e w' => e = .returned (.string z) ∧ Below W.heap.size W w') := Lib.hid (fun W => by rw [← hz]; exact clear_any W)
  have HZ : Hid (z.toList = PTwin.clear ∧ z.size = 128 ∧ z.data.toList = PTwin.clear) := Lib.hid (by subst hz; exact ⟨by rw [bytes_eq], rfl, rfl⟩)
  by_cases hc : PDsk.now D a = PTwin.clear
  · have HR : Hid (PTwin.repair D a base = (D, 0, 0)) := Lib.hid (by unfold PTwin.repair; rw [if_neg hf, if_pos hc])
    have hsz : s = z := by rw [← hs, ← hz, hc]
    rw [hsz] at HRD
    clear h hr hf ha hb hll hs16 hc hs hz hsz HSL
    go_enter Try.func14, Try.ntmps14
    go_wp2_with fail
    refine HPL.out.mono ?_; rintro e w1 ⟨rfl, rfl⟩
    go_wp2_with fail
    refine HRD.out.mono ?_; rintro e w1 ⟨rfl, hbw⟩
    have HB := Lib.hid hbw
    clear hbw
    go_wp2_with fail
    refine (HCL.out _).mono ?_; rintro e w2 ⟨rfl, hbw⟩
    replace HB := Lib.hid (HB.out.step hbw)
    clear hbw
    go_wp2
    go_ret2
    exact rep_same HR.out rfl HD.out HB.out
  have hne : (s.toList == z.toList) = false := by rw [HSL.out.2.2, HZ.out.1]; exact beq_eq_false_iff_ne.2 hc
  obtain ⟨C, hC⟩ : ∃ C, PTwin.count (PDsk.now D a) = C := ⟨_, rfl⟩
  have hC256 : C < 256 := by rw [← hC]; exact PTwin.get_lt1 _ _
  have HGC : Hid (∀ W, Calls Try.prog 35 #[.string s, .int .i64 1, .int .i64 1] W fun e w' => ∃ ok : Bool, e = .returned (.tuple #[.int .u64 (C : Nat), .bool ok]) ∧ Below W.heap.size W w') := Lib.hid (fun W => by
    refine (get_any s 1 1 (by rw [HSL.out.2.1]; unfold maxLen; omega) W).mono ?_
    rintro e w' ⟨he, hb⟩
    rw [HSL.out.1] at he
    exact ⟨_, by rw [he, ← hC]; rfl, hb⟩)
  by_cases hn : C < 1 ∨ 8 < C
  · have HR : Hid (PTwin.repair D a base = (D, 0, 120)) := Lib.hid (by unfold PTwin.repair; rw [if_neg hf, if_neg hc, if_pos (by rw [hC]; exact hn)])
    have hcs : (C : Int) < 1 ∨ (¬ (C : Int) < 1 ∧ (8 : Int) < C) := by omega
    clear h hr hf ha hb hll hs16 hc hs hz hn hC
    rcases hcs with j1 | ⟨j1, j2⟩
    all_goals (
      go_enter Try.func14, Try.ntmps14
      go_wp2_with fail
      refine HPL.out.mono ?_; rintro e w1 ⟨rfl, rfl⟩
      go_wp2_with fail
      refine HRD.out.mono ?_; rintro e w1 ⟨rfl, hbw⟩
      have HB := Lib.hid hbw
      clear hbw
      go_wp2_with fail
      refine (HCL.out _).mono ?_; rintro e w2 ⟨rfl, hbw⟩
      replace HB := Lib.hid (HB.out.step hbw)
      clear hbw
      go_wp2_with fail
      refine (HGC.out _).mono ?_; rintro e w3 ⟨ok, rfl, hbw⟩
      replace HB := Lib.hid (HB.out.step hbw)
      clear hbw
      go_wp2
      go_ret2
      exact rep_same HR.out rfl HD.out HB.out)
  obtain ⟨X, hX⟩ : ∃ X, PTwin.found D a C = X := ⟨_, rfl⟩
  have HXL : Hid (X.length = C) := Lib.hid (by rw [← hX, PTwin.found_length])
  have HXP : Hid (∀ x ∈ X, x.page < 4294967296 ∧ x.bytes.length = 512) := Lib.hid (by
    intro x hx
    rw [← hX] at hx
    unfold PTwin.found at hx
    obtain ⟨i, hi, rfl⟩ := List.mem_map.1 hx
    have := List.mem_range.1 hi
    exact ⟨PTwin.get_lt4 _ _, pageAt_length h.1 (by omega)⟩)
  have HRR : Hid (PTwin.repair D a base = if PTwin.mark (X.map (·.page)) ≠ PDsk.now D a ∨ D.sure.length < base ∨ PTwin.may D.sure.length a base X = false then (D, 0, 120)
      else if (PTwin.steps D (PTwin.homes base X ++ PTwin.marks a PTwin.clear)).2 = 0 then ((PTwin.steps D (PTwin.homes base X ++ PTwin.marks a PTwin.clear)).1, C, 0)
      else ((PTwin.steps D (PTwin.homes base X ++ PTwin.marks a PTwin.clear)).1, 0, (PTwin.steps D (PTwin.homes base X ++ PTwin.marks a PTwin.clear)).2)) := Lib.hid (by
    unfold PTwin.repair
    rw [if_neg hf, if_neg hc, hC, if_neg hn, hX])
  have HG4 : Hid (∀ (W : World) (k R : Nat), R = 2 + 4 * k → Calls Try.prog 35 #[.string s, .int .i64 R, .int .i64 4] W fun e w' => ∃ ok : Bool, e = .returned (.tuple #[.int .u64 ((PWord.get (PDsk.now D a) (2 + 4 * (k : Nat) : Nat) 4).1 : Nat), .bool ok]) ∧ Below W.heap.size W w') := Lib.hid (fun W k R hR => by
    subst hR
    refine (get_any s ((2 + 4 * k : Nat) : Int) 4 (by rw [HSL.out.2.1]; unfold maxLen; omega) W).mono ?_
    rintro e w' ⟨he, hb⟩
    rw [HSL.out.1] at he
    exact ⟨_, he, hb⟩)
  have HRT : Hid (∀ (W : World) (k A : Nat), IsDisk W b D own → k < C → A = a + 1 → Calls Try.prog 19 #[.pointer (some ⟨b, 0, none⟩), .int .i64 A, .int .u32 k] W fun e w' => e = .returned (.tuple #[.string ⟨(PTwin.pageAt D (a + 1) k).toArray⟩, .int .i64 0]) ∧ Below W.heap.size W w') := Lib.hid (fun W k A hW hk hA => by
    subst hA
    exact readT_any W hW hf (a + 1) k (by omega))
  have HFS : Hid (∀ k, homesV (PTwin.found D a (k + 1)) = homesV (PTwin.found D a k) ++ [.int .u32 ((PWord.get (PDsk.now D a) (2 + 4 * (k : Nat) : Nat) 4).1 : Nat), .string ⟨(PTwin.pageAt D (a + 1) k).toArray⟩]) := Lib.hid (fun k => by rw [PTwin.found_succ, homesV_snoc])
  have HMK : Hid (∀ (W : World) (v : Value), HomeIn W v X → Calls Try.prog 36 #[v] W fun e w' => e = .returned (.string ⟨(PTwin.mark (X.map (·.page))).toArray⟩) ∧ Below W.heap.size W w') := Lib.hid (fun W v hI => mark_any W X v (by rw [HXL.out]; omega) (fun x hx => (HXP.out x hx).1) hI)
  have HMY : Hid (∀ (W : World) (v : Value), IsDisk W b D own → HomeIn W v X → Calls Try.prog 37 #[.pointer (some ⟨b, 0, none⟩), .int .i64 a, .int .i64 base, v] W fun e w' => e = .returned (.bool (PTwin.may D.sure.length a base X)) ∧ Below W.heap.size W w') := Lib.hid (fun W v hW hI => may_any' W hW a base (by omega) (by omega) X v (by rw [HXL.out]; omega) (fun x hx => (HXP.out x hx).1) hI)
  obtain ⟨n, hnn⟩ : ∃ n, n = D.sure.length := ⟨_, rfl⟩
  have HL : Hid (∀ W, IsDisk W b D own → Calls Try.prog 22 #[.pointer (some ⟨b, 0, none⟩)] W fun e w' => e = .returned (.int .i64 (n : Nat)) ∧ W = w') := Lib.hid (fun W hW => by rw [hnn]; exact len_any W hW)
  have hbn : ¬ (n : Int) < base := by omega
  have HBN : Hid (¬ D.sure.length < base) := Lib.hid (by omega)
  have HHM : Hid (∀ (W : World) (v : Value), HomeIn W v X → Calls Try.prog 39 #[.pointer (some ⟨b, 0, none⟩), .int .i64 base, v] W fun e w' => ∃ u xs, e = .returned u ∧ Cn W w' b (4 * C + 1) u xs (PTwin.homes base X)) := Lib.hid (fun W v hI => by
    have := homes_any W b base X v (by rw [HXL.out]; omega) (by omega) HXP.out hI
    rw [HXL.out] at this
    exact this.mono (fun e w' ⟨u, xs, h0, h1, h2, h3⟩ => ⟨u, xs, h0, h1, h2, h3⟩))
  have HMS : Hid (∀ (W : World) (s : ByteArray), s.size = 128 → Calls Try.prog 40 #[.pointer (some ⟨b, 0, none⟩), .int .i64 a, .string s] W fun e w' => ∃ u xs, e = .returned u ∧ Cn W w' b 2 u xs (PTwin.marks a s.data.toList)) := Lib.hid (fun W s hs => (marks_any W b a s hs (by omega)).mono (fun e w' ⟨u, xs, h0, h1, h2, h3⟩ => ⟨u, xs, h0, h1, h2, h3⟩))
  have HLL := Lib.hid hll
  have HSX : Hid (∀ k, k = C → homesV (PTwin.found D a k) = homesV X) := Lib.hid (fun k hk => by rw [hk, hX])
  obtain ⟨A, hA⟩ : ∃ A : Nat, A = a + 1 := ⟨_, rfl⟩
  have HA := Lib.hid hA
  have hwa : IntKind.i64.wrap ((a : Int) + 1) = A := by rw [IntWalk.i64_in _ (by omega)]; omega
  have hwc : IntKind.i64.wrap (C : Int) = C := IntWalk.i64_in _ (by omega)
  have j1 : ¬ (C : Int) < 1 := by omega
  have j2 : ¬ (8 : Int) < C := by omega
  have hC8 : C ≤ 8 := by omega
  clear h hr hf ha hb hll hs16 hc hs hz hn hC hX hnn hA hC256
  go_enter Try.func14, Try.ntmps14
  go_wp2_with fail
  refine HPL.out.mono ?_; rintro e w1 ⟨rfl, rfl⟩
  go_wp2_with fail
  refine HRD.out.mono ?_; rintro e w1 ⟨rfl, hbw⟩
  have HB := Lib.hid hbw
  clear hbw
  go_wp2_with fail
  refine (HCL.out _).mono ?_; rintro e w2 ⟨rfl, hbw⟩
  replace HB := Lib.hid (HB.out.step hbw)
  clear hbw
  go_wp2_with fail
  refine (HGC.out _).mono ?_; rintro e w3 ⟨ok, rfl, hbw⟩
  replace HB := Lib.hid (HB.out.step hbw)
  clear hbw HPL HRD HGC hne
  go_wp2
  go_loopw [13, 59] (fun uv iv wr => ∃ k : Nat, k ≤ C ∧ iv = .int .i64 k ∧ Hid (Sl wr w.heap.size 34 2 uv k (homesV (PTwin.found D a k))) ∧ Hid (Below w.heap.size w wr)) (fun _ iv _ => C - (intOf iv).toNat)
  case atStart => exact ⟨0, by omega, rfl, Lib.hid (Sl.nil _ _ _ _), HB⟩
  case round =>
    clear HB
    obtain ⟨k, hk, rfl, HS, HB⟩ := hrel
    obtain ⟨pu, cu, rfl⟩ := Sl.form HS.out
    by_cases hlt : k < C
    · have i1 : (k : Int) < C := by omega
      obtain ⟨Q, hQ⟩ : ∃ Q : Nat, 4 * k = Q := ⟨_, rfl⟩
      obtain ⟨R, hR⟩ : ∃ R : Nat, R = 2 + 4 * k := ⟨_, rfl⟩
      have HR := Lib.hid hR
      have HLT := Lib.hid hlt
      have w1 : IntKind.i64.wrap (4 * (k : Int)) = Q := by rw [IntWalk.i64_in _ (by omega)]; omega
      have w2 : IntKind.i64.wrap (2 + (Q : Int)) = R := by rw [IntWalk.i64_in _ (by omega)]; omega
      have w3 : IntKind.u32.wrap (k : Int) = k := by rw [IntKind.wrap_u32]; omega
      obtain ⟨P, hP⟩ : ∃ P : Nat, (PWord.get (PDsk.now D a) (2 + 4 * (k : Nat) : Nat) 4).1 = P := ⟨_, rfl⟩
      have hP4 : P < 4294967296 := by rw [← hP]; exact PTwin.get_lt4 _ _
      have w4 : IntKind.u32.wrap (P : Int) = P := by rw [IntKind.wrap_u32]; omega
      have HGK := Lib.hid (fun W => HG4.out W k R HR.out)
      have HFK := Lib.hid (HFS.out k)
      rw [hP] at HGK HFK
      clear hQ hR hP hlt
      go_wp2_with fail
      refine (HGK.out _).mono ?_; rintro e w4 ⟨ok2, rfl, hbw⟩
      replace HB := Lib.hid (HB.out.step hbw)
      replace HS := Lib.hid (HS.out.keep (fun g e => hbw.block g (HS.out.lt g e).2))
      clear hbw
      go_wp2_with fail
      refine (HRT.out _ k A (HD.out.below HB.out) HLT.out HA.out).mono ?_; rintro e w5 ⟨rfl, hbw⟩
      replace HB := Lib.hid (HB.out.step hbw)
      replace HS := Lib.hid (HS.out.keep (fun g e => hbw.block g (HS.out.lt g e).2))
      obtain ⟨B, hB⟩ : ∃ B : ByteArray, (⟨(PTwin.pageAt D (a + 1) k).toArray⟩ : ByteArray) = B := ⟨_, rfl⟩
      rw [hB] at HFK ⊢
      have hbs := HB.out.size
      clear hbw hB
      go_wp2_with (at_builtin; (with_reducible apply wpList_append_sl elem_home (HS.out.alloc _) [.int .u32 P, .string B]); (· rfl); (· rfl); (· rfl); (· rfl); (· rfl); (· exact news_at _ [_, _] _ _ rfl); (· intro u hu; simp at hu; rcases hu with rfl | rfl <;> rfl); (· unfold maxLen; omega); (· omega); (· rw [World.size_alloc]; omega); intro v' w6 g1 g2 _ g4)
      have HSN : Hid (Sl w6 w.heap.size 34 2 v' (k + 1) (homesV (PTwin.found D a (k + 1)))) := Lib.hid (by rw [HFK.out]; exact g1)
      have HBN2 : Hid (Below w.heap.size w w6) := Lib.hid ((HB.out.alloc hbs _).grown g2 (by rw [World.size_alloc]; omega) (fun j e => (HS.out.lt j e).1))
      clear g1 g2 g4 HS HB HGK HFK
      go_wp2
      exact ⟨⟨k + 1, by have := HLT.out; omega, by go_num, HSN, HBN2⟩, by have := HLT.out; simp [intOf]; omega⟩
    · obtain rfl : k = C := by omega
      have i1 : ¬ (k : Int) < k := by omega
      have HXI : Hid (HomeIn wr (.slice pu k cu) X) := Lib.hid (by
        have h := RdS.of_sl HS.out
        rw [HSX.out k rfl] at h
        unfold HomeIn
        rw [HXL.out]
        exact h)
      clear HS HRT HFS HG4 hlt hk
      go_wp2_with fail
      refine (HMK.out _ _ HXI.out).mono ?_; rintro e w4 ⟨rfl, hbw⟩
      replace HXI := Lib.hid (RdS.step HXI.out hbw)
      replace HB := Lib.hid (HB.out.step hbw)
      clear hbw
      obtain ⟨m, hm⟩ : ∃ m : ByteArray, (⟨(PTwin.mark (X.map (·.page))).toArray⟩ : ByteArray) = m := ⟨_, rfl⟩
      rw [hm]
      have HMT : Hid (m.toList = PTwin.mark (X.map (·.page))) := Lib.hid (by rw [← hm, bytes_eq])
      by_cases hmn : PTwin.mark (X.map (·.page)) = PDsk.now D a
      · have hms : m.toList = s.toList := by rw [HMT.out, HSL.out.2.2, hmn]
        have hmd : m = s := by
          rw [bytes_eq, bytes_eq] at hms
          have h1 : (⟨m.data.toList.toArray⟩ : ByteArray) = m := by simp
          have h2 : (⟨s.data.toList.toArray⟩ : ByteArray) = s := by simp
          rw [← h1, ← h2, hms]
        have HMN := Lib.hid hmn
        rw [hmd]
        clear hm hmn hms hmd HMT
        go_wp2_with fail
        refine (HL.out _ (HD.out.below HB.out)).mono ?_; rintro e w5 ⟨rfl, rfl⟩
        go_wp2_with fail
        refine (HMY.out _ _ (HD.out.below HB.out) HXI.out).mono ?_; rintro e w5 ⟨rfl, hbw⟩
        replace HXI := Lib.hid (RdS.step HXI.out hbw)
        replace HB := Lib.hid (HB.out.step hbw)
        clear hbw
        cases hmy : PTwin.may D.sure.length a base X
        · have HR : Hid (PTwin.repair D a base = (D, 0, 120)) := Lib.hid (by rw [HRR.out, if_pos (.inr (.inr hmy))])
          clear hmy
          go_wp2
          go_ret2
          exact rep_same HR.out rfl HD.out HB.out
        · have HR : Hid (PTwin.repair D a base = if (PTwin.steps D (PTwin.homes base X ++ PTwin.marks a PTwin.clear)).2 = 0 then ((PTwin.steps D (PTwin.homes base X ++ PTwin.marks a PTwin.clear)).1, k, 0)
              else ((PTwin.steps D (PTwin.homes base X ++ PTwin.marks a PTwin.clear)).1, 0, (PTwin.steps D (PTwin.homes base X ++ PTwin.marks a PTwin.clear)).2)) := Lib.hid (by
            rw [HRR.out, if_neg (by
              intro h
              rcases h with h | h | h
              · exact h HMN.out
              · exact HBN.out h
              · rw [hmy] at h; cases h)])
          clear hmy
          go_wp2_with fail
          refine (HHM.out _ _ HXI.out).mono ?_
          rintro e w6 ⟨u1, xs1, rfl, hq⟩
          have C1 := Lib.hid (hq.cl HB.out)
          obtain ⟨p1, q1, rfl⟩ := Sl.form hq.1
          have HU1 : Hid (∀ j, (Value.slice p1 (4 * k + 1) q1).ownBlock = some j → j < w6.heap.size) := Lib.hid (fun j e => (hq.1.lt j e).2)
          clear hq
          go_wp2_with fail
          refine (HCL.out _).mono ?_
          rintro e w7 ⟨rfl, hb2⟩
          have HB2 := Lib.hid hb2
          clear hb2
          go_wp2_with fail
          refine (HMS.out _ z HZ.out.2.1).mono ?_
          rintro e w8 ⟨u2, xs2, rfl, hq⟩
          have HQ := Lib.hid hq
          obtain ⟨g2, o2, c2, rfl⟩ := Sl.some hq.1 (by omega)
          obtain ⟨ys, s1, s2, s3⟩ := (C1.out.below HB2.out).below hq.2.2
          have hsz := s3.size
          have hl2 : xs2.length = 2 * 1 := hq.2.1.1
          go_wp2_with (at_builtin; (with_reducible apply wpList_append_sl elem_fn s1 xs2); (· rfl); (· rfl); (· rfl); (· rfl); (· exact hl2); (· exact HQ.out.1.cells rfl); (· exact HQ.out.2.1.oneCell); (· unfold maxLen; omega); (· omega); (· exact hsz); intro v' w9 r1 r2 _ r4)
          have C2 : Hid (Cl w w9 b (4 * k + 1 + 2) v' (PTwin.homes base X ++ PTwin.marks a PTwin.clear)) := Lib.hid (by
            have h := Cl.push s1 s2 s3 HU1.out HB2.out.size HQ.out (Nat.le_trans C1.out.choose_spec.2.2.size HB2.out.size) r1 r2 r4
            rw [HZ.out.2.2] at h
            exact h)
          clear hq s1 s2 s3 hsz hl2 r1 r2 r4 C1 HQ HB2 HU1
          obtain ⟨p7, q7, rfl⟩ := Cl.form C2.out
          have HLC : Hid ((PTwin.homes base X ++ PTwin.marks a PTwin.clear).length = 4 * k + 1 + 2) := Lib.hid (by
            unfold PTwin.marks
            rw [List.length_append, PTwin.homes_length, HXL.out]
            rfl)
          obtain ⟨ys, s1, s2, s3⟩ := C2.out
          have S1 := Lib.hid s1
          have S2 := Lib.hid s2
          have S3 := Lib.hid s3
          clear s1 s2 s3
          obtain ⟨T, hT⟩ : ∃ T, PTwin.steps D (PTwin.homes base X ++ PTwin.marks a PTwin.clear) = T := ⟨_, rfl⟩
          have HFIN : Hid (Calls Try.prog 38 #[.slice p7 (4 * k + 1 + 2) q7] w9 (StepPost (.int .i64 T.2) b T.1 own w9)) := Lib.hid (by
            rw [← hT]
            refine steps_any w9 (HD.out.below S3.out) w.heap.size (fun j hj => .inl (HD.out.lt j hj)) _ ys _ (by rw [HLC.out]; exact S1.out) (S2.out.keep (fun g hg => ⟨hg.1, hg.2.1⟩) (fun _ _ => rfl)) ?_
            have := HLL.out
            rw [HLC.out]
            omega)
          rw [hT] at HR
          clear hT
          go_wp2_with fail
          refine HFIN.out.mono ?_
          rintro e w10 ⟨own', rfl, hd, hst⟩
          have HST := Lib.hid ((Stepped.of_below S3.out own).trans hst)
          have HDD := Lib.hid hd
          clear hd hst
          obtain ⟨D2, ee⟩ := T
          dsimp only at HR HDD ⊢
          by_cases hee : ee = 0
          · subst hee
            have HR2 : Hid (PTwin.repair D a base = (D2, k, 0)) := Lib.hid (by rw [HR.out]; rfl)
            go_wp2
            go_ret2
            unfold RepPost
            rw [HR2.out]
            exact ⟨own', rfl, HDD.out, HST.out⟩
          · have he2 : (ee != 0) = true := by simpa using hee
            have HR2 : Hid (PTwin.repair D a base = (D2, 0, ee)) := Lib.hid (by rw [HR.out, if_neg hee])
            clear hee
            go_wp2
            go_ret2
            unfold RepPost
            rw [HR2.out]
            exact ⟨own', rfl, HDD.out, HST.out⟩
      · have hms1 : (m.toList == s.toList) = false := by rw [beq_eq_false_iff_ne, HMT.out, HSL.out.2.2]; exact hmn
        have hms2 : (m.toList != s.toList) = true := by rw [bne, hms1]; rfl
        have HR : Hid (PTwin.repair D a base = (D, 0, 120)) := Lib.hid (by rw [HRR.out, if_pos (.inl hmn)])
        clear hm hmn
        go_wp2
        all_goals (
          go_ret2
          exact rep_same HR.out rfl HD.out HB.out)
end Go.Proofs.Ytdkhmhlphhammaa
