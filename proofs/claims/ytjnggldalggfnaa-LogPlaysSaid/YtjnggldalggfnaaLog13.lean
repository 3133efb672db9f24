/-
  Log: Keep, where it is allowed.
-/
import Derived.Test.YtjnggldalggfnaaLog12
namespace Go.Proofs.Ytjnggldalggfnaa
open Go.RowKit
theorem begin_still (x : Nat) (hx : x ≤ 9000000000000000000) (w : World) : Calls Try.prog 32 #[.int .u64 x] w fun e w' => e = .returned (.int .u64 (PLog.begin x : Nat)) ∧ w' = w := (begin_any x hx w).mono fun _ _ ⟨h1, h2⟩ => ⟨h1, h2.symm⟩
/-- bytes[d:] : what its value is -/
def CutV (w : World) (v : Value) (N d : Nat) (l : List UInt8) : Prop :=
  (v = .slice none 0 0 ∧ N = 0 ∧ d = 0 ∧ l = []) ∨ ∃ gb ob cb, v = .slice (some ⟨gb, ob, none⟩) N cb ∧ d ≤ N ∧ N ≤ cb ∧ ((cb = d ∧ l.drop d = []) ∨ (cb ≠ d ∧ RdS w 1 (.slice (some ⟨gb, ob + d, none⟩) (N - d) (cb - d)) (N - d) (bytesV (l.drop d))))
theorem cutV_of {w : World} {v : Value} {N d : Nat} {l : List UInt8} (h : Sl w 0 5 1 v N (bytesV l)) (hd : d ≤ N) : CutV w v N d l := by
  have hl : l.length = N := by have := h.1; rw [bytesV_length, Nat.mul_one] at this; exact this
  rcases h.2 with ⟨rfl, h0⟩ | ⟨gb, ob, cb, cur, fz, rfl, hb, hg, hf, hn, hc, ho, hx⟩
  · exact .inl ⟨rfl, h0, by omega, List.eq_nil_of_length_eq_zero (by omega)⟩
  · refine .inr ⟨gb, ob, cb, rfl, hd, hn, ?_⟩
    by_cases hcd : cb = d
    · exact .inl ⟨hcd, List.drop_eq_nil_of_le (by omega)⟩
    · have hs := Sl.sub h (lo := d) (hi := N) hd (Nat.le_refl _)
      rw [List.take_of_length_le (by rw [bytesV_length]; omega)] at hs
      have e : (bytesV l).drop d = bytesV (l.drop d) := by unfold bytesV; rw [List.map_drop]
      rw [e] at hs
      exact .inr ⟨hcd, RdS.of_sl hs⟩
theorem len_nil0 {w : World} {B : Nat} {v : Value} {l : List UInt8} (h : l = []) (hs : Sl w B 5 1 v 0 (bytesV l)) : Sl w B 5 1 v l.length (bytesV l) := by subst h; exact hs
set_option maxRecDepth 20000 in
set_option maxHeartbeats 8000000 in
theorem lkeep_yes {g b : Nat} {L : PLog.Lg} {own : List Nat} (w : World) (h : IsLog w g L b own) (x : Nat) (h1 : L.first ≤ x) (h2 : x ≤ L.forced) (h3 : PLog.isAt L x = true ∨ x = L.next) :
    Calls Try.prog 13 #[.pointer (some ⟨g, 0, none⟩), .int .u64 x] w (LogPost (.int .i64 (PLog.keep L x).2) g (PLog.keep L x).1 b own w) := by
  have HQ := Lib.hid (PLog.keep_yes h1 h2 h3)
  have hk := h.1
  obtain ⟨f1, f2, f3, f4, f5, f6, f7⟩ := PLog.kept_facts hk (PLog.keepAt_of h3) h2
  have hf5 := hk.forced5
  have hn5 := hk.next5
  have hbm := PLog.begin_mono h1
  have hbx := PLog.begin_le x
  have hbf := PLog.begin_le L.first
  have H := Lib.hid h
  have hB := (Below.refl w.heap.size w).alloc (Nat.le_refl _) (.cells #[.int .u64 x] 22)
  have HBW := Lib.hid hB
  have hA1 : IsLog (w.alloc (.cells #[.int .u64 x] 22)) g L b own := h.below hB
  obtain ⟨_, _, _, _, c6, _, c8, _⟩ := hA1.cells
  have HMD := Lib.hid (made_any _ hA1)
  have HBE : Hid (∀ W, IsLog W g L b own → Calls Try.prog 39 #[.pointer (some ⟨g, 0, none⟩), .int .u64 x] W fun e w' => e = .returned (.bool true) ∧ W = w') := Lib.hid (fun W hW => by
    have := begins_any W hW x
    rwa [show (PLog.isAt L x || decide (x = L.next)) = true by rcases h3 with h | h <;> simp [h]] at this)
  have HST := Lib.hid (PLog.startsOf_sorted L.texts L.first)
  have HSL := Lib.hid (Lg_starts_len hk)
  have HF := Lib.hid (show (PLog.kept L x).bytes = L.bytes.drop (PLog.begin x - PLog.begin L.first) ∧ (PLog.kept L x).starts = L.starts.drop (PLog.rank L.starts x) ∧ (PLog.kept L x).next = L.next ∧ (PLog.kept L x).Ok from ⟨f4, f5, f6, f7⟩)
  have HBX := Lib.hid (fun W => begin_still x (by omega) W)
  have HBF := Lib.hid (fun W => begin_still L.first (by omega) W)
  obtain ⟨bx, hbx'⟩ : ∃ bx, PLog.begin x = bx := ⟨_, rfl⟩
  obtain ⟨bf, hbf'⟩ : ∃ bf, PLog.begin L.first = bf := ⟨_, rfl⟩
  rw [hbx'] at HBX hbm hbx
  rw [hbf'] at HBF hbm hbf
  rw [hbx', hbf'] at HF f3
  obtain ⟨d, hd⟩ : ∃ d, bx - bf = d := ⟨_, rfl⟩
  rw [hd] at HF f3
  obtain ⟨N, hN⟩ : ∃ N, L.bytes.length = N := ⟨_, rfl⟩
  have HNN := Lib.hid hN
  rw [hN] at f3
  have hNb : N ≤ 450560 := by
    have := hk.bytes_length; have := hk.ring; have := hk.n5
    omega
  have wd : IntKind.u64.wrap ((bx : Int) - bf) = d := by rw [IntWalk.u64_in _ (by omega)]; omega
  have z1 : ¬ (x : Int) < L.first := by omega
  have z2 : ¬ (L.forced : Int) < x := by omega
  clear h hk hB hA1 f1 f2 f4 f5 f6 f7 h3 hbx' hbf' hd hN h1 h2 hbm hbx hbf hf5 hn5
  go_enter Try.func13, Try.ntmps13
  go_wp2_with fail
  refine HMD.out.mono ?_; rintro e w1 ⟨rfl, rfl⟩
  go_wp2_with fail
  go_quiet (fail)
  obtain ⟨W1, hW1⟩ : ∃ W1, (w.alloc (.cells #[.int .u64 x] 22)).drewN nq = W1 := ⟨_, rfl⟩
  have HW1 := Lib.hid (show Below w.heap.size w W1 by rw [← hW1]; exact HBW.out.trans ((lowN _ nq).mono HBW.out.size))
  have c81 := (H.out.below HW1.out).cells.2.2.2.2.2.2.1
  have HX1 : Hid (W1.heap[w.heap.size]? = some (.cells #[.int .u64 x] 22 (0, 0))) := Lib.hid (by rw [← hW1]; exact heap_alloc_new w _)
  have cx1 : W1.cell? ⟨w.heap.size, 0, none⟩ = some (.int .u64 x) := cell_of_row _ _ 0 _ _ _ HX1.out
  rw [hW1]
  clear hW1 c6 c8
  go_wp2_with fail
  go_quiet (fail)
  obtain ⟨W2, hW2⟩ : ∃ W2, W1.drewN nq = W2 := ⟨_, rfl⟩
  have HW2 := Lib.hid (show Below w.heap.size w W2 by rw [← hW2]; exact HW1.out.trans ((lowN _ nq).mono HW1.out.size))
  have HX2 : Hid (W2.heap[w.heap.size]? = some (.cells #[.int .u64 x] 22 (0, 0))) := Lib.hid (by rw [← hW2]; exact HX1.out)
  have cx2 : W2.cell? ⟨w.heap.size, 0, none⟩ = some (.int .u64 x) := cell_of_row _ _ 0 _ _ _ HX2.out
  rw [hW2]
  clear hW2 c81 cx1
  go_wp2_with fail
  refine (HBE.out _ (H.out.below HW2.out)).mono ?_; rintro e w3 ⟨rfl, rfl⟩
  have hL2 := H.out.below HW2.out
  have hglt := H.out.lt g H.out.mem
  have c62 := hL2.cells.2.2.2.2.1
  obtain ⟨_, vb, vs, hb, hs, hl, d1, d2, d3, hown⟩ := hL2
  have c42 : W2.cell? ⟨g, 4, none⟩ = some vb := by simp [World.cell?, hb, logV]
  rw [HNN.out] at hs
  have hcut := cutV_of hs f3
  have HHB := Lib.hid hb
  have HSS := Lib.hid hl
  have HD2 := Lib.hid d2
  have HOWN := Lib.hid hown
  have HBN := Lib.hid (show w.heap.size ∉ ownsOf vs from fun hm => by
    have := H.out.lt w.heap.size (by rw [hown]; simp [hm])
    omega)
  have HVL := Lib.hid (show ∀ k ∈ ownsOf vs, k < w.heap.size from fun k hk => H.out.lt k (by rw [hown]; simp [hk]))
  clear hb hs hl d1 d2 d3 hown
  rcases hcut with ⟨rfl, q1, q2, q3⟩ | ⟨gb, ob, cb, rfl, q0, q1, ⟨q2, q3⟩ | ⟨q2, q3⟩⟩
  · subst q1
    subst q2
    have HDE := Lib.hid (show L.bytes.drop 0 = [] by rw [q3]; rfl)
    have HRD1 : Hid (RdS W2.drew 1 (.slice none 0 0) 0 (bytesV (L.bytes.drop 0))) := Lib.hid (by rw [HDE.out]; exact ⟨rfl, _, _, rfl, Nat.le_refl _, Nat.zero_le _, fun h => absurd rfl h⟩)
    clear q3
    go_wp2_with fail
    go_region_law (first
      | (go_simp; (with_reducible refine (HBX.out _).mono ?_); rintro e w4 ⟨rfl, rfl⟩; go_wp2_with fail)
      | (go_simp; (with_reducible refine (HBF.out _).mono ?_); rintro e w4 ⟨rfl, rfl⟩; go_wp2_with fail)
      | ((refine step_append_nils elem_u8 (by rfl) (by rfl) (by rfl) HRD1.out (by rfl) (bytesV_one _) (by omega) ?_); intro v' w5 k1 k2; obtain ⟨pv, cv, rfl⟩ := Sl.form k1; have HS5 := Lib.hid (k1.base_le (base' := w.heap.size) HW2.out.size); have HB5 := Lib.hid (HW2.out.drew.step k2); have HH5 := Lib.hid ((k2.block g (Array.getElem?_eq_some_iff.1 HHB.out).1).trans HHB.out); have HX5 := Lib.hid ((k2.block _ (Array.getElem?_eq_some_iff.1 HX2.out).1).trans HX2.out); have HSS5 := Lib.hid (HSS.out.keep fun k e => k2.block k (HSS.out.lt k e).2); have c45 : w5.cell? ⟨g, 4, none⟩ = some (.slice none 0 0) := (by simp [World.cell?, HH5.out, logV]); have f45 : w5.frozen? ⟨g, 4, none⟩ = false := (by simp [World.frozen?, HH5.out]); clear k1 k2))
    all_goals (
      obtain ⟨W6, hW6⟩ : ∃ W6, w5.setCell ⟨g, 4, none⟩ (.slice pv (0) cv) = W6 := ⟨_, rfl⟩
      rw [hW6]
      have hgW : g ≠ w.heap.size := by omega
      have HH6 : Hid (W6.heap[g]? = some (.cells ((logV L b (.slice none 0 0) vs).setIfInBounds 4 (.slice pv (0) cv)) 64 (0, 0))) := Lib.hid (by rw [← hW6]; exact heap_set HH5.out _)
      have c56 : W6.cell? ⟨g, 5, none⟩ = some vs := by simp [World.cell?, HH6.out, logV]
      have HX6 : Hid (W6.heap[w.heap.size]? = some (.cells #[.int .u64 x] 22 (0, 0))) := Lib.hid (by rw [← hW6, Below.heap_setCell _ _ _ _ (by show w.heap.size ≠ g; omega)]; exact HX5.out)
      have HS6 : Hid (Sl W6 0 22 1 vs L.starts.length (u64V L.starts)) := Lib.hid (HSS5.out.keep fun k e => by
        rw [← hW6]
        exact Below.heap_setCell _ ⟨g, 4, none⟩ _ k (fun e2 => HD2.out (by simp at e2; subst e2; simp [ownsOf, e])))
      have HDL := Lib.hid (delf_any W6 vs L.starts HS6.out HST.out HSL.out w.heap.size x (cell_of_row _ _ 0 _ _ _ HX6.out) HBN.out)
      have HW6 := Lib.hid hW6
      clear hW6 c45 f45 c42 c62 cx2 wd
      unfold delF at HDL
      go_wp2_with fail
      refine HDL.out.mono ?_
      rintro e w7 ⟨vs7, rfl, k1, k2, k3⟩
      obtain ⟨nl, hnl⟩ : ∃ nl, (L.starts.drop (PLog.rank L.starts x)).length = nl := ⟨_, rfl⟩
      rw [hnl] at k1
      obtain ⟨p7, cv7, rfl⟩ := Sl.form k1
      have HNL := Lib.hid hnl
      have HS7 := Lib.hid k1
      have HO7 := Lib.hid k2
      have HT7 := Lib.hid k3
      have HH7 : Hid (w7.heap[g]? = some (.cells ((logV L b (.slice none 0 0) vs).setIfInBounds 4 (.slice pv (0) cv)) 64 (0, 0))) := Lib.hid ((k3.block g (Array.getElem?_eq_some_iff.1 HH6.out).1 HD2.out).trans HH6.out)
      have HX7 : Hid (w7.heap[w.heap.size]? = some (.cells #[.int .u64 x] 22 (0, 0))) := Lib.hid ((k3.block _ (Array.getElem?_eq_some_iff.1 HX6.out).1 HBN.out).trans HX6.out)
      have c57 : w7.cell? ⟨g, 5, none⟩ = some vs := by simp [World.cell?, HH7.out, logV]
      have f57 : w7.frozen? ⟨g, 5, none⟩ = false := by simp [World.frozen?, HH7.out]
      have HH8 : Hid ((w7.setCell ⟨g, 5, none⟩ (.slice p7 nl cv7)).heap[g]? = some (.cells (((logV L b (.slice none 0 0) vs).setIfInBounds 4 (.slice pv (0) cv)).setIfInBounds 5 (.slice p7 nl cv7)) 64 (0, 0))) := Lib.hid (heap_set HH7.out _)
      have c68 : (w7.setCell ⟨g, 5, none⟩ (.slice p7 nl cv7)).cell? ⟨g, 6, none⟩ = some (.int .u64 L.first) := by rw [cell_of_row _ _ 6 _ _ _ HH8.out]; simp [logV]
      have f68 : (w7.setCell ⟨g, 5, none⟩ (.slice p7 nl cv7)).frozen? ⟨g, 6, none⟩ = false := frozen_free HH8.out (Free.none _) (by simp [logV])
      have cx8 : (w7.setCell ⟨g, 5, none⟩ (.slice p7 nl cv7)).cell? ⟨w.heap.size, 0, none⟩ = some (.int .u64 x) := by
        have : (w7.setCell ⟨g, 5, none⟩ (.slice p7 nl cv7)).heap[w.heap.size]? = some (.cells #[.int .u64 x] 22 (0, 0)) := by rw [Below.heap_setCell _ _ _ _ (by show w.heap.size ≠ g; omega)]; exact HX7.out
        exact cell_of_row _ _ 0 _ _ _ this
      clear k1 k2 k3 c56 hnl
      go_wp2
      go_ret
      rw [HQ.out]
      have hE := keep_end (L2 := PLog.kept L x) (x := x) HH5.out hglt HB5.out (by rw [HF.out.1]; exact (len_nil0 HDE.out HS5.out)) (by rw [HF.out.2.1, HNL.out]; exact HS7.out) HF.out.2.2.2 HO7.out HD2.out HVL.out (by rw [HW6.out]; exact HT7.out) HOWN.out (by
        have e := HF.out.2.2.1
        simp [logV, e]
        exact ⟨rfl, rfl, rfl, rfl, rfl, rfl⟩)
      obtain ⟨own', e1, e2⟩ := hE
      exact ⟨own', rfl, e1, e2⟩)
  · obtain rfl : cb = d := q2
    obtain rfl : N = cb := by omega
    have HDE := Lib.hid q3
    have HRD1 : Hid (RdS W2.drew 1 (.slice (some ⟨gb, ob, none⟩) 0 0) 0 (bytesV (L.bytes.drop N))) := Lib.hid (by rw [q3]; exact ⟨rfl, _, _, rfl, Nat.le_refl _, Nat.zero_le _, fun h => absurd rfl h⟩)
    have y1 : (N : Int) ≤ N := by omega
    have y0 : (0 : Int) ≤ N := by omega
    clear q3
    go_wp2_with fail
    go_region_law (first
      | (go_simp; (with_reducible refine (HBX.out _).mono ?_); rintro e w4 ⟨rfl, rfl⟩; go_wp2_with fail)
      | (go_simp; (with_reducible refine (HBF.out _).mono ?_); rintro e w4 ⟨rfl, rfl⟩; go_wp2_with fail)
      | ((refine step_append_nils elem_u8 (by rfl) (by rfl) (by rfl) HRD1.out (by rfl) (bytesV_one _) (by omega) ?_); intro v' w5 k1 k2; obtain ⟨pv, cv, rfl⟩ := Sl.form k1; have HS5 := Lib.hid (k1.base_le (base' := w.heap.size) HW2.out.size); have HB5 := Lib.hid (HW2.out.drew.step k2); have HH5 := Lib.hid ((k2.block g (Array.getElem?_eq_some_iff.1 HHB.out).1).trans HHB.out); have HX5 := Lib.hid ((k2.block _ (Array.getElem?_eq_some_iff.1 HX2.out).1).trans HX2.out); have HSS5 := Lib.hid (HSS.out.keep fun k e => k2.block k (HSS.out.lt k e).2); have c45 : w5.cell? ⟨g, 4, none⟩ = some (.slice (some ⟨gb, ob, none⟩) N N) := (by simp [World.cell?, HH5.out, logV]); have f45 : w5.frozen? ⟨g, 4, none⟩ = false := (by simp [World.frozen?, HH5.out]); clear k1 k2))
    all_goals (
      obtain ⟨W6, hW6⟩ : ∃ W6, w5.setCell ⟨g, 4, none⟩ (.slice pv (0) cv) = W6 := ⟨_, rfl⟩
      rw [hW6]
      have hgW : g ≠ w.heap.size := by omega
      have HH6 : Hid (W6.heap[g]? = some (.cells ((logV L b (.slice (some ⟨gb, ob, none⟩) N N) vs).setIfInBounds 4 (.slice pv (0) cv)) 64 (0, 0))) := Lib.hid (by rw [← hW6]; exact heap_set HH5.out _)
      have c56 : W6.cell? ⟨g, 5, none⟩ = some vs := by simp [World.cell?, HH6.out, logV]
      have HX6 : Hid (W6.heap[w.heap.size]? = some (.cells #[.int .u64 x] 22 (0, 0))) := Lib.hid (by rw [← hW6, Below.heap_setCell _ _ _ _ (by show w.heap.size ≠ g; omega)]; exact HX5.out)
      have HS6 : Hid (Sl W6 0 22 1 vs L.starts.length (u64V L.starts)) := Lib.hid (HSS5.out.keep fun k e => by
        rw [← hW6]
        exact Below.heap_setCell _ ⟨g, 4, none⟩ _ k (fun e2 => HD2.out (by simp at e2; subst e2; simp [ownsOf, e])))
      have HDL := Lib.hid (delf_any W6 vs L.starts HS6.out HST.out HSL.out w.heap.size x (cell_of_row _ _ 0 _ _ _ HX6.out) HBN.out)
      have HW6 := Lib.hid hW6
      clear hW6 c45 f45 c42 c62 cx2 wd y0 y1
      unfold delF at HDL
      go_wp2_with fail
      refine HDL.out.mono ?_
      rintro e w7 ⟨vs7, rfl, k1, k2, k3⟩
      obtain ⟨nl, hnl⟩ : ∃ nl, (L.starts.drop (PLog.rank L.starts x)).length = nl := ⟨_, rfl⟩
      rw [hnl] at k1
      obtain ⟨p7, cv7, rfl⟩ := Sl.form k1
      have HNL := Lib.hid hnl
      have HS7 := Lib.hid k1
      have HO7 := Lib.hid k2
      have HT7 := Lib.hid k3
      have HH7 : Hid (w7.heap[g]? = some (.cells ((logV L b (.slice (some ⟨gb, ob, none⟩) N N) vs).setIfInBounds 4 (.slice pv (0) cv)) 64 (0, 0))) := Lib.hid ((k3.block g (Array.getElem?_eq_some_iff.1 HH6.out).1 HD2.out).trans HH6.out)
      have HX7 : Hid (w7.heap[w.heap.size]? = some (.cells #[.int .u64 x] 22 (0, 0))) := Lib.hid ((k3.block _ (Array.getElem?_eq_some_iff.1 HX6.out).1 HBN.out).trans HX6.out)
      have c57 : w7.cell? ⟨g, 5, none⟩ = some vs := by simp [World.cell?, HH7.out, logV]
      have f57 : w7.frozen? ⟨g, 5, none⟩ = false := by simp [World.frozen?, HH7.out]
      have HH8 : Hid ((w7.setCell ⟨g, 5, none⟩ (.slice p7 nl cv7)).heap[g]? = some (.cells (((logV L b (.slice (some ⟨gb, ob, none⟩) N N) vs).setIfInBounds 4 (.slice pv (0) cv)).setIfInBounds 5 (.slice p7 nl cv7)) 64 (0, 0))) := Lib.hid (heap_set HH7.out _)
      have c68 : (w7.setCell ⟨g, 5, none⟩ (.slice p7 nl cv7)).cell? ⟨g, 6, none⟩ = some (.int .u64 L.first) := by rw [cell_of_row _ _ 6 _ _ _ HH8.out]; simp [logV]
      have f68 : (w7.setCell ⟨g, 5, none⟩ (.slice p7 nl cv7)).frozen? ⟨g, 6, none⟩ = false := frozen_free HH8.out (Free.none _) (by simp [logV])
      have cx8 : (w7.setCell ⟨g, 5, none⟩ (.slice p7 nl cv7)).cell? ⟨w.heap.size, 0, none⟩ = some (.int .u64 x) := by
        have : (w7.setCell ⟨g, 5, none⟩ (.slice p7 nl cv7)).heap[w.heap.size]? = some (.cells #[.int .u64 x] 22 (0, 0)) := by rw [Below.heap_setCell _ _ _ _ (by show w.heap.size ≠ g; omega)]; exact HX7.out
        exact cell_of_row _ _ 0 _ _ _ this
      clear k1 k2 k3 c56 hnl
      go_wp2
      go_ret
      rw [HQ.out]
      have hE := keep_end (L2 := PLog.kept L x) (x := x) HH5.out hglt HB5.out (by rw [HF.out.1]; exact (len_nil0 HDE.out HS5.out)) (by rw [HF.out.2.1, HNL.out]; exact HS7.out) HF.out.2.2.2 HO7.out HD2.out HVL.out (by rw [HW6.out]; exact HT7.out) HOWN.out (by
        have e := HF.out.2.2.1
        simp [logV, e]
        exact ⟨rfl, rfl, rfl, rfl, rfl, rfl⟩)
      obtain ⟨own', e1, e2⟩ := hE
      exact ⟨own', rfl, e1, e2⟩)
  · have HRD1 : Hid (RdS W2.drew 1 (.slice (some ⟨gb, ob + d, none⟩) (N - d) (cb - d)) (N - d) (bytesV (L.bytes.drop d))) := Lib.hid q3
    have y1 : (d : Int) ≤ N := by omega
    have y2 : (d : Int) ≤ cb := by omega
    have y0 : (0 : Int) ≤ d := by omega
    clear q3
    go_wp2_with fail
    go_region_law (first
      | (go_simp; (with_reducible refine (HBX.out _).mono ?_); rintro e w4 ⟨rfl, rfl⟩; go_wp2_with fail)
      | (go_simp; (with_reducible refine (HBF.out _).mono ?_); rintro e w4 ⟨rfl, rfl⟩; go_wp2_with fail)
      | ((refine step_append_nils elem_u8 (by rfl) (by rfl) (by rfl) HRD1.out (by rfl) (bytesV_one _) (by omega) ?_); intro v' w5 k1 k2; obtain ⟨pv, cv, rfl⟩ := Sl.form k1; have HS5 := Lib.hid (k1.base_le (base' := w.heap.size) HW2.out.size); have HB5 := Lib.hid (HW2.out.drew.step k2); have HH5 := Lib.hid ((k2.block g (Array.getElem?_eq_some_iff.1 HHB.out).1).trans HHB.out); have HX5 := Lib.hid ((k2.block _ (Array.getElem?_eq_some_iff.1 HX2.out).1).trans HX2.out); have HSS5 := Lib.hid (HSS.out.keep fun k e => k2.block k (HSS.out.lt k e).2); have c45 : w5.cell? ⟨g, 4, none⟩ = some (.slice (some ⟨gb, ob, none⟩) N cb) := (by simp [World.cell?, HH5.out, logV]); have f45 : w5.frozen? ⟨g, 4, none⟩ = false := (by simp [World.frozen?, HH5.out]); clear k1 k2))
    all_goals (
      obtain ⟨W6, hW6⟩ : ∃ W6, w5.setCell ⟨g, 4, none⟩ (.slice pv (N - d) cv) = W6 := ⟨_, rfl⟩
      rw [hW6]
      have hgW : g ≠ w.heap.size := by omega
      have HH6 : Hid (W6.heap[g]? = some (.cells ((logV L b (.slice (some ⟨gb, ob, none⟩) N cb) vs).setIfInBounds 4 (.slice pv (N - d) cv)) 64 (0, 0))) := Lib.hid (by rw [← hW6]; exact heap_set HH5.out _)
      have c56 : W6.cell? ⟨g, 5, none⟩ = some vs := by simp [World.cell?, HH6.out, logV]
      have HX6 : Hid (W6.heap[w.heap.size]? = some (.cells #[.int .u64 x] 22 (0, 0))) := Lib.hid (by rw [← hW6, Below.heap_setCell _ _ _ _ (by show w.heap.size ≠ g; omega)]; exact HX5.out)
      have HS6 : Hid (Sl W6 0 22 1 vs L.starts.length (u64V L.starts)) := Lib.hid (HSS5.out.keep fun k e => by
        rw [← hW6]
        exact Below.heap_setCell _ ⟨g, 4, none⟩ _ k (fun e2 => HD2.out (by simp at e2; subst e2; simp [ownsOf, e])))
      have HDL := Lib.hid (delf_any W6 vs L.starts HS6.out HST.out HSL.out w.heap.size x (cell_of_row _ _ 0 _ _ _ HX6.out) HBN.out)
      have HW6 := Lib.hid hW6
      clear hW6 c45 f45 c42 c62 cx2 wd y0 y1 y2
      unfold delF at HDL
      go_wp2_with fail
      refine HDL.out.mono ?_
      rintro e w7 ⟨vs7, rfl, k1, k2, k3⟩
      obtain ⟨nl, hnl⟩ : ∃ nl, (L.starts.drop (PLog.rank L.starts x)).length = nl := ⟨_, rfl⟩
      rw [hnl] at k1
      obtain ⟨p7, cv7, rfl⟩ := Sl.form k1
      have HNL := Lib.hid hnl
      have HS7 := Lib.hid k1
      have HO7 := Lib.hid k2
      have HT7 := Lib.hid k3
      have HH7 : Hid (w7.heap[g]? = some (.cells ((logV L b (.slice (some ⟨gb, ob, none⟩) N cb) vs).setIfInBounds 4 (.slice pv (N - d) cv)) 64 (0, 0))) := Lib.hid ((k3.block g (Array.getElem?_eq_some_iff.1 HH6.out).1 HD2.out).trans HH6.out)
      have HX7 : Hid (w7.heap[w.heap.size]? = some (.cells #[.int .u64 x] 22 (0, 0))) := Lib.hid ((k3.block _ (Array.getElem?_eq_some_iff.1 HX6.out).1 HBN.out).trans HX6.out)
      have c57 : w7.cell? ⟨g, 5, none⟩ = some vs := by simp [World.cell?, HH7.out, logV]
      have f57 : w7.frozen? ⟨g, 5, none⟩ = false := by simp [World.frozen?, HH7.out]
      have HH8 : Hid ((w7.setCell ⟨g, 5, none⟩ (.slice p7 nl cv7)).heap[g]? = some (.cells (((logV L b (.slice (some ⟨gb, ob, none⟩) N cb) vs).setIfInBounds 4 (.slice pv (N - d) cv)).setIfInBounds 5 (.slice p7 nl cv7)) 64 (0, 0))) := Lib.hid (heap_set HH7.out _)
      have c68 : (w7.setCell ⟨g, 5, none⟩ (.slice p7 nl cv7)).cell? ⟨g, 6, none⟩ = some (.int .u64 L.first) := by rw [cell_of_row _ _ 6 _ _ _ HH8.out]; simp [logV]
      have f68 : (w7.setCell ⟨g, 5, none⟩ (.slice p7 nl cv7)).frozen? ⟨g, 6, none⟩ = false := frozen_free HH8.out (Free.none _) (by simp [logV])
      have cx8 : (w7.setCell ⟨g, 5, none⟩ (.slice p7 nl cv7)).cell? ⟨w.heap.size, 0, none⟩ = some (.int .u64 x) := by
        have : (w7.setCell ⟨g, 5, none⟩ (.slice p7 nl cv7)).heap[w.heap.size]? = some (.cells #[.int .u64 x] 22 (0, 0)) := by rw [Below.heap_setCell _ _ _ _ (by show w.heap.size ≠ g; omega)]; exact HX7.out
        exact cell_of_row _ _ 0 _ _ _ this
      clear k1 k2 k3 c56 hnl
      go_wp2
      go_ret
      rw [HQ.out]
      have hE := keep_end (L2 := PLog.kept L x) (x := x) HH5.out hglt HB5.out (by rw [HF.out.1]; exact (by rw [List.length_drop, HNN.out]; exact HS5.out)) (by rw [HF.out.2.1, HNL.out]; exact HS7.out) HF.out.2.2.2 HO7.out HD2.out HVL.out (by rw [HW6.out]; exact HT7.out) HOWN.out (by
        have e := HF.out.2.2.1
        simp [logV, e]
        exact ⟨rfl, rfl, rfl, rfl, rfl, rfl⟩)
      obtain ⟨own', e1, e2⟩ := hE
      exact ⟨own', rfl, e1, e2⟩)
theorem lkeep_any {g b : Nat} {L : PLog.Lg} {own : List Nat} (w : World) (h : IsLog w g L b own) (x : Nat) :
    Calls Try.prog 13 #[.pointer (some ⟨g, 0, none⟩), .int .u64 x] w (LogPost (.int .i64 (PLog.keep L x).2) g (PLog.keep L x).1 b own w) := by
  by_cases hx : x < L.first ∨ L.forced < x ∨ (PLog.isAt L x = false ∧ x ≠ L.next)
  · exact lkeep_no w h x hx
  · refine lkeep_yes w h x (by omega) (by omega) ?_
    cases he : PLog.isAt L x with
    | true => exact .inl rfl
    | false =>
      right
      apply Classical.byContradiction
      intro hn
      exact hx (.inr (.inr ⟨he, hn⟩))
end Go.Proofs.Ytjnggldalggfnaa
