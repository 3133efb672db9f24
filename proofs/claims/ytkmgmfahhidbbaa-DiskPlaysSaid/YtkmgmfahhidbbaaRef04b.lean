/-
  The document's disk: Now, Read, Write.
-/
import Derived.Test.YtkmgmfahhidbbaaRef04
namespace PDsk
theorem find_rev {α : Type} (f : α → Bool) (a b : List α) (p : α) (hp : f p = true) (hn : b.reverse.find? f = none) : (a ++ p :: b).reverse.find? f = some p := by
  rw [List.reverse_append, List.reverse_cons, List.append_assoc, List.find?_append, hn]
  simp [hp]
theorem now_hit {D : Dsk} {k i : Nat} (hi : i < D.loose.length) (hh : ∀ j (h : j < D.loose.length), i < j → D.loose[j].1 ≠ k) (he : D.loose[i].1 = k) : now D k = D.loose[i].2 := by
  have hn : (D.loose.drop (i + 1)).reverse.find? (fun p => p.1 == k) = none := by
    rw [List.find?_eq_none]
    intro p hp
    rw [List.mem_reverse] at hp
    obtain ⟨j, hj, rfl⟩ := List.getElem_of_mem hp
    rw [List.getElem_drop]
    simpa using hh (i + 1 + j) (by rw [List.length_drop] at hj; omega) (by omega)
  have h := find_rev (fun p : Nat × List UInt8 => p.1 == k) (D.loose.take i) (D.loose.drop (i + 1)) D.loose[i] (by simpa using he) hn
  rw [← List.drop_eq_getElem_cons hi, List.take_append_drop] at h
  unfold now
  rw [h]
theorem now_miss {D : Dsk} {k : Nat} (hh : ∀ j (h : j < D.loose.length), D.loose[j].1 ≠ k) : now D k = D.sure.getD k [] := by
  have hn : D.loose.reverse.find? (fun p => p.1 == k) = none := by
    rw [List.find?_eq_none]
    intro p hp
    rw [List.mem_reverse] at hp
    obtain ⟨j, hj, rfl⟩ := List.getElem_of_mem hp
    simpa using hh j hj
  unfold now
  rw [hn]
end PDsk
namespace Go.Proofs.Ytkmgmfahhidbbaa
open Go.RowKit
theorem refL_length (l : List (Nat × List UInt8)) : (refL l).length = l.length * 2 := by
  induction l with
  | nil => rfl
  | cons p l ih => show (refW p ++ refL l).length = _; rw [List.length_append, ih, List.length_cons]; simp [refW]; omega
theorem refL_at (l : List (Nat × List UInt8)) : ∀ i (h : i < l.length), (refL l)[2 * i]? = some (.int .i64 l[i].1) ∧ (refL l)[2 * i + 1]? = some (refT l[i].2) := by
  induction l with
  | nil => intro i h; simp at h
  | cons p l ih =>
    intro i h
    cases i with
    | zero => exact ⟨rfl, rfl⟩
    | succ i =>
      have := ih i (by simpa using h)
      have e1 : 2 * (i + 1) = 2 * i + 1 + 1 := by omega
      rw [e1]
      exact this
theorem Sl.wcells {w : World} {base g off c : Nat} {l : List (Nat × List UInt8)} (h : Sl w base 86 2 (.slice (some ⟨g, off, none⟩) l.length c) l.length (refL l)) {i : Nat} (hi : i < l.length) :
    w.cell? ⟨g, off + i * 2, none⟩ = some (.int .i64 l[i].1) ∧ w.cell? ⟨g, off + i * 2 + 1, none⟩ = some (refT l[i].2) := by
  obtain ⟨e1, e2⟩ := refL_at l i hi
  rw [Nat.mul_comm] at e1 e2
  have hj1 : i * 2 < (refL l).length := by rw [refL_length]; omega
  have hj2 : i * 2 + 1 < (refL l).length := by rw [refL_length]; omega
  rw [List.getElem?_eq_getElem hj1] at e1
  rw [List.getElem?_eq_getElem hj2] at e2
  exact ⟨(h.cell hj1).trans e1, (h.cell hj2).trans e2⟩
def RNow (D : PDsk.Dsk) (k i : Nat) : Prop := ∀ j (h : j < D.loose.length), i ≤ j → D.loose[j].1 ≠ k
theorem rnow_any {b : Nat} {D : PDsk.Dsk} {own : List Nat} (w : World) (h : IsRef w b D own) (k : Nat) (hk : k < D.sure.length) : Calls Try.prog 43 #[.pointer (some ⟨b, 0, none⟩), .int .i64 k] w fun e w' => e = .returned (refT (PDsk.now D k)) ∧ w = w' := by
  obtain ⟨hok, gs, os, cs, vl, hb, hs, hl, h1, h2, h3, rfl⟩ := h
  have hc0 : w.cell? ⟨b, 0, none⟩ = some (.slice (some ⟨gs, os, none⟩) D.sure.length cs) := by simp [World.cell?, hb]
  have hc1 : w.cell? ⟨b, 1, none⟩ = some vl := by simp [World.cell?, hb]
  have hcs := hs.cell (j := k) (by rw [refS_length]; exact hk)
  have hlen := hok.2.1
  have hl63 : D.loose.length ≤ maxLen := by
    rcases hl.2 with ⟨_, h0⟩ | ⟨_, _, _, _, _, h0, _, _, _, h5, h6, _⟩
    · rw [h0]; exact Nat.zero_le _
    · omega
  unfold maxLen at hl63
  have hmiss : Hid (RNow D k 0 → (refS D.sure)[k]'(by rw [refS_length]; exact hk) = refT (PDsk.now D k)) := Lib.hid (fun hh => by
    rw [PDsk.now_miss (fun j hj => hh j hj (Nat.zero_le _))]
    simp [refS, List.getD, hk])
  obtain ⟨p, c, rfl⟩ := Sl.form hl
  have HL := Lib.hid hl
  have k0 : (0 : Int) ≤ k := by omega
  have k1 : (k : Int) < D.sure.length := by omega
  clear hb hs hl h1 h2 h3 hok
  generalize (refS D.sure)[k]'(by rw [refS_length]; exact hk) = sv at *
  go_enter Try.func43, Try.ntmps43
  go_wp2
  go_loopw [5] (fun iv wr => ∃ i : Nat, i ≤ D.loose.length ∧ iv = .int .i64 ((i : Int) - 1) ∧ wr = w ∧ Hid (RNow D k i)) (fun iv _ => (intOf iv + 1).toNat)
  case atStart => exact ⟨D.loose.length, Nat.le_refl _, rfl, rfl, Lib.hid (fun j h h' => by omega)⟩
  case round =>
    obtain ⟨i, hi, rfl, rfl, HR⟩ := hrel
    cases i with
    | zero =>
      have hm := Lib.hid (hmiss.out HR.out)
      clear hmiss HR
      go_wp2
      go_ret
      exact ⟨congrArg Ending.returned hm.out, rfl⟩
    | succ i =>
      obtain ⟨g, off, rfl⟩ : ∃ g off, p = some ⟨g, off, none⟩ := by
        rcases HL.out.shape with ⟨_, h0, _⟩ | ⟨g, o, c', h, _⟩
        · omega
        · simp at h; exact ⟨g, o, h.1⟩
      obtain ⟨e1, e2⟩ := Sl.wcells HL.out (i := i) (by omega)
      have i0 : (0 : Int) ≤ i := by omega
      have i1 : (i : Int) < D.loose.length := by omega
      have hii : ((i + 1 : Nat) : Int) - 1 = i := by omega
      by_cases hq : D.loose[i].1 = k
      · have hm := Lib.hid (PDsk.now_hit (by omega) (fun j h h' => HR.out j h (by omega)) hq)
        rw [hq] at e1
        unfold refT at e2
        clear hmiss HR hq
        go_wp2
        go_ret
        rw [hm.out]
        exact ⟨rfl, rfl⟩
      · have hne : ((D.loose[i].1 : Int) == k) = false := by rw [beq_eq_false_iff_ne]; omega
        have hnx : Hid (RNow D k i) := Lib.hid (fun j h h' => by
          by_cases e : j = i
          · subst e; exact hq
          · exact HR.out j h (by omega))
        clear hmiss HR hq
        go_wp2
        exact ⟨⟨i, by omega, by go_num, trivial, hnx⟩, by simp [intOf]⟩
theorem rread_any {b : Nat} {D : PDsk.Dsk} {own : List Nat} (w : World) (h : IsRef w b D own) (k : Int) (hk1 : -9223372036854775808 ≤ k) (hk2 : k ≤ 9223372036854775807) : Calls Try.prog 34 #[.pointer (some ⟨b, 0, none⟩), .int .i64 k] w fun e w' => e = .returned (.tuple #[refT (PDsk.read D k).1, .int .i64 (PDsk.read D k).2]) ∧ w = w' := by
  have H := Lib.hid h
  obtain ⟨hok, gs, os, cs, vl, hb, hs, hl, h1, h2, h3, rfl⟩ := h
  have hc0 : w.cell? ⟨b, 0, none⟩ = some (.slice (some ⟨gs, os, none⟩) D.sure.length cs) := by simp [World.cell?, hb]
  have hc2 : w.cell? ⟨b, 2, none⟩ = some (.int .i64 D.fuse) := by simp [World.cell?, hb]
  have hlen := hok.2.1
  clear hb hs hl h1 h2 h3 hok
  by_cases hf : D.fuse = 0
  · have hx : Hid (PDsk.read D k = ([], 40)) := Lib.hid (by unfold PDsk.read; rw [if_pos hf])
    rw [hf] at hc2
    clear hf
    go_enter Try.func34, Try.ntmps34
    go_wp2
    go_ret2
    rw [hx.out]
    exact ⟨rfl, rfl⟩
  have hf' : (D.fuse == 0) = false := by rw [beq_eq_false_iff_ne]; exact hf
  by_cases hlt : k < 0
  · have hx : Hid (PDsk.read D k = ([], 2)) := Lib.hid (by unfold PDsk.read; rw [if_neg hf, if_pos (.inl hlt)])
    clear hf
    go_enter Try.func34, Try.ntmps34
    go_wp2
    go_ret2
    rw [hx.out]
    exact ⟨rfl, rfl⟩
  by_cases hge : (D.sure.length : Int) ≤ k
  · have hx : Hid (PDsk.read D k = ([], 2)) := Lib.hid (by unfold PDsk.read; rw [if_neg hf, if_pos (.inr hge)])
    clear hf
    go_enter Try.func34, Try.ntmps34
    go_wp2
    go_ret2
    rw [hx.out]
    exact ⟨rfl, rfl⟩
  obtain ⟨j, rfl⟩ := Int.eq_ofNat_of_zero_le (show 0 ≤ k by omega)
  have hx : Hid (PDsk.read D (j : Int) = (PDsk.now D j, 0)) := Lib.hid (by unfold PDsk.read; rw [if_neg hf, if_neg (by omega), Int.toNat_natCast])
  have hj : j < D.sure.length := by omega
  clear hf
  go_enter Try.func34, Try.ntmps34
  go_wp2_with fail
  refine (rnow_any _ H.out j hj).mono ?_; rintro e w1 ⟨rfl, rfl⟩
  unfold refT
  go_wp2
  go_ret2
  rw [hx.out]
  exact ⟨rfl, rfl⟩
end Go.Proofs.Ytkmgmfahhidbbaa
