/-
  The document's disk: Write.
-/
import Derived.Test.YtkmgmfahhidbbaaRef04b
namespace Go.Proofs.Ytkmgmfahhidbbaa
open Go.RowKit
theorem elem_rw : ElemT Try.prog 52 86 2 24 := ElemT.mk' (z := .agg #[.int .i64 0, .string ByteArray.empty]) Try.underlying52 (by kernel_rfl) (by simp [Value.cells]) (by decide)
theorem rwrite_end {w1 W w2 : World} {b gs os cs : Nat} {D : PDsk.Dsk} {v v2 : Value} {q : Nat × List UInt8} (hok : D.Ok) (hb : w1.heap[b]? = some (.cells #[.slice (some ⟨gs, os, none⟩) D.sure.length cs, v, .int .i64 D.fuse] 54 (0, 0)))
    (hsu : Sl w1 0 9 1 (.slice (some ⟨gs, os, none⟩) D.sure.length cs) D.sure.length (refS D.sure)) (hl : Sl w1 0 86 2 v D.loose.length (refL D.loose)) (e1 : gs ≠ b) (e2 : b ∉ ownsOf v) (e3 : gs ∉ ownsOf v)
    (hW : Below w1.heap.size w1 W) (hgr : W.grownBy w2 v.ownBlock) (hl2 : Sl w2 0 86 2 v2 (D.loose.length + 1) (refL D.loose ++ refW q)) (hown2 : ∀ k, v2.ownBlock = some k → v.ownBlock = some k ∨ W.heap.size ≤ k) (hq1 : q.1 < D.sure.length) (hq2 : q.2.length = 128) :
    IsRef (w2.setCell ⟨b, 1, none⟩ v2) b { D with loose := D.loose ++ [q] } (b :: gs :: ownsOf v2) ∧ Stepped w1 (w2.setCell ⟨b, 1, none⟩ v2) (b :: gs :: ownsOf v) (b :: gs :: ownsOf v2) ∧ w2.heap[b]? = w1.heap[b]? := by
  have hlt : b < w1.heap.size := (Array.getElem?_eq_some_iff.1 hb).1
  have hb0 : w2.heap[b]? = w1.heap[b]? := (hgr.block b (Nat.lt_of_lt_of_le hlt hW.size) (fun e => e2 (by unfold ownsOf; rw [← e]; simp))).trans (hW.block b hlt)
  have hb2 := hb0.trans hb
  have hglt : gs < w1.heap.size := (hsu.lt gs rfl).2
  have hkb : ∀ k, v2.ownBlock = some k → k ≠ b ∧ k ≠ gs := by
    intro k hk
    rcases hown2 k hk with h | h
    · exact ⟨fun e => e2 (by unfold ownsOf; rw [h, e]; simp), fun e => e3 (by unfold ownsOf; rw [h, e]; simp)⟩
    · have := hW.size
      exact ⟨by omega, by omega⟩
  refine ⟨⟨⟨hok.1, hok.2.1, hok.2.2.1, ?_, hok.2.2.2.2⟩, gs, os, cs, v2, ?_, ?_, ?_, e1, ?_, ?_, rfl⟩, ⟨⟨hgr.os.trans hW.os, hgr.tape.trans hW.tape, hgr.output.trans hW.output, ?_, ?_⟩, ?_⟩, hb0⟩
  · intro p hp
    rcases List.mem_append.1 hp with hp | hp
    · exact hok.2.2.2.1 p hp
    · rw [List.mem_singleton.1 hp]; exact ⟨hq1, hq2⟩
  · rw [heap_set hb2]; rfl
  · refine hsu.keep fun k e => ?_
    simp [Value.ownBlock] at e
    subst e
    refine (Below.heap_setCell _ _ _ _ e1).trans ((hgr.block gs (Nat.lt_of_lt_of_le hglt hW.size) (fun e => e3 (by unfold ownsOf; rw [← e]; simp))).trans (hW.block gs hglt))
  · have e4 : refL (D.loose ++ [q]) = refL D.loose ++ refW q := by simp [refL]
    show Sl _ 0 86 2 v2 (D.loose ++ [q]).length (refL (D.loose ++ [q]))
    rw [e4, List.length_append, List.length_singleton]
    exact hl2.keep fun k e => Below.heap_setCell _ _ _ _ (hkb k e).1
  · unfold ownsOf; intro hm; simp at hm; exact (hkb b hm).1 rfl
  · unfold ownsOf; intro hm; simp at hm; exact (hkb gs hm).2 rfl
  · have h1 := hW.size
    have h2 := hgr.size
    show w1.heap.size ≤ (w2.setCell _ _).heap.size
    simp; omega
  · intro k hk hn
    simp only [List.mem_cons, not_or] at hn
    refine (Below.heap_setCell _ _ _ _ hn.1).trans ((hgr.block k (Nat.lt_of_lt_of_le hk hW.size) (fun e => hn.2.2 (by unfold ownsOf; rw [← e]; simp))).trans (hW.block k hk))
  · intro k hk
    simp only [List.mem_cons] at hk ⊢
    rcases hk with rfl | rfl | hk
    · exact .inl (.inl rfl)
    · exact .inl (.inr (.inl rfl))
    · unfold ownsOf at hk
      rcases hown2 k (by simpa using hk) with h | h
      · left; right; right; unfold ownsOf; rw [h]; simp
      · right; have := hW.size; omega
def RefPost (v : Value) (b : Nat) (D' : PDsk.Dsk) (own : List Nat) (w : World) (e : Ending) (w' : World) : Prop := ∃ own', e = .returned v ∧ IsRef w' b D' own' ∧ Stepped w w' own own'
theorem rwrite_ok {b : Nat} {D : PDsk.Dsk} {own : List Nat} (w : World) (h : IsRef w b D own) (hf : D.fuse ≠ 0) (k : Nat) (hk : k < D.sure.length) (s : ByteArray) (hs : s.size = 128) (hll : D.loose.length ≤ 1000000) :
    Calls Try.prog 38 #[.pointer (some ⟨b, 0, none⟩), .int .i64 k, .string s] w (RefPost (.int .i64 0) b { D with loose := D.loose ++ [(k, s.data.toList)], fuse := PDsk.burn D.fuse } own w) := by
  have H := Lib.hid h
  have h' := h
  obtain ⟨hok, gs, os, cs, vl, hb, hsu, hl, h1, h2, h3, hown⟩ := h'
  have hc0 : w.cell? ⟨b, 0, none⟩ = some (.slice (some ⟨gs, os, none⟩) D.sure.length cs) := by simp [World.cell?, hb]
  have hc2 : w.cell? ⟨b, 2, none⟩ = some (.int .i64 D.fuse) := by simp [World.cell?, hb]
  have hf' : (D.fuse == 0) = false := by rw [beq_eq_false_iff_ne]; exact hf
  have k1 : ¬ (k : Int) < 0 := by omega
  have k2 : (k : Int) < D.sure.length := by omega
  have k3 : ¬ (D.sure.length : Int) ≤ k := by omega
  have hk0 := hok.2.1
  have hs' : s.data.toList.length = 128 := by rw [lsize]; exact hs
  have hsz : ((s.size : Int) != 128) = false := by rw [bne_eq_false_iff_eq]; omega
  clear hb hsu hl h1 h2 h3 hown h hok hf
  go_enter Try.func38, Try.ntmps38
  go_wp2_with fail
  refine (rburn_any _ H.out).mono ?_; rintro e w1 ⟨rfl, hd, hst⟩
  clear hc0 hc2 hf'
  obtain ⟨hok, gs', os', cs', vl', hb, hsu, hl, h1, h2, h3, hown⟩ := hd
  dsimp only at hb hsu hl hok
  have hc1 : w1.cell? ⟨b, 1, none⟩ = some vl' := by simp [World.cell?, hb]
  have hblt : b < w1.heap.size := (Array.getElem?_eq_some_iff.1 hb).1
  obtain ⟨p, c, rfl⟩ := Sl.form hl
  have HB := Lib.hid hb
  have HSU := Lib.hid hsu
  have HOK := Lib.hid hok
  have HO := Lib.hid hown
  have HL := Lib.hid hl
  clear hb hsu hok hown hl
  go_wp2_with (at_builtin; (with_reducible apply wpList_append_sl elem_rw (HL.out.alloc _) [_, _]); (· rfl); (· rfl); (· rfl); (· rfl); (· rfl); (· exact news_alloc _ [_, _] _ _); (· intro u hu; simp at hu; rcases hu with rfl | rfl <;> rfl); (· unfold maxLen; omega); (· omega); (· simp); intro v' w2 hl2 hgr _ hown2; obtain ⟨p2, cc2, rfl⟩ := Sl.form hl2; have hend := Lib.hid (rwrite_end (D := { D with fuse := PDsk.burn D.fuse }) (q := (k, s.data.toList)) HOK.out HB.out HSU.out HL.out h1 h2 h3 ((Below.refl _ w1).alloc (Nat.le_refl _) _) hgr hl2 hown2 hk hs'); have hB2 := hend.out.2.2.trans HB.out; have hc2 : w2.cell? ⟨b, 1, none⟩ = some (.slice p D.loose.length c) := (by simp [World.cell?, hB2]); have hf2 : w2.frozen? ⟨b, 1, none⟩ = false := (by simp [World.frozen?, hB2]); clear hl2 hgr hown2 hB2)
  go_ret
  have hE := hend.out
  rw [← HO.out] at hE
  exact ⟨_, rfl, hE.1, hst.trans hE.2.1⟩
theorem rwrite_any {b : Nat} {D : PDsk.Dsk} {own : List Nat} (w : World) (h : IsRef w b D own) (k : Int) (s : ByteArray) (hs : s.size ≤ maxLen) (hk1 : -9223372036854775808 ≤ k) (hk2 : k ≤ 9223372036854775807) (hll : D.loose.length ≤ 1000000) :
    Calls Try.prog 38 #[.pointer (some ⟨b, 0, none⟩), .int .i64 k, .string s] w (RefPost (.int .i64 (PDsk.write D k s.data.toList).2) b (PDsk.write D k s.data.toList).1 own w) := by
  have H := Lib.hid h
  by_cases hf : D.fuse = 0
  · have hx : PDsk.write D k s.data.toList = (D, 40) := by unfold PDsk.write; rw [if_pos hf]
    rw [hx]
    obtain ⟨hok, gs, os, cs, vl, hb, hsu, hl, h1, h2, h3, hown⟩ := h
    have hc2 : w.cell? ⟨b, 2, none⟩ = some (.int .i64 D.fuse) := by simp [World.cell?, hb]
    rw [hf] at hc2
    clear hb hsu hl h1 h2 h3 hown hok hf hx
    go_enter Try.func38, Try.ntmps38
    go_wp2
    go_ret
    exact ⟨_, rfl, H.out, Stepped.refl _ _⟩
  by_cases hno : k < 0 ∨ (D.sure.length : Int) ≤ k ∨ s.size ≠ 128
  · have hx : PDsk.write D k s.data.toList = (D, 2) := by unfold PDsk.write; rw [if_neg hf, if_pos (by rw [lsize]; exact hno)]
    rw [hx]
    obtain ⟨hok, gs, os, cs, vl, hb, hsu, hl, h1, h2, h3, hown⟩ := h
    have hc0 : w.cell? ⟨b, 0, none⟩ = some (.slice (some ⟨gs, os, none⟩) D.sure.length cs) := by simp [World.cell?, hb]
    have hc2 : w.cell? ⟨b, 2, none⟩ = some (.int .i64 D.fuse) := by simp [World.cell?, hb]
    have hf' : (D.fuse == 0) = false := by rw [beq_eq_false_iff_ne]; exact hf
    unfold maxLen at hs
    have hk0 := hok.2.1
    clear hb hsu hl h1 h2 h3 hown hok hf hx
    have hcase : k < 0 ∨ (¬ k < 0 ∧ (D.sure.length : Int) ≤ k) ∨ (¬ k < 0 ∧ ¬ (D.sure.length : Int) ≤ k ∧ s.size ≠ 128) := by omega
    rcases hcase with e1 | ⟨e1, e2⟩ | ⟨e1, e2, e3⟩
    · clear hno
      go_enter Try.func38, Try.ntmps38
      go_wp2
      go_ret
      exact ⟨_, rfl, H.out, Stepped.refl _ _⟩
    · clear hno
      go_enter Try.func38, Try.ntmps38
      go_wp2
      go_ret
      exact ⟨_, rfl, H.out, Stepped.refl _ _⟩
    · have e4 : ((s.size : Int) != 128) = true := by rw [bne_iff_ne]; omega
      clear hno e3
      go_enter Try.func38, Try.ntmps38
      go_wp2
      go_ret
      exact ⟨_, rfl, H.out, Stepped.refl _ _⟩
  · have hx : PDsk.write D k s.data.toList = ({ D with loose := D.loose ++ [(k.toNat, s.data.toList)], fuse := PDsk.burn D.fuse }, 0) := by unfold PDsk.write; rw [if_neg hf, if_neg (by rw [lsize]; exact hno)]
    rw [hx]
    obtain ⟨j, rfl⟩ := Int.eq_ofNat_of_zero_le (show 0 ≤ k by omega)
    rw [Int.toNat_natCast]
    exact rwrite_ok w h hf j (by omega) s (by omega) hll
end Go.Proofs.Ytkmgmfahhidbbaa
