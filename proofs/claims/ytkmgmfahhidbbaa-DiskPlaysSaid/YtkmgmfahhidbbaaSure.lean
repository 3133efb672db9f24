/-
  A disk's Sure.
-/
import Derived.Test.YtkmgmfahhidbbaaBuilder
namespace Go.Proofs.Ytkmgmfahhidbbaa
open Go.RowKit
set_option maxRecDepth 100000 in
set_option maxHeartbeats 2000000 in
theorem sure_any {b : Nat} {D : PDsk.Dsk} {own : List Nat} (w : World) (h : IsDisk w b D own) : Calls Try.prog 17 #[.pointer (some ⟨b, 0, none⟩)] w fun e w' => e = .returned (.string ⟨D.sure.flatten.toArray⟩) ∧ Below w.heap.size w w' := by
  have H := Lib.hid h
  obtain ⟨hok, gs, os, cs, vl, hb, hsu, hl, h1, h2, h3, hown⟩ := h
  have hc0 : w.cell? ⟨b, 0, none⟩ = some (.slice (some ⟨gs, os, none⟩) D.sure.length cs) := by simp [World.cell?, hb]
  have hblt : b < w.heap.size := (Array.getElem?_eq_some_iff.1 hb).1
  have hn1 := hok.1
  have hn2 := hok.2.1
  have hfl : ∀ i, i ≤ D.sure.length → ((D.sure.take i).flatten).length = i * 128 := by
    intro i hi
    have := flat_len (fun x : List UInt8 => x) 128 (D.sure.take i) (fun x hx => hok.2.2.1 x (List.mem_of_mem_take hx))
    rw [List.flatMap_id'] at this
    rw [this, List.length_take, Nat.min_eq_left hi]
  have HFL := Lib.hid hfl
  have HSU := Lib.hid hsu
  have HK := Lib.hid hok
  clear hok hb hsu hl h1 h2 h3 hown hfl
  have hB0 : Below w.heap.size w (w.alloc (.cells #[.pointer none, .slice none 0 0] 72)) := (Below.refl _ w).alloc (Nat.le_refl _) _
  have hI0 := Lib.fresh_isBuilder 72 5 w
  have HB0 := Lib.hid hB0
  have HI0 := Lib.hid hI0
  have hcA : (w.alloc (.cells #[.pointer none, .slice none 0 0] 72)).cell? ⟨b, 0, none⟩ = _ := (hB0.cell (p := ⟨b, 0, none⟩) hblt).trans hc0
  clear hB0 hI0
  go_enter Try.func17, Try.ntmps17
  go_wp2_with fail
  refine (none_any _ H.out).mono ?_; rintro e w1 ⟨rfl, rfl⟩
  go_wp2
  go_loopw [12] (fun iv wr => ∃ i : Nat, i ≤ D.sure.length ∧ iv = .int .i64 i ∧ Hid (IsBld w.heap.size w.heap.size (bytesV (D.sure.take i).flatten) wr) ∧ Hid (Below w.heap.size w wr)) (fun iv _ => D.sure.length - (intOf iv).toNat)
  case atStart => exact ⟨0, by omega, rfl, HI0, HB0⟩
  case round =>
    obtain ⟨i, hi, rfl, hI, hB⟩ := hrel
    clear hcA
    have hcr : wr.cell? ⟨b, 0, none⟩ = _ := (hB.out.cell (p := ⟨b, 0, none⟩) hblt).trans hc0
    have hsz := hB.out.size
    by_cases hlt : i < D.sure.length
    · have i0 : (0 : Int) ≤ i := by omega
      have i1 : (i : Int) < D.sure.length := by omega
      have hx := HK.out.2.2.1 D.sure[i] (List.getElem_mem hlt)
      have hpart := flat_part bytesV 128 D.sure i hlt (fun y hy => by rw [bytesV_length]; exact HK.out.2.2.1 y hy)
      have hr : ∀ w', Below w.heap.size wr w' → w'.rangeAt gs (os + i * 128) (bytesV D.sure[i]) := fun w' hb' => Sl.rangeAt ((HSU.out.keep fun k e => (hB.out.trans hb').block k (HSU.out.lt k e).2)) hpart
      have hstep : Hid (bytesV (D.sure.take (i + 1)).flatten = bytesV (D.sure.take i).flatten ++ bytesV D.sure[i]) := Lib.hid (by
        rw [List.take_succ_eq_append_getElem hlt, List.flatten_append, bytesV_append]; simp)
      have hlen : (bytesV (D.sure.take i).flatten).length + 128 ≤ 140737488355328 := by rw [bytesV_length, HFL.out i hi]; omega
      have HX := Lib.hid hx
      have HR := Lib.hid hr
      have HLEN := Lib.hid hlen
      clear hx hpart hr hlen
      generalize D.sure[i] = x at *
      go_wp2_with fail
      refine (bwrite_any w.heap.size w.heap.size _ gs (os + i * 128) 128 _ x HX.out _ hI.out HR.out HLEN.out hsz).mono ?_
      rintro e w2 ⟨rfl, hI2, hb2⟩
      have HI2 : Hid (IsBld w.heap.size w.heap.size (bytesV (D.sure.take (i + 1)).flatten) w2) := Lib.hid (by rw [hstep.out]; exact .inr hI2)
      have HB2 := Lib.hid (hB.out.trans hb2)
      clear hI2 hb2
      go_wp2
      exact ⟨⟨i + 1, by omega, by go_num, HI2, HB2⟩, by simp [intOf]; omega⟩
    · have hil : i = D.sure.length := by omega
      subst hil
      have hI2 := hI.out
      rw [List.take_length] at hI2
      have hne : D.sure.flatten ≠ [] := by
        intro e
        have := HFL.out D.sure.length (Nat.le_refl _)
        rw [List.take_length, e] at this
        simp at this
        omega
      have HI2 := Lib.hid hI2
      have HNE := Lib.hid hne
      clear hI2 hne
      go_wp2_with fail
      refine (bstring_any w.heap.size w.heap.size D.sure.flatten _ HI2.out HNE.out).mono ?_
      rintro e w2 ⟨rfl, hb2⟩
      go_wp2
      go_ret
      exact ⟨rfl, hB.out.trans hb2⟩
end Go.Proofs.Ytkmgmfahhidbbaa
