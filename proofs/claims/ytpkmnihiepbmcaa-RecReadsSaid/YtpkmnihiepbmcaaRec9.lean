/-
  Records: May, Encode of the program; copied.
-/
import Derived.Test.YtpkmnihiepbmcaaRec3
import Derived.Test.YtpkmnihiepbmcaaRec7
import Derived.Test.YtpkmnihiepbmcaaRec8
import Derived.Handy
namespace Go.Proofs.Ytpkmnihiepbmcaa
open Go.RowKit
open PRec (Rec Drt Atx)
theorem ret_si {a b : ByteArray} {x y : Int} (h : a = b) (h2 : x = y) : Ending.returned (.tuple #[.string a, .int .i64 x]) = .returned (.tuple #[.string b, .int .i64 y]) := by rw [h, h2]
theorem has_any (r : Rec) (vd vt : Value) (w : World) (h : RecIn w r vd vt) : Calls Try.prog 24 #[rv r vd vt] w fun e w' => e = .returned (rv (PRec.has r) (hv r vd) (hv r vt)) ∧ Below w.heap.size w w' := by
  by_cases h2 : r.kind = 2
  · exact has_2 r h2 vd vt w h
  by_cases h6 : r.kind = 6
  · exact has_6 r h6 vd vt w h
  by_cases h3 : r.kind = 3
  · exact has_3 r h3 vd vt w h
  by_cases h4 : r.kind = 4
  · exact has_4 r h4 vd vt w h
  by_cases h8 : r.kind = 8
  · exact has_8 r h8 vd vt w h
  exact has_0 r ⟨h2, h6, h3, h4, h8⟩ vd vt w h

set_option maxRecDepth 20000 in
set_option maxHeartbeats 4000000 in
theorem may9_any (r : Rec) (hok : r.Ok) (hDl : r.dirty.length ≤ 1000) (hTl : r.txns.length ≤ 1000) (hBl : r.body.length ≤ 1000000) (vd vt : Value) (w : World) (h : RecIn w r vd vt) : Calls Try.prog 13 #[rv r vd vt] w fun e w' => e = .returned (.bool (PRec.may r)) ∧ Below w.heap.size w w' := by
  have HIN := Lib.hid h
  have HBA := Lib.hid (fun W (hW : RecIn W r vd vt) => bytes_any r hok hDl hTl hBl vd vt W hW)
  have HHA := Lib.hid (fun W (hW : RecIn W r vd vt) => has_any r vd vt W hW)
  have HSA := Lib.hid (fun W (hW : RecIn W r vd vt) => same_any r (PRec.has r) vd vt (hv r vd) (hv r vt) W hW hW.has)
  have hmv : Hid (PRec.may r = ((PRec.bytes r).2 && decide (r = PRec.has r))) := Lib.hid rfl
  obtain ⟨pd, cd, rfl, hd1, hd2⟩ := h.1.form
  obtain ⟨pt, ct, rfl, ht1, ht2⟩ := h.2.form
  clear h hok
  generalize PRec.has r = X at *
  generalize hv r (.slice pd r.dirty.length cd) = xd at *
  generalize hv r (.slice pt r.txns.length ct) = xt at *
  unfold rv at *
  have hN : (w.alloc (.cells #[.int .u8 r.kind, .int .u64 r.tx, .int .u64 r.prev, .int .u32 r.page, .int .u16 r.slot, .int .u64 r.next, .int .u64 r.number, .string ⟨r.body.toArray⟩, .slice pd r.dirty.length cd, .slice pt r.txns.length ct, .int .u64 r.ttx, .int .u64 r.tnum] 32)).heap[w.heap.size]? = some (.cells #[.int .u8 r.kind, .int .u64 r.tx, .int .u64 r.prev, .int .u32 r.page, .int .u16 r.slot, .int .u64 r.next, .int .u64 r.number, .string ⟨r.body.toArray⟩, .slice pd r.dirty.length cd, .slice pt r.txns.length ct, .int .u64 r.ttx, .int .u64 r.tnum] 32 (0, 0)) := heap_alloc_new w _
  have HB := Lib.hid ((Below.refl w.heap.size w).alloc (Nat.le_refl _) (.cells #[.int .u8 r.kind, .int .u64 r.tx, .int .u64 r.prev, .int .u32 r.page, .int .u16 r.slot, .int .u64 r.next, .int .u64 r.number, .string ⟨r.body.toArray⟩, .slice pd r.dirty.length cd, .slice pt r.txns.length ct, .int .u64 r.ttx, .int .u64 r.tnum] 32))
  go_enter Try.func13, Try.ntmps13
  go_wp2_with fail
  refine (HBA.out _ (HIN.out.step HB.out)).mono ?_
  rintro e w1 ⟨rfl, hb⟩
  have hlt := (Array.getElem?_eq_some_iff.1 hN).1
  replace hN := (hb.block _ hlt).trans hN
  replace HB := Lib.hid (HB.out.step hb)
  clear hb hlt
  clear HBA
  cases hb2 : (PRec.bytes r).2
  · have HR : Hid (PRec.may r = false) := Lib.hid (by rw [hmv.out, hb2]; rfl)
    clear hb2
    go_wp2_with fail
    refine wp_region_held_drew (S := (fun _ => True)) (by kernel_rfl) ?_ (fun hHeld => ?_)
    · ((try dsimp only); all_goals exact trivial)
    refine wpAnyH_take (i := 0) (v := ?_) (by simp only [List.getElem?_toArray, List.getElem?_cons_zero]; rfl) (by kernel_rfl) (by kernel_rfl) (by kernel_rfl) (by intro _ _ _ h; exact h) (Or.inl ⟨by kernel_rfl, ?_⟩) (by assumption) ?_
    rotate_left
    · ((intro w hSw; (try dsimp only at hSw); go_simp); (try (with_reducible rfl)))
    try simp only [Act.put, List.setIfInBounds_toArray, List.set_cons_zero, List.set_cons_succ]
    refine wpAnyH_take (i := 1) (v := ?_) (by simp only [List.getElem?_toArray, List.getElem?_cons_succ, List.getElem?_cons_zero]; rfl) (by kernel_rfl) (by kernel_rfl) (by kernel_rfl) (by intro _ _ _ h; exact h) (Or.inl ⟨by kernel_rfl, ?_⟩) (by assumption) ?_
    rotate_left
    · ((intro w hSw; (try dsimp only at hSw); go_simp); (try (with_reducible rfl)))
    try simp only [Act.put, List.setIfInBounds_toArray, List.set_cons_zero, List.set_cons_succ]
    refine wpAnyH_take (i := 2) (v := undef) (by simp only [List.getElem?_toArray, List.getElem?_cons_succ, List.getElem?_cons_zero]; rfl) (by kernel_rfl) (by kernel_rfl) (by kernel_rfl) (by intro _ _ _ h; exact h) (Or.inr ⟨by kernel_rfl, rfl⟩) (by assumption) ?_
    try simp only [Act.put, List.setIfInBounds_toArray, List.set_cons_zero, List.set_cons_succ]
    refine wpAnyH_take (i := 3) (v := undef) (by simp only [List.getElem?_toArray, List.getElem?_cons_succ, List.getElem?_cons_zero]; rfl) (by kernel_rfl) (by kernel_rfl) (by kernel_rfl) (by intro _ _ _ h; exact h) (Or.inr ⟨by kernel_rfl, rfl⟩) (by assumption) ?_
    try simp only [Act.put, List.setIfInBounds_toArray, List.set_cons_zero, List.set_cons_succ]
    refine wpAnyH_take (i := 4) (v := undef) (by simp only [List.getElem?_toArray, List.getElem?_cons_succ, List.getElem?_cons_zero]; rfl) (by kernel_rfl) (by kernel_rfl) (by kernel_rfl) (by intro _ _ _ h; exact h) (Or.inr ⟨by kernel_rfl, rfl⟩) (by assumption) ?_
    try simp only [Act.put, List.setIfInBounds_toArray, List.set_cons_zero, List.set_cons_succ]
    refine wpAnyH_take (i := 5) (v := undef) (by simp only [List.getElem?_toArray, List.getElem?_cons_succ, List.getElem?_cons_zero]; rfl) (by kernel_rfl) (by kernel_rfl) (by kernel_rfl) (by intro _ _ _ h; exact h) (Or.inr ⟨by kernel_rfl, rfl⟩) (by assumption) ?_
    try simp only [Act.put, List.setIfInBounds_toArray, List.set_cons_zero, List.set_cons_succ]
    refine wpAnyH_take (i := 6) (v := ?_) (by simp only [List.getElem?_toArray, List.getElem?_cons_succ, List.getElem?_cons_zero]; rfl) (by kernel_rfl) (by kernel_rfl) (by kernel_rfl) (by intro _ _ _ h; exact h) (Or.inl ⟨by kernel_rfl, ?_⟩) (by assumption) ?_
    rotate_left
    · ((intro w hSw; (try dsimp only at hSw); go_simp); (try (with_reducible rfl)))
    try simp only [Act.put, List.setIfInBounds_toArray, List.set_cons_zero, List.set_cons_succ]
    refine wpAnyH_take (i := 7) (v := ?_) (by simp only [List.getElem?_toArray, List.getElem?_cons_succ, List.getElem?_cons_zero]; rfl) (by kernel_rfl) (by kernel_rfl) (by kernel_rfl) (by intro _ _ _ h; exact h) (Or.inl ⟨by kernel_rfl, ?_⟩) (by assumption) ?_
    rotate_left
    · ((intro w hSw; (try dsimp only at hSw); go_simp); (try (with_reducible rfl)))
    try simp only [Act.put, List.setIfInBounds_toArray, List.set_cons_zero, List.set_cons_succ]
    refine wpAnyH_done (by kernel_rfl) ?_ _
    go_wp2
    go_ret
    exact ⟨ret_b HR.out.symm, HB.out.drew⟩
  · have HR : Hid (PRec.may r = decide (r = X)) := Lib.hid (by rw [hmv.out, hb2]; rfl)
    clear hb2
    replace hN := (show w1.drew.heap[w.heap.size]? = _ from hN)
    replace HB := Lib.hid HB.out.drew
    go_wp2_with fail
    go_region_held3 (fun w' => w'.cell? ⟨w.heap.size, 0, none⟩ = some (.int .u8 r.kind) ∧ w'.cell? ⟨w.heap.size, 1, none⟩ = some (.int .u64 r.tx) ∧ w'.cell? ⟨w.heap.size, 2, none⟩ = some (.int .u64 r.prev) ∧ w'.cell? ⟨w.heap.size, 3, none⟩ = some (.int .u32 r.page) ∧ w'.cell? ⟨w.heap.size, 4, none⟩ = some (.int .u16 r.slot) ∧ w'.cell? ⟨w.heap.size, 5, none⟩ = some (.int .u64 r.next) ∧ w'.cell? ⟨w.heap.size, 6, none⟩ = some (.int .u64 r.number) ∧ w'.cell? ⟨w.heap.size, 7, none⟩ = some (.string ⟨r.body.toArray⟩) ∧ w'.cell? ⟨w.heap.size, 8, none⟩ = some (.slice pd r.dirty.length cd) ∧ w'.cell? ⟨w.heap.size, 9, none⟩ = some (.slice pt r.txns.length ct) ∧ w'.cell? ⟨w.heap.size, 10, none⟩ = some (.int .u64 r.ttx) ∧ w'.cell? ⟨w.heap.size, 11, none⟩ = some (.int .u64 r.tnum))
      (first | exact box12h hN | go_keep)
      (first
        | (go_at_call 24; with_reducible refine (HHA.out _ (HIN.out.step HB.out)).mono ?_; rintro e w2 ⟨rfl, hb⟩; have hlt2 := (Array.getElem?_eq_some_iff.1 hN).1; replace hN := (hb.block _ hlt2).trans hN; replace HB := Lib.hid (HB.out.step hb); clear hb hlt2)
        | (go_at_call 14; with_reducible refine (HSA.out _ (HIN.out.step HB.out)).mono ?_; rintro e w2 ⟨rfl, hb⟩; have hlt2 := (Array.getElem?_eq_some_iff.1 hN).1; replace hN := (hb.block _ hlt2).trans hN; replace HB := Lib.hid (HB.out.step hb); clear hb hlt2))
    go_wp2
    go_ret
    exact ⟨ret_b HR.out.symm, HB.out⟩
set_option maxRecDepth 20000 in
set_option maxHeartbeats 4000000 in
theorem enc9_any (r : Rec) (hok : r.Ok) (hDl : r.dirty.length ≤ 1000) (hTl : r.txns.length ≤ 1000) (hBl : r.body.length ≤ 1000000) (vd vt : Value) (w : World) (h : RecIn w r vd vt) : Calls Try.prog 9 #[rv r vd vt] w fun e w' => e = .returned (.tuple #[.string ⟨(PRec.enc r).toArray⟩, .int .i64 (PRec.err r)]) ∧ Below w.heap.size w w' := by
  have HIN := Lib.hid h
  have HBA := Lib.hid (fun W (hW : RecIn W r vd vt) => bytes_any r hok hDl hTl hBl vd vt W hW)
  have HMA := Lib.hid (fun W (hW : RecIn W r vd vt) => may9_any r hok hDl hTl hBl vd vt W hW)
  have HE : Hid (PRec.enc r = if PRec.may r then (PRec.bytes r).1 else []) := Lib.hid rfl
  have HR : Hid (PRec.err r = if PRec.may r then 0 else 2) := Lib.hid rfl
  obtain ⟨pd, cd, rfl, hd1, hd2⟩ := h.1.form
  obtain ⟨pt, ct, rfl, ht1, ht2⟩ := h.2.form
  clear h hok
  unfold rv at *
  have hN : (w.alloc (.cells #[.int .u8 r.kind, .int .u64 r.tx, .int .u64 r.prev, .int .u32 r.page, .int .u16 r.slot, .int .u64 r.next, .int .u64 r.number, .string ⟨r.body.toArray⟩, .slice pd r.dirty.length cd, .slice pt r.txns.length ct, .int .u64 r.ttx, .int .u64 r.tnum] 32)).heap[w.heap.size]? = some (.cells #[.int .u8 r.kind, .int .u64 r.tx, .int .u64 r.prev, .int .u32 r.page, .int .u16 r.slot, .int .u64 r.next, .int .u64 r.number, .string ⟨r.body.toArray⟩, .slice pd r.dirty.length cd, .slice pt r.txns.length ct, .int .u64 r.ttx, .int .u64 r.tnum] 32 (0, 0)) := heap_alloc_new w _
  have HB := Lib.hid ((Below.refl w.heap.size w).alloc (Nat.le_refl _) (.cells #[.int .u8 r.kind, .int .u64 r.tx, .int .u64 r.prev, .int .u32 r.page, .int .u16 r.slot, .int .u64 r.next, .int .u64 r.number, .string ⟨r.body.toArray⟩, .slice pd r.dirty.length cd, .slice pt r.txns.length ct, .int .u64 r.ttx, .int .u64 r.tnum] 32))
  go_enter Try.func9, Try.ntmps9
  go_wp2_with fail
  refine (HMA.out _ (HIN.out.step HB.out)).mono ?_
  rintro e w1 ⟨rfl, hb⟩
  have hlt := (Array.getElem?_eq_some_iff.1 hN).1
  replace hN := (hb.block _ hlt).trans hN
  replace HB := Lib.hid (HB.out.step hb)
  clear hb hlt
  clear HMA
  cases hm : PRec.may r
  · rw [hm] at HE HR
    clear hm
    go_wp2
    go_ret2
    exact ⟨ret_si (by rw [HE.out]; rfl) (by rw [HR.out]; rfl), HB.out⟩
  · rw [hm] at HE HR
    clear hm
    obtain ⟨c0, c1, c2, c3, c4, c5, c6, c7, c8, c9, c10, c11⟩ := box12h hN
    go_wp2_with fail
    refine (HBA.out _ (HIN.out.step HB.out)).mono ?_
    rintro e w2 ⟨rfl, hb⟩
    have hlt := (Array.getElem?_eq_some_iff.1 hN).1
    replace hN := (hb.block _ hlt).trans hN
    replace HB := Lib.hid (HB.out.step hb)
    clear hb hlt
    clear c0 c1 c2 c3 c4 c5 c6 c7 c8 c9 c10 c11
    go_wp2
    go_ret2
    exact ⟨ret_si (by rw [HE.out]; rfl) (by rw [HR.out]; rfl), HB.out⟩
end Go.Proofs.Ytpkmnihiepbmcaa
