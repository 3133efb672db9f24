/-
  Records: copied.
-/
import Derived.Test.YtpkmnihiepbmcaaDecP
import Derived.Deep.DeepCutAuto
namespace Go.Proofs.Ytpkmnihiepbmcaa
open Go.RowKit
open PRec (Rec Drt Atx)
theorem results_cell1 {fn : Func} {p : Tmp} {ty : TypeId} (h : fn.results = #[.cell p ty]) (tmps : Array Value) (P : Program) (w : World) :
    (results fn tmps).run P w = ((asAddr (tmps.getD p undef)).run P w).andThen fun a w1 => (loadVar ty a).run P w1 := by
  simp only [results, h]
  simp [Sem.run_bind, Result.andThen]
  all_goals (first | rfl | (congr; funext a w1; cases (loadVar ty a).run P w1 <;> rfl) | skip)
theorem res_rec1 {fn : Func} {r : Rec} {vd vt : Value} {p : Tmp} (hr : fn.results = #[.cell p 32]) (tmps : Array Value) (W : World) (h : Nat) {t : TypeId} (hp : tmps.getD p undef = .pointer (some ⟨h, 0, none⟩)) (hW : W.heap[h]? = some (.cells (rc r vd vt) t (0, 0))) :
    (results fn tmps).run Try.prog W = .ok (rv r vd vt) W := by
  rw [results_cell1 hr, hp]
  simp only [asAddr, Sem.run_pure, Result.andThen_ok, load_rec W h r vd vt t hW]
theorem copied_state {w w3 : World} {v1 : Value} {xs : List Value} {n : Nat} {e : TypeId} {size j : Nat} {A B : Array Value}
    (hA : w3.heap[w.heap.size]? = some (.cells A 32 (0, 0))) (hZ : w3.heap[w.heap.size + 1]? = some (.cells B 32 (0, 0))) (hb : Below w.heap.size w w3) (hl : Sl w3 (w.heap.size + 2) e size v1 n xs) :
    (w3.setCell ⟨w.heap.size, j, none⟩ v1).heap[w.heap.size]? = some (.cells (A.setIfInBounds j v1) 32 (0, 0)) ∧ (w3.setCell ⟨w.heap.size, j, none⟩ v1).heap[w.heap.size + 1]? = some (.cells B 32 (0, 0)) ∧
    Below w.heap.size w (w3.setCell ⟨w.heap.size, j, none⟩ v1) ∧ Sl (w3.setCell ⟨w.heap.size, j, none⟩ v1) (w.heap.size + 2) e size v1 n xs :=
  ⟨set12 hA v1, (Below.heap_setCell _ _ _ _ (by simp)).trans hZ, hb.setCell (by simp) v1, hl.keep fun k hk => Below.heap_setCell _ _ _ _ (by have := (hl.lt k hk).1; simp; omega)⟩
theorem zR_at : Hid ((Try.prog.info? 32).map (·.size) = some 12) := Lib.hid (by kernel_rfl)
set_option maxRecDepth 20000 in
set_option maxHeartbeats 4000000 in
theorem copied_any (r : Rec) (hDl : r.dirty.length ≤ 1000) (hTl : r.txns.length ≤ 1000) (vd vt : Value) (w : World) (h : RecIn w r vd vt) : Calls Try.prog 10 #[rv r vd vt] w fun e w' => ∃ xd xt, e = .returned (rv r xd xt) ∧ RecIn w' r xd xt ∧ Below w.heap.size w w' := by
  have HIN := Lib.hid h
  obtain ⟨pd, cd, rfl, hd1, hd2⟩ := h.1.form
  obtain ⟨pt, ct, rfl, ht1, ht2⟩ := h.2.form
  clear h
  unfold rv
  have hA := (Below.heap_alloc (w.alloc (.cells #[.int .u8 r.kind, .int .u64 r.tx, .int .u64 r.prev, .int .u32 r.page, .int .u16 r.slot, .int .u64 r.next, .int .u64 r.number, .string ⟨r.body.toArray⟩, .slice pd r.dirty.length cd, .slice pt r.txns.length ct, .int .u64 r.ttx, .int .u64 r.tnum] 32)) (.cells zR 32) w.heap.size (by simp)).trans (heap_alloc_new w (.cells #[.int .u8 r.kind, .int .u64 r.tx, .int .u64 r.prev, .int .u32 r.page, .int .u16 r.slot, .int .u64 r.next, .int .u64 r.number, .string ⟨r.body.toArray⟩, .slice pd r.dirty.length cd, .slice pt r.txns.length ct, .int .u64 r.ttx, .int .u64 r.tnum] 32))
  have hZ := heap_alloc_new (w.alloc (.cells #[.int .u8 r.kind, .int .u64 r.tx, .int .u64 r.prev, .int .u32 r.page, .int .u16 r.slot, .int .u64 r.next, .int .u64 r.number, .string ⟨r.body.toArray⟩, .slice pd r.dirty.length cd, .slice pt r.txns.length ct, .int .u64 r.ttx, .int .u64 r.tnum] 32)) (.cells zR 32)
  rw [World.size_alloc] at hZ
  have HB := Lib.hid (((Below.refl w.heap.size w).alloc (Nat.le_refl _) (.cells #[.int .u8 r.kind, .int .u64 r.tx, .int .u64 r.prev, .int .u32 r.page, .int .u16 r.slot, .int .u64 r.next, .int .u64 r.number, .string ⟨r.body.toArray⟩, .slice pd r.dirty.length cd, .slice pt r.txns.length ct, .int .u64 r.ttx, .int .u64 r.tnum] 32)).alloc (by simp) (.cells zR 32))
  have hsz : ((w.alloc (.cells #[.int .u8 r.kind, .int .u64 r.tx, .int .u64 r.prev, .int .u32 r.page, .int .u16 r.slot, .int .u64 r.next, .int .u64 r.number, .string ⟨r.body.toArray⟩, .slice pd r.dirty.length cd, .slice pt r.txns.length ct, .int .u64 r.ttx, .int .u64 r.tnum] 32)).alloc (.cells zR 32)).heap.size = w.heap.size + 2 := by simp
  have c8 := (box12d hA).2.2.2.2.2.2.2.2.1
  have f8 := frozen12 (j := 8) hA
  have HA := Lib.hid hA
  have HZ := Lib.hid hZ
  have HSZ := Lib.hid hsz
  clear hA hZ hsz
  go_enter Try.func10, Try.ntmps10
  go_upto_region 1 with fail
  generalize hw1 : ((w.alloc (.cells #[.int .u8 r.kind, .int .u64 r.tx, .int .u64 r.prev, .int .u32 r.page, .int .u16 r.slot, .int .u64 r.next, .int .u64 r.number, .string ⟨r.body.toArray⟩, .slice pd r.dirty.length cd, .slice pt r.txns.length ct, .int .u64 r.ttx, .int .u64 r.tnum] 32)).alloc (.cells #[.int .u8 0, .int .u64 0, .int .u64 0, .int .u32 0, .int .u16 0, .int .u64 0, .int .u64 0, .string ⟨#[]⟩, .slice none 0 0, .slice none 0 0, .int .u64 0, .int .u64 0] 32)) = w1 at *
  replace HA := Lib.hid (show w1.heap[w.heap.size]? = some (.cells #[.int .u8 r.kind, .int .u64 r.tx, .int .u64 r.prev, .int .u32 r.page, .int .u16 r.slot, .int .u64 r.next, .int .u64 r.number, .string ⟨r.body.toArray⟩, .slice pd r.dirty.length cd, .slice pt r.txns.length ct, .int .u64 r.ttx, .int .u64 r.tnum] 32 (0, 0)) by rw [← hw1]; exact HA.out)
  replace HZ := Lib.hid (show w1.heap[w.heap.size + 1]? = some (.cells zR 32 (0, 0)) by rw [← hw1]; exact HZ.out)
  replace HB := Lib.hid (show Below w.heap.size w w1 by rw [← hw1]; exact HB.out)
  replace HSZ := Lib.hid (show w1.heap.size = w.heap.size + 2 by rw [← hw1]; exact HSZ.out)
  replace c8 := (box12d HA.out).2.2.2.2.2.2.2.2.1
  replace f8 := frozen12 (j := 8) HA.out
  clear hw1
  have HD1 := Lib.hid (HIN.out.step HB.out).1
  go_wp2_with (at_builtin; (with_reducible refine wpList_append_nils elem_drt HD1.out rfl rfl rfl rfl (drtV_one r.dirty) (by omega) ?_))
  intro v1 w3 hl1 hb1
  obtain ⟨p1, q1, rfl⟩ := sl_formD hl1
  rw [HSZ.out] at hl1
  have hA3 := (hb1.block _ (Array.getElem?_eq_some_iff.1 HA.out).1).trans HA.out
  have hZ3 := (hb1.block _ (Array.getElem?_eq_some_iff.1 HZ.out).1).trans HZ.out
  replace c8 := (box12d hA3).2.2.2.2.2.2.2.2.1
  replace f8 := frozen12 (j := 8) hA3
  have hs3 := copied_state (j := 8) hA3 hZ3 (HB.out.step hb1) hl1
  have c9 := (box12d hs3.1).2.2.2.2.2.2.2.2.2.1
  have f9 := frozen12 (j := 9) hs3.1
  have H3 := Lib.hid hs3
  have HSZ3 : Hid (w.heap.size + 2 ≤ w3.heap.size) := Lib.hid (by have := hb1.size; rw [HSZ.out] at this; exact this)
  clear hA3 hZ3 hs3 hl1 hb1
  have HT3 := Lib.hid (HIN.out.step H3.out.2.2.1).2
  go_wp2_with (at_builtin; (with_reducible refine wpList_append_nils elem_act HT3.out rfl rfl rfl rfl (actV_one r.txns) (by omega) ?_))
  intro v2 w4 hl2 hb2
  obtain ⟨p2, q2, rfl⟩ := sl_formD hl2
  replace hl2 := hl2.base_le HSZ3.out
  have ez : (w3.setCell ⟨w.heap.size, 8, none⟩ (.slice p1 r.dirty.length q1)).heap.size = w3.heap.size := by simp [World.setCell]
  rw [← ez] at hb2
  have hA4 := (hb2.block _ (Array.getElem?_eq_some_iff.1 H3.out.1).1).trans H3.out.1
  have hZ4 := (hb2.block _ (Array.getElem?_eq_some_iff.1 H3.out.2.1).1).trans H3.out.2.1
  have hd4 := H3.out.2.2.2.keep (fun k hk => hb2.block k (H3.out.2.2.2.lt k hk).2)
  replace c9 := (box12d hA4).2.2.2.2.2.2.2.2.2.1
  replace f9 := frozen12 (j := 9) hA4
  have hs4 := copied_state (j := 9) hA4 hZ4 (H3.out.2.2.1.step hb2) hl2
  have hd5 : Sl (w4.setCell ⟨w.heap.size, 9, none⟩ (.slice p2 r.txns.length q2)) (w.heap.size + 2) 52 2 (.slice p1 r.dirty.length q1) r.dirty.length (dirtyV r.dirty) := hd4.keep fun k hk => Below.heap_setCell _ _ _ _ (by have := (hd4.lt k hk).1; simp; omega)
  have HD5 := Lib.hid hd5
  have H4 := Lib.hid hs4
  obtain ⟨d0, d1, d2, d3, d4, d5, d6, d7, d8, d9, d10, d11⟩ := box12d (show (w4.setCell ⟨w.heap.size, 9, none⟩ (.slice p2 r.txns.length q2)).heap[w.heap.size]? = some (.cells (rc r (.slice p1 r.dirty.length q1) (.slice p2 r.txns.length q2)) 32 (0, 0)) from hs4.1)
  have HI2 : Hid ((Try.prog.info? 32).map (·.size) = some (rc r (.slice p1 r.dirty.length q1) (.slice p2 r.txns.length q2)).size) := Lib.hid (by kernel_rfl)
  have HZS : Hid (zR.size = (rc r (.slice p1 r.dirty.length q1) (.slice p2 r.txns.length q2)).size) := Lib.hid rfl
  have H1 : Hid ((rc r (.slice p1 r.dirty.length q1) (.slice p2 r.txns.length q2)).all (·.oneCell') = true) := Lib.hid (by simp [rc, Value.oneCell'])
  have HZ4 := Lib.hid hs4.2.1
  clear hA4 hZ4 hd4 hs4 hd5 hl2 hb2
  go_wp2_with ((with_reducible refine wpList_row_put rfl 32 (.tmp 2) (.tmp 15) rfl (w.heap.size + 1) 32 zR (rc r (.slice p1 r.dirty.length q1) (.slice p2 r.txns.length q2)) ?_ ?_ HZ4.out HI2.out HZS.out H1.out ?_); (· rfl); (· rfl))
  (try simp only [Exit.inBlock, Exit.then])
  refine bodyPost_ret (v := rv r (.slice p1 r.dirty.length q1) (.slice p2 r.txns.length q2)) ?_ ?_ ?_
  · exact res_rec1 rfl _ _ (w.heap.size + 1) rfl (setRow_heap _ _ _ _ _ _ HZ4.out)
  · rfl
  · exact ⟨_, _, rfl, ⟨RdS.of_sl (HD5.out.keep fun k hk => setRow_ne _ _ _ _ (by have := (HD5.out.lt k hk).1; omega)), RdS.of_sl (H4.out.2.2.2.keep fun k hk => setRow_ne _ _ _ _ (by have := (H4.out.2.2.2.lt k hk).1; omega))⟩, below_rowD H4.out.2.2.1 (Nat.le_succ _) _⟩
end Go.Proofs.Ytpkmnihiepbmcaa
