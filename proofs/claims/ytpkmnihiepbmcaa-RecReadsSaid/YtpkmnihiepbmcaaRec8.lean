/-
  Records: what a record's kind has.
-/
import Derived.Test.YtpkmnihiepbmcaaRec6
import Derived.Deep.DeepCutAuto
import Derived.Handy
import Derived.Deep.CutRange
namespace Go.Proofs.Ytpkmnihiepbmcaa
open Go.RowKit
open PRec (Rec Drt Atx)
theorem box12h {W : World} {b : Nat} {v0 v1 v2 v3 v4 v5 v6 v7 v8 v9 v10 v11 : Value} {t : TypeId} {fz : Nat × Nat} (h : W.heap[b]? = some (.cells #[v0, v1, v2, v3, v4, v5, v6, v7, v8, v9, v10, v11] t fz)) :
    W.cell? ⟨b, 0, none⟩ = some v0 ∧ W.cell? ⟨b, 1, none⟩ = some v1 ∧ W.cell? ⟨b, 2, none⟩ = some v2 ∧ W.cell? ⟨b, 3, none⟩ = some v3 ∧ W.cell? ⟨b, 4, none⟩ = some v4 ∧ W.cell? ⟨b, 5, none⟩ = some v5 ∧ W.cell? ⟨b, 6, none⟩ = some v6 ∧ W.cell? ⟨b, 7, none⟩ = some v7 ∧ W.cell? ⟨b, 8, none⟩ = some v8 ∧ W.cell? ⟨b, 9, none⟩ = some v9 ∧ W.cell? ⟨b, 10, none⟩ = some v10 ∧ W.cell? ⟨b, 11, none⟩ = some v11 := by
  simp [World.cell?, h]
def nilS : Value := .slice none 0 0
def hv (r : Rec) (v : Value) : Value := if r.kind = 8 then v else nilS
theorem RecIn.has {w : World} {r : Rec} {vd vt : Value} (h : RecIn w r vd vt) : RecIn w (PRec.has r) (hv r vd) (hv r vt) := by
  unfold hv PRec.has
  by_cases h8 : r.kind = 8
  · have h2 : ¬ r.kind = 2 := by omega
    have h6 : ¬ r.kind = 6 := by omega
    have h3 : ¬ r.kind = 3 := by omega
    have h4 : ¬ r.kind = 4 := by omega
    rw [if_neg h2, if_neg h6, if_neg h3, if_neg h4, if_pos h8, if_pos h8, if_pos h8]
    exact h
  · rw [if_neg h8, if_neg h8]
    split
    · exact ⟨RdS.nil _ _, RdS.nil _ _⟩
    split
    · exact ⟨RdS.nil _ _, RdS.nil _ _⟩
    split
    · exact ⟨RdS.nil _ _, RdS.nil _ _⟩
    split
    · exact ⟨RdS.nil _ _, RdS.nil _ _⟩
    exact ⟨RdS.nil _ _, RdS.nil _ _⟩

set_option maxRecDepth 20000 in
set_option maxHeartbeats 4000000 in
theorem has_2 (r : Rec) (hk : r.kind = 2) (vd vt : Value) (w : World) (h : RecIn w r vd vt) : Calls Try.prog 24 #[rv r vd vt] w fun e w' => e = .returned (rv (PRec.has r) (hv r vd) (hv r vt)) ∧ Below w.heap.size w w' := by
  have HR : Hid (rv (PRec.has r) (hv r vd) (hv r vt) = rv ({ PRec.base r with page := r.page, slot := r.slot, body := r.body }) nilS nilS) := Lib.hid (by unfold PRec.has hv; rw [if_pos hk, if_neg (by omega), if_neg (by omega)])
  have k2 : ((r.kind : Int) == 2) = true := by simp; omega
  have k6 : ((r.kind : Int) == 6) = false := by simp; omega
  have k3 : ((r.kind : Int) == 3) = false := by simp; omega
  have k4 : ((r.kind : Int) == 4) = false := by simp; omega
  have k8 : ((r.kind : Int) == 8) = false := by simp; omega
  clear hk
  obtain ⟨pd, cd, rfl, _, _⟩ := h.1.form
  obtain ⟨pt, ct, rfl, _, _⟩ := h.2.form
  clear h
  unfold rv
  have hN : (w.alloc (.cells #[.int .u8 r.kind, .int .u64 r.tx, .int .u64 r.prev, .int .u32 r.page, .int .u16 r.slot, .int .u64 r.next, .int .u64 r.number, .string ⟨r.body.toArray⟩, .slice pd r.dirty.length cd, .slice pt r.txns.length ct, .int .u64 r.ttx, .int .u64 r.tnum] 32)).heap[w.heap.size]? = some (.cells #[.int .u8 r.kind, .int .u64 r.tx, .int .u64 r.prev, .int .u32 r.page, .int .u16 r.slot, .int .u64 r.next, .int .u64 r.number, .string ⟨r.body.toArray⟩, .slice pd r.dirty.length cd, .slice pt r.txns.length ct, .int .u64 r.ttx, .int .u64 r.tnum] 32 (0, 0)) := heap_alloc_new w _
  obtain ⟨c0, c1, c2, c3, c4, c5, c6, c7, c8, c9, c10, c11⟩ := box12h hN
  clear hN
  go_enter Try.func24, Try.ntmps24
  have n0 := World.new_ne _ _ c0
  go_wp2_with fail
  go_region_held3 (fun w' => w'.cell? ⟨w.heap.size, 3, none⟩ = some (.int .u32 r.page) ∧ w'.cell? ⟨w.heap.size, 4, none⟩ = some (.int .u16 r.slot) ∧ w'.cell? ⟨w.heap.size, 7, none⟩ = some (.string ⟨r.body.toArray⟩)) (go_keep) (fail)
  all_goals go_wp2
  all_goals go_returns
  all_goals exact ⟨congrArg Ending.returned (HR.out.symm), by repeat first | exact Below.refl _ _ | (refine Below.drew ?_) | (refine Below.setCell ?_ (by simp; try omega) _) | (refine Below.alloc ?_ (by simp; try omega) _)⟩
set_option maxRecDepth 20000 in
set_option maxHeartbeats 4000000 in
theorem has_6 (r : Rec) (hk : r.kind = 6) (vd vt : Value) (w : World) (h : RecIn w r vd vt) : Calls Try.prog 24 #[rv r vd vt] w fun e w' => e = .returned (rv (PRec.has r) (hv r vd) (hv r vt)) ∧ Below w.heap.size w w' := by
  have HR : Hid (rv (PRec.has r) (hv r vd) (hv r vt) = rv ({ PRec.base r with body := r.body }) nilS nilS) := Lib.hid (by unfold PRec.has hv; rw [if_neg (by omega), if_pos hk, if_neg (by omega), if_neg (by omega)])
  have k2 : ((r.kind : Int) == 2) = false := by simp; omega
  have k6 : ((r.kind : Int) == 6) = true := by simp; omega
  have k3 : ((r.kind : Int) == 3) = false := by simp; omega
  have k4 : ((r.kind : Int) == 4) = false := by simp; omega
  have k8 : ((r.kind : Int) == 8) = false := by simp; omega
  clear hk
  obtain ⟨pd, cd, rfl, _, _⟩ := h.1.form
  obtain ⟨pt, ct, rfl, _, _⟩ := h.2.form
  clear h
  unfold rv
  have hN : (w.alloc (.cells #[.int .u8 r.kind, .int .u64 r.tx, .int .u64 r.prev, .int .u32 r.page, .int .u16 r.slot, .int .u64 r.next, .int .u64 r.number, .string ⟨r.body.toArray⟩, .slice pd r.dirty.length cd, .slice pt r.txns.length ct, .int .u64 r.ttx, .int .u64 r.tnum] 32)).heap[w.heap.size]? = some (.cells #[.int .u8 r.kind, .int .u64 r.tx, .int .u64 r.prev, .int .u32 r.page, .int .u16 r.slot, .int .u64 r.next, .int .u64 r.number, .string ⟨r.body.toArray⟩, .slice pd r.dirty.length cd, .slice pt r.txns.length ct, .int .u64 r.ttx, .int .u64 r.tnum] 32 (0, 0)) := heap_alloc_new w _
  obtain ⟨c0, c1, c2, c3, c4, c5, c6, c7, c8, c9, c10, c11⟩ := box12h hN
  clear hN
  go_enter Try.func24, Try.ntmps24
  go_wp2_with fail

  all_goals go_wp2
  all_goals go_returns
  all_goals exact ⟨congrArg Ending.returned (HR.out.symm), by repeat first | exact Below.refl _ _ | (refine Below.drew ?_) | (refine Below.setCell ?_ (by simp; try omega) _) | (refine Below.alloc ?_ (by simp; try omega) _)⟩
set_option maxRecDepth 20000 in
set_option maxHeartbeats 4000000 in
theorem has_3 (r : Rec) (hk : r.kind = 3) (vd vt : Value) (w : World) (h : RecIn w r vd vt) : Calls Try.prog 24 #[rv r vd vt] w fun e w' => e = .returned (rv (PRec.has r) (hv r vd) (hv r vt)) ∧ Below w.heap.size w w' := by
  have HR : Hid (rv (PRec.has r) (hv r vd) (hv r vt) = rv ({ PRec.base r with next := r.next, body := r.body }) nilS nilS) := Lib.hid (by unfold PRec.has hv; rw [if_neg (by omega), if_neg (by omega), if_pos hk, if_neg (by omega), if_neg (by omega)])
  have k2 : ((r.kind : Int) == 2) = false := by simp; omega
  have k6 : ((r.kind : Int) == 6) = false := by simp; omega
  have k3 : ((r.kind : Int) == 3) = true := by simp; omega
  have k4 : ((r.kind : Int) == 4) = false := by simp; omega
  have k8 : ((r.kind : Int) == 8) = false := by simp; omega
  clear hk
  obtain ⟨pd, cd, rfl, _, _⟩ := h.1.form
  obtain ⟨pt, ct, rfl, _, _⟩ := h.2.form
  clear h
  unfold rv
  have hN : (w.alloc (.cells #[.int .u8 r.kind, .int .u64 r.tx, .int .u64 r.prev, .int .u32 r.page, .int .u16 r.slot, .int .u64 r.next, .int .u64 r.number, .string ⟨r.body.toArray⟩, .slice pd r.dirty.length cd, .slice pt r.txns.length ct, .int .u64 r.ttx, .int .u64 r.tnum] 32)).heap[w.heap.size]? = some (.cells #[.int .u8 r.kind, .int .u64 r.tx, .int .u64 r.prev, .int .u32 r.page, .int .u16 r.slot, .int .u64 r.next, .int .u64 r.number, .string ⟨r.body.toArray⟩, .slice pd r.dirty.length cd, .slice pt r.txns.length ct, .int .u64 r.ttx, .int .u64 r.tnum] 32 (0, 0)) := heap_alloc_new w _
  obtain ⟨c0, c1, c2, c3, c4, c5, c6, c7, c8, c9, c10, c11⟩ := box12h hN
  clear hN
  go_enter Try.func24, Try.ntmps24
  have n0 := World.new_ne _ _ c0
  go_wp2_with fail
  go_region_held3 (fun w' => w'.cell? ⟨w.heap.size, 5, none⟩ = some (.int .u64 r.next) ∧ w'.cell? ⟨w.heap.size, 7, none⟩ = some (.string ⟨r.body.toArray⟩)) (go_keep) (fail)
  all_goals go_wp2
  all_goals go_returns
  all_goals exact ⟨congrArg Ending.returned (HR.out.symm), by repeat first | exact Below.refl _ _ | (refine Below.drew ?_) | (refine Below.setCell ?_ (by simp; try omega) _) | (refine Below.alloc ?_ (by simp; try omega) _)⟩
set_option maxRecDepth 20000 in
set_option maxHeartbeats 4000000 in
theorem has_4 (r : Rec) (hk : r.kind = 4) (vd vt : Value) (w : World) (h : RecIn w r vd vt) : Calls Try.prog 24 #[rv r vd vt] w fun e w' => e = .returned (rv (PRec.has r) (hv r vd) (hv r vt)) ∧ Below w.heap.size w w' := by
  have HR : Hid (rv (PRec.has r) (hv r vd) (hv r vt) = rv ({ PRec.base r with number := r.number, body := r.body }) nilS nilS) := Lib.hid (by unfold PRec.has hv; rw [if_neg (by omega), if_neg (by omega), if_neg (by omega), if_pos hk, if_neg (by omega), if_neg (by omega)])
  have k2 : ((r.kind : Int) == 2) = false := by simp; omega
  have k6 : ((r.kind : Int) == 6) = false := by simp; omega
  have k3 : ((r.kind : Int) == 3) = false := by simp; omega
  have k4 : ((r.kind : Int) == 4) = true := by simp; omega
  have k8 : ((r.kind : Int) == 8) = false := by simp; omega
  clear hk
  obtain ⟨pd, cd, rfl, _, _⟩ := h.1.form
  obtain ⟨pt, ct, rfl, _, _⟩ := h.2.form
  clear h
  unfold rv
  have hN : (w.alloc (.cells #[.int .u8 r.kind, .int .u64 r.tx, .int .u64 r.prev, .int .u32 r.page, .int .u16 r.slot, .int .u64 r.next, .int .u64 r.number, .string ⟨r.body.toArray⟩, .slice pd r.dirty.length cd, .slice pt r.txns.length ct, .int .u64 r.ttx, .int .u64 r.tnum] 32)).heap[w.heap.size]? = some (.cells #[.int .u8 r.kind, .int .u64 r.tx, .int .u64 r.prev, .int .u32 r.page, .int .u16 r.slot, .int .u64 r.next, .int .u64 r.number, .string ⟨r.body.toArray⟩, .slice pd r.dirty.length cd, .slice pt r.txns.length ct, .int .u64 r.ttx, .int .u64 r.tnum] 32 (0, 0)) := heap_alloc_new w _
  obtain ⟨c0, c1, c2, c3, c4, c5, c6, c7, c8, c9, c10, c11⟩ := box12h hN
  clear hN
  go_enter Try.func24, Try.ntmps24
  have n0 := World.new_ne _ _ c0
  go_wp2_with fail
  go_region_held3 (fun w' => w'.cell? ⟨w.heap.size, 6, none⟩ = some (.int .u64 r.number) ∧ w'.cell? ⟨w.heap.size, 7, none⟩ = some (.string ⟨r.body.toArray⟩)) (go_keep) (fail)
  all_goals go_wp2
  all_goals go_returns
  all_goals exact ⟨congrArg Ending.returned (HR.out.symm), by repeat first | exact Below.refl _ _ | (refine Below.drew ?_) | (refine Below.setCell ?_ (by simp; try omega) _) | (refine Below.alloc ?_ (by simp; try omega) _)⟩
set_option maxRecDepth 20000 in
set_option maxHeartbeats 4000000 in
theorem has_8 (r : Rec) (hk : r.kind = 8) (vd vt : Value) (w : World) (h : RecIn w r vd vt) : Calls Try.prog 24 #[rv r vd vt] w fun e w' => e = .returned (rv (PRec.has r) (hv r vd) (hv r vt)) ∧ Below w.heap.size w w' := by
  have HR : Hid (rv (PRec.has r) (hv r vd) (hv r vt) = rv ({ PRec.base r with dirty := r.dirty, txns := r.txns, ttx := r.ttx, tnum := r.tnum }) vd vt) := Lib.hid (by unfold PRec.has hv; rw [if_neg (by omega), if_neg (by omega), if_neg (by omega), if_neg (by omega), if_pos hk, if_pos hk, if_pos hk])
  have k2 : ((r.kind : Int) == 2) = false := by simp; omega
  have k6 : ((r.kind : Int) == 6) = false := by simp; omega
  have k3 : ((r.kind : Int) == 3) = false := by simp; omega
  have k4 : ((r.kind : Int) == 4) = false := by simp; omega
  have k8 : ((r.kind : Int) == 8) = true := by simp; omega
  clear hk
  obtain ⟨pd, cd, rfl, _, _⟩ := h.1.form
  obtain ⟨pt, ct, rfl, _, _⟩ := h.2.form
  clear h
  unfold rv
  have hN : (w.alloc (.cells #[.int .u8 r.kind, .int .u64 r.tx, .int .u64 r.prev, .int .u32 r.page, .int .u16 r.slot, .int .u64 r.next, .int .u64 r.number, .string ⟨r.body.toArray⟩, .slice pd r.dirty.length cd, .slice pt r.txns.length ct, .int .u64 r.ttx, .int .u64 r.tnum] 32)).heap[w.heap.size]? = some (.cells #[.int .u8 r.kind, .int .u64 r.tx, .int .u64 r.prev, .int .u32 r.page, .int .u16 r.slot, .int .u64 r.next, .int .u64 r.number, .string ⟨r.body.toArray⟩, .slice pd r.dirty.length cd, .slice pt r.txns.length ct, .int .u64 r.ttx, .int .u64 r.tnum] 32 (0, 0)) := heap_alloc_new w _
  obtain ⟨c0, c1, c2, c3, c4, c5, c6, c7, c8, c9, c10, c11⟩ := box12h hN
  clear hN
  go_enter Try.func24, Try.ntmps24
  go_wp2_with fail

  all_goals go_wp2
  all_goals go_returns
  all_goals exact ⟨congrArg Ending.returned (HR.out.symm), by repeat first | exact Below.refl _ _ | (refine Below.drew ?_) | (refine Below.setCell ?_ (by simp; try omega) _) | (refine Below.alloc ?_ (by simp; try omega) _)⟩
set_option maxRecDepth 20000 in
set_option maxHeartbeats 4000000 in
theorem has_0 (r : Rec) (hk : r.kind ≠ 2 ∧ r.kind ≠ 6 ∧ r.kind ≠ 3 ∧ r.kind ≠ 4 ∧ r.kind ≠ 8) (vd vt : Value) (w : World) (h : RecIn w r vd vt) : Calls Try.prog 24 #[rv r vd vt] w fun e w' => e = .returned (rv (PRec.has r) (hv r vd) (hv r vt)) ∧ Below w.heap.size w w' := by
  have HR : Hid (rv (PRec.has r) (hv r vd) (hv r vt) = rv (PRec.base r) nilS nilS) := Lib.hid (by unfold PRec.has hv; rw [if_neg (by omega), if_neg (by omega), if_neg (by omega), if_neg (by omega), if_neg (by omega), if_neg (by omega), if_neg (by omega)])
  have k2 : ((r.kind : Int) == 2) = false := by simp; omega
  have k6 : ((r.kind : Int) == 6) = false := by simp; omega
  have k3 : ((r.kind : Int) == 3) = false := by simp; omega
  have k4 : ((r.kind : Int) == 4) = false := by simp; omega
  have k8 : ((r.kind : Int) == 8) = false := by simp; omega
  clear hk
  obtain ⟨pd, cd, rfl, _, _⟩ := h.1.form
  obtain ⟨pt, ct, rfl, _, _⟩ := h.2.form
  clear h
  unfold rv
  have hN : (w.alloc (.cells #[.int .u8 r.kind, .int .u64 r.tx, .int .u64 r.prev, .int .u32 r.page, .int .u16 r.slot, .int .u64 r.next, .int .u64 r.number, .string ⟨r.body.toArray⟩, .slice pd r.dirty.length cd, .slice pt r.txns.length ct, .int .u64 r.ttx, .int .u64 r.tnum] 32)).heap[w.heap.size]? = some (.cells #[.int .u8 r.kind, .int .u64 r.tx, .int .u64 r.prev, .int .u32 r.page, .int .u16 r.slot, .int .u64 r.next, .int .u64 r.number, .string ⟨r.body.toArray⟩, .slice pd r.dirty.length cd, .slice pt r.txns.length ct, .int .u64 r.ttx, .int .u64 r.tnum] 32 (0, 0)) := heap_alloc_new w _
  obtain ⟨c0, c1, c2, c3, c4, c5, c6, c7, c8, c9, c10, c11⟩ := box12h hN
  clear hN
  go_enter Try.func24, Try.ntmps24
  go_wp2_with fail

  all_goals go_wp2
  all_goals go_returns
  all_goals exact ⟨congrArg Ending.returned (HR.out.symm), by repeat first | exact Below.refl _ _ | (refine Below.drew ?_) | (refine Below.setCell ?_ (by simp; try omega) _) | (refine Below.alloc ?_ (by simp; try omega) _)⟩
end Go.Proofs.Ytpkmnihiepbmcaa