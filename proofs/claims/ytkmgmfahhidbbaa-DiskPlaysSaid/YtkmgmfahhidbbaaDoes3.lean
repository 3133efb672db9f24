/-
  A call, of both disks: Write.
-/
import Derived.Test.YtkmgmfahhidbbaaDoes2
import Derived.Deep.RegionHeld3
import Derived.Deep.MidRow
namespace Go.Proofs.Ytkmgmfahhidbbaa
open Go.RowKit
theorem cells7 {W : World} {b : Nat} {v0 v1 v2 v3 v4 v5 v6 : Value} {t : TypeId} {fz : Nat × Nat} (h : W.heap[b]? = some (.cells #[v0, v1, v2, v3, v4, v5, v6] t fz)) :
    W.cell? ⟨b, 0, none⟩ = some v0 ∧ W.cell? ⟨b, 1, none⟩ = some v1 ∧ W.cell? ⟨b, 2, none⟩ = some v2 ∧ W.cell? ⟨b, 3, none⟩ = some v3 ∧ W.cell? ⟨b, 4, none⟩ = some v4 ∧ W.cell? ⟨b, 5, none⟩ = some v5 ∧ W.cell? ⟨b, 6, none⟩ = some v6 := by
  simp [World.cell?, h]
def kindsW (d : Nat) : Bool := decide (d % 8 = 0) || (decide (d % 8 = 1) || (decide (d % 8 = 2) || decide (d % 8 = 7)))
set_option maxHeartbeats 4000000 in
theorem does_write {B b bx : Nat} {D : PDsk.Dsk} {own ownx : List Nat} (w0 w : World) (x : CallM) (hk : ∃ p n c, x.kv = .slice p n c) (hx : x.Ok) (h8 : x.dO % 8 ≠ 3 ∧ x.dO % 8 ≠ 4 ∧ x.dO % 8 ≠ 5 ∧ x.dO % 8 ≠ 6) (h : Both w B b D own bx D ownx) (h0 : Below B w0 w) (hB : B ≤ w0.heap.size) (hll : D.loose.length ≤ 1000000) :
    Calls Try.prog 23 #[.pointer (some ⟨b, 0, none⟩), .pointer (some ⟨bx, 0, none⟩), x.val] w (DoesPost B w0 b bx (PDsk.write D x.k x.text.data.toList).1) := by
  have hts : x.text.size ≤ maxLen := by
    have := hx.2.2.2.2.1
    unfold CallM.text maxLen
    split
    · omega
    · rw [full_size]; omega
  obtain ⟨pv, nv, cv, hkv⟩ := hk
  have HT := Lib.hid (text_any x hx.2.2.2.1 ⟨pv, nv, cv, hkv⟩)
  have hd := hx.1
  have hk1 := hx.2.1
  have hk2 := hx.2.2.1
  obtain ⟨g3, g4, g5, g6⟩ := h8
  have h3 : (((x.dO : Int) % 8) == 3) = false := by simp; omega
  have h4 : (((x.dO : Int) % 8) == 4) = false := by simp; omega
  have h5 : (((x.dO : Int) % 8) == 5) = false := by simp; omega
  have h6 : (((x.dO : Int) % 8) == 6) = false := by simp; omega
  have hw0 := h0.size
  have hba : ∀ o : Obj, Below w.heap.size w (w.alloc o).drew := fun o => ((Below.refl _ _).alloc (Nat.le_refl _) _).drew
  have HLX := Lib.hid (show ∀ k, k ∈ own ∨ k ∈ ownx → k < w.heap.size from fun k hk => hk.elim (h.1.lt k) (h.2.1.lt k))
  unfold CallM.val at HT ⊢
  rw [hkv] at HT ⊢
  clear hx g3 g4 g5 g6 hkv
  generalize x.text = t at *
  generalize x.k = k at *
  generalize x.dO = dO at *
  generalize x.c = c at *
  generalize x.odd = od at *
  generalize x.s = s at *
  generalize x.n = n at *
  have HB := Lib.hid (h.below (hba (.cells #[.int .u8 dO, .int .i64 k, .int .u8 c, .bool od, .string s, .int .i64 n, .slice pv nv cv] 34)))
  have BB := Lib.hid (h0.trans ((hba (.cells #[.int .u8 dO, .int .i64 k, .int .u8 c, .bool od, .string s, .int .i64 n, .slice pv nv cv] 34)).mono (Nat.le_trans hB h0.size)))
  have hN : (w.alloc (.cells #[.int .u8 dO, .int .i64 k, .int .u8 c, .bool od, .string s, .int .i64 n, .slice pv nv cv] 34)).drew.heap[w.heap.size]? = some (.cells #[.int .u8 dO, .int .i64 k, .int .u8 c, .bool od, .string s, .int .i64 n, .slice pv nv cv] 34 (0, 0)) := heap_alloc_new w _
  clear h hba
  go_enter Try.func23, Try.ntmps23
  go_wp2_with fail
  go_region_held3 (fun w' => w'.cell? ⟨w.heap.size, 0, none⟩ = some (.int .u8 dO) ∧ w'.cell? ⟨w.heap.size, 1, none⟩ = some (.int .i64 k) ∧ w'.cell? ⟨w.heap.size, 2, none⟩ = some (.int .u8 c) ∧ w'.cell? ⟨w.heap.size, 3, none⟩ = some (.bool od) ∧ w'.cell? ⟨w.heap.size, 4, none⟩ = some (.string s) ∧ w'.cell? ⟨w.heap.size, 5, none⟩ = some (.int .i64 n) ∧ w'.cell? ⟨w.heap.size, 6, none⟩ = some (.slice pv nv cv))
    (first | exact cells7 hN | go_keep)
    (first
      | (go_at_call 37; refine (HT.out _).mono ?_; rintro e w1 ⟨rfl, hb⟩; have hlt := (Array.getElem?_eq_some_iff.1 hN).1; replace hN := (hb.block _ hlt).trans hN; replace BB := Lib.hid (BB.out.trans (hb.mono (Nat.le_trans hB BB.out.size))); replace HB := Lib.hid (HB.out.below hb); clear hb hlt)
      | (go_at_call 12; refine (write_any _ HB.out.1 k t hts hk1 hk2 hll).mono ?_; rintro e w2 ⟨own2, rfl, hd2, hs2⟩; have hlt := (Array.getElem?_eq_some_iff.1 hN).1; replace hN := (hs2.1.block w.heap.size hlt (fun hm => by have := HLX.out _ (.inl hm); omega)).trans hN; replace BB := Lib.hid (HB.out.below_disk BB.out hB hs2); replace HB := Lib.hid (HB.out.disk (by have := BB.out.size; omega) hd2 hs2); clear hd2 hs2 hlt)
      | (go_at_call 38; refine (rwrite_any _ HB.out.2.1 k t hts hk1 hk2 hll).mono ?_; rintro e w3 ⟨own3, rfl, hd3, hs3⟩; have hlt := (Array.getElem?_eq_some_iff.1 hN).1; replace hN := (hs3.1.block w.heap.size hlt (fun hm => by have := HLX.out _ (.inr hm); omega)).trans hN; replace BB := Lib.hid (HB.out.below_ref BB.out hB hs3); replace HB := Lib.hid (HB.out.ref (by have := BB.out.size; omega) hd3 hs3); clear hd3 hs3 hlt))
  all_goals go_wp2
  all_goals go_ret
  all_goals exact ⟨_, _, rfl, HB.out, BB.out⟩
end Go.Proofs.Ytkmgmfahhidbbaa
