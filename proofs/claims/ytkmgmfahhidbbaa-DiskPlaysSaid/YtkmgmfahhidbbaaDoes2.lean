/-
  A call, of both disks: Fuse.
-/
import Derived.Test.YtkmgmfahhidbbaaDoes
namespace Go.Proofs.Ytkmgmfahhidbbaa
open Go.RowKit
set_option maxHeartbeats 4000000 in
theorem does_fuse {B b bx : Nat} {D : PDsk.Dsk} {own ownx : List Nat} (w0 w : World) (x : CallM) (hk : ∃ p n c, x.kv = .slice p n c) (hx : x.Ok) (h8 : x.dO % 8 = 5) (h : Both w B b D own bx D ownx) (h0 : Below B w0 w) (hB : B ≤ w0.heap.size) :
    Calls Try.prog 23 #[.pointer (some ⟨b, 0, none⟩), .pointer (some ⟨bx, 0, none⟩), x.val] w (DoesPost B w0 b bx (PDsk.setFuse D x.n).1) := by
  obtain ⟨pv, nv, cv, hkv⟩ := hk
  have hd := hx.1
  have hn1 := hx.2.2.2.2.2.1
  have hn2 := hx.2.2.2.2.2.2.1
  have h8i : (x.dO : Int) % 8 = 5 := by omega
  have hw0 := h0.size
  have hba : ∀ o : Obj, Below w.heap.size w (w.alloc o) := fun o => (Below.refl _ _).alloc (Nat.le_refl _) _
  have HA := Lib.hid (fun o => h.below (hba o))
  have H0 := Lib.hid (fun o => h0.trans ((hba o).mono (Nat.le_trans hB h0.size)))
  have HLX := Lib.hid h.1.lt
  unfold CallM.val
  rw [hkv]
  clear h hba hx
  generalize x.n = n at *
  go_enter Try.func23, Try.ntmps23
  go_wp2_with fail
  go_region_with (first
    | (refine (fuse_any _ ((HA.out _).below ((Below.refl _ _).drew)).1 n (by omega) (by omega)).mono ?_
       rintro e w2 ⟨rfl, hd2, hs2⟩
       have H2 := Lib.hid (((HA.out _).below ((Below.refl _ _).drew)).disk (by simp; omega) hd2 hs2)
       have B2 := Lib.hid (((HA.out _).below ((Below.refl _ _).drew)).below_disk ((H0.out _).drew) hB hs2)
       have hc5 := (World.cell?_of_block (hs2.1.block w.heap.size (by simp) (fun hm => by have := HLX.out _ hm; omega))).trans (box_cell w _ _ 5 _ rfl))
    | (refine (rfuse_any _ H2.out.2.1 n (by omega) (by omega)).mono ?_
       rintro e w3 ⟨rfl, hd3, hs3⟩))
  all_goals go_wp2
  all_goals go_ret
  all_goals exact ⟨own, ownx, rfl, H2.out.ref (by have := B2.out.size; omega) hd3 hs3, H2.out.below_ref B2.out hB hs3⟩
end Go.Proofs.Ytkmgmfahhidbbaa
