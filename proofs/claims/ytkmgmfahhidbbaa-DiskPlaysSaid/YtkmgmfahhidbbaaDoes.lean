/-
  A call, of both disks.
-/
import Derived.Test.YtkmgmfahhidbbaaBoth
namespace Go.Proofs.Ytkmgmfahhidbbaa
open Go.RowKit
def DoesPost (B : Nat) (w0 : World) (b bx : Nat) (D' : PDsk.Dsk) (e : Ending) (w' : World) : Prop := ∃ own' ownx', e = .returned (.bool true) ∧ Both w' B b D' own' bx D' ownx' ∧ Below B w0 w'
theorem does_sync {B b bx : Nat} {D : PDsk.Dsk} {own ownx : List Nat} (w0 w : World) (x : CallM) (hk : ∃ p n c, x.kv = .slice p n c) (hx : x.Ok) (h8 : x.dO % 8 = 3) (h : Both w B b D own bx D ownx) (h0 : Below B w0 w) (hB : B ≤ w0.heap.size) :
    Calls Try.prog 23 #[.pointer (some ⟨b, 0, none⟩), .pointer (some ⟨bx, 0, none⟩), x.val] w (DoesPost B w0 b bx (PDsk.sync D).1) := by
  obtain ⟨pv, nv, cv, hkv⟩ := hk
  have hd := hx.1
  have h8i : (x.dO : Int) % 8 = 3 := by omega
  have hw0 := h0.size
  have hba : ∀ o : Obj, Below w.heap.size w (w.alloc o) := fun o => (Below.refl _ _).alloc (Nat.le_refl _) _
  have HA := Lib.hid (fun o => h.below (hba o))
  have H0 := Lib.hid (fun o => h0.trans ((hba o).mono (Nat.le_trans hB h0.size)))
  unfold CallM.val
  rw [hkv]
  clear h hba hx
  go_enter Try.func23, Try.ntmps23
  go_wp2_with fail
  refine (sync_any _ (HA.out _).1).mono ?_
  rintro e w2 ⟨own2, rfl, hd2, hs2⟩
  have H2 := Lib.hid ((HA.out _).disk (by simp; omega) hd2 hs2)
  have B2 := Lib.hid ((HA.out _).below_disk (H0.out _) hB hs2)
  have hw2 := B2.out.size
  clear hd2 hs2
  go_wp2_with fail
  refine (rsync_any _ H2.out.2.1).mono ?_
  rintro e w3 ⟨own3, rfl, hd3, hs3⟩
  have H3 := Lib.hid (H2.out.ref (by omega) hd3 hs3)
  have B3 := Lib.hid (H2.out.below_ref B2.out hB hs3)
  clear hd3 hs3
  generalize (PDsk.sync D).2 = r at *
  go_wp2
  go_ret
  exact ⟨own2, own3, rfl, H3.out, B3.out⟩
theorem does_read {B b bx : Nat} {D : PDsk.Dsk} {own ownx : List Nat} (w0 w : World) (x : CallM) (hk : ∃ p n c, x.kv = .slice p n c) (hx : x.Ok) (h8 : x.dO % 8 = 4) (h : Both w B b D own bx D ownx) (h0 : Below B w0 w) (hB : B ≤ w0.heap.size) :
    Calls Try.prog 23 #[.pointer (some ⟨b, 0, none⟩), .pointer (some ⟨bx, 0, none⟩), x.val] w (DoesPost B w0 b bx D) := by
  obtain ⟨pv, nv, cv, hkv⟩ := hk
  have hd := hx.1
  have hk1 := hx.2.1
  have hk2 := hx.2.2.1
  have h8i : (x.dO : Int) % 8 = 4 := by omega
  have hw0 := h0.size
  have hba : ∀ o : Obj, Below w.heap.size w (w.alloc o) := fun o => (Below.refl _ _).alloc (Nat.le_refl _) _
  have HA := Lib.hid (fun o => h.below (hba o))
  have H0 := Lib.hid (fun o => h0.trans ((hba o).mono (Nat.le_trans hB h0.size)))
  unfold CallM.val
  rw [hkv]
  clear h hba hx
  generalize x.k = k at *
  go_enter Try.func23, Try.ntmps23
  go_wp2_with fail
  refine (read_any _ (HA.out _).1 k (by omega)).mono ?_
  rintro e w2 ⟨rfl, hb⟩
  have hc1 := (hb.cell (p := ⟨w.heap.size, 1, none⟩) (by simp)).trans (box_cell w _ _ 1 _ rfl)
  have H2 := Lib.hid ((HA.out _).below hb)
  have B2 := Lib.hid ((H0.out _).trans (hb.mono (Nat.le_trans hB (H0.out _).size)))
  clear hb
  go_wp2_with fail
  refine (rread_any _ H2.out.2.1 k (by omega) (by omega)).mono ?_
  rintro e w3 ⟨rfl, rfl⟩
  unfold refT
  generalize (PDsk.read D k).1 = l at *
  generalize (PDsk.read D k).2 = r at *
  go_wp2
  go_ret
  exact ⟨own, ownx, rfl, H2.out, B2.out⟩
theorem bools_one2 (ks : List Bool) : ∀ u ∈ ks.map Value.bool, u.oneCell' = true := by
  intro u hu
  obtain ⟨b, _, rfl⟩ := List.mem_map.1 hu
  rfl
theorem does_crash {b bx : Nat} {D : PDsk.Dsk} {own ownx : List Nat} (w0 w : World) (x : CallM) (hr : Rd w0 x.kv (x.keep.map Value.bool)) (hx : x.Ok) (h8 : x.dO % 8 = 6) (h : Both w w0.heap.size b D own bx D ownx) (h0 : Below w0.heap.size w0 w) :
    Calls Try.prog 23 #[.pointer (some ⟨b, 0, none⟩), .pointer (some ⟨bx, 0, none⟩), x.val] w (DoesPost w0.heap.size w0 b bx (PDsk.crash D x.keep)) := by
  have hd := hx.1
  have hkl := hx.2.2.2.2.2.2.2
  have h8i : (x.dO : Int) % 8 = 6 := by omega
  have hw0 := h0.size
  have hba : ∀ o : Obj, Below w.heap.size w (w.alloc o) := fun o => (Below.refl _ _).alloc (Nat.le_refl _) _
  have HA := Lib.hid (fun o => h.below (hba o))
  have H0 := Lib.hid (fun o => h0.trans ((hba o).mono (Nat.le_trans (Nat.le_refl _) h0.size)))
  have HR := Lib.hid hr
  have HLX := Lib.hid h.2.1.lt
  have hdj : Hid (x.keep ≠ [] → ∀ k, x.kv.ownBlock = some k → k < w0.heap.size) := Lib.hid (fun hne k e => by
    obtain ⟨p, c, e1, e2, e3, e4⟩ := hr
    obtain ⟨g, off, e5, e6, e7⟩ := e4 (by intro e; simp at e; exact hne e)
    rw [e1, e5] at e
    simp [Value.ownBlock] at e
    omega)
  unfold CallM.val
  obtain ⟨pv, cv, hkv, hv2, hv3, hv4⟩ := hr
  rw [List.length_map] at *
  unfold maxLen at hv3
  rw [hkv] at HR hdj ⊢
  clear h hba hx hv4 hkv
  generalize x.keep = ks at *
  go_enter Try.func23, Try.ntmps23
  go_wp2_with fail
  refine (rcrash_any _ (HA.out _).2.1 _ ks (HR.out.below_base (H0.out _)) (fun hne k e hm => by have := hdj.out hne k e; have := (HA.out (.cells #[] 0)).2.2.2.2 k hm; omega)).mono ?_
  rintro e w2 ⟨own2, rfl, hd2, hs2⟩
  have hc6 := (World.cell?_of_block (hs2.1.block w.heap.size (by simp) (fun hm => by have := HLX.out _ hm; omega))).trans (box_cell w _ _ 6 _ rfl)
  have H2 := Lib.hid ((HA.out _).ref (by simp; omega) hd2 hs2)
  have B2 := Lib.hid ((HA.out _).below_ref (H0.out _) (Nat.le_refl _) hs2)
  have hc6A := (((Below.refl w2.heap.size w2).alloc (Nat.le_refl _) (.cells #[] 4)).cell (p := ⟨w.heap.size, 6, none⟩) (by have := hs2.1.size; rw [World.size_alloc] at this; exact this)).trans hc6
  clear hd2 hs2
  go_wp2_with (at_builtin; (with_reducible refine wpList_append_rd elem_bool (sl_empty _ 4 1) (HR.out.below_base (B2.out.alloc B2.out.size _)) rfl rfl rfl rfl (bools_one2 ks) (by omega) (by simp) ?_))
  intro v' wz hz1 hz2 hz3
  obtain ⟨pz, cz, rfl⟩ := Sl.form hz1
  have hbz : Below w2.heap.size w2 wz := ((Below.refl _ _).alloc (Nat.le_refl _) (.cells #[] 4)).grown hz2 (by simp) (fun k e => by cases e; exact Nat.le_refl _)
  have hdis : ∀ k, (Value.slice pz ks.length cz).ownBlock = some k → k ∉ own := fun k e hm => by
    have h1 := (hz1.lt k e).1
    have h2 := H2.out.1.lt k hm
    omega
  have HRZ := Lib.hid (Rd.of_sl hz1)
  have HDIS := Lib.hid hdis
  have H3 := Lib.hid (H2.out.below hbz)
  have B3 := Lib.hid (B2.out.trans (hbz.mono B2.out.size))
  clear hbz hdis hz1 hz2 hz3
  go_wp2_with fail
  refine (crash_any _ H3.out.1 _ ks HRZ.out HDIS.out).mono ?_
  rintro e w4 ⟨own4, rfl, hd4, hs4⟩
  have H4 := Lib.hid (H3.out.disk B3.out.size hd4 hs4)
  have B4 := Lib.hid (H3.out.below_disk B3.out (Nat.le_refl _) hs4)
  clear hd4 hs4
  go_wp2
  go_ret
  exact ⟨own4, own2, rfl, H4.out, B4.out⟩
end Go.Proofs.Ytkmgmfahhidbbaa
