/-
  MasterTells: which masters may be, their sectors, and which master a sector is. No conditions.
-/
import Derived.Test.YtmbialiledjigaaMst9
import Derived.Test.YtmbialiledjigaaRd
import Derived.IntWalk
namespace Go.Proofs.Ytmbialiledjigaa
open Go.RowKit
open PMst (Mst)
theorem at_cell {w wr : World} {p : Option Addr} {k : IntKind} {zs : List Int} (h : zs.map (Value.int k) ≠ [] → ∃ g off, p = some ⟨g, off, none⟩ ∧ g < w.heap.size ∧ ∀ j (h : j < (zs.map (Value.int k)).length), w.cell? ⟨g, off + j, none⟩ = some (zs.map (Value.int k))[j]) (hB : Below w.heap.size w wr) {j : Nat} (hj : j < zs.length) :
    ∃ g off, p = some ⟨g, off, none⟩ ∧ g < w.heap.size ∧ wr.cell? ⟨g, off + j, none⟩ = some (.int k zs[j]) := by
  obtain ⟨g, off, h1, h2, h3⟩ := h (by intro e; have := congrArg List.length e; simp at this; subst this; simp at hj)
  refine ⟨g, off, h1, h2, (hB.cell (p := ⟨g, off + j, none⟩) h2).trans ?_⟩
  rw [h3 j (by simpa using hj)]
  simp
set_option maxRecDepth 100000 in
set_option maxHeartbeats 8000000 in
theorem masterTells_plain (own : Bool) (w : World) (m : Mst) (hm : m.Ok) (s : ByteArray) (hs : s.size ≤ 512) (pa pt : Option Addr) (ca ct : Nat) (az tz : List Int) (hal : az.length ≤ 8) (htl : tz.length ≤ 8) (hno : own = false ∨ PMst.may m = false) :
    Calls Try.prog 3 #[mv m, .string s, .bool own, .slice pa az.length ca, .slice pt tz.length ct] w fun e w' => e = .returned (.bool true) ∧ Below w.heap.size w w' := by
  have HTM : Hid (s.size ≤ maxLen) := Lib.hid (by unfold maxLen; omega)
  have hmm : (PMst.may m = true ∧ PMst.err m = 0 ∧ (PMst.enc m).length = 128) ∨ (PMst.may m = false ∧ PMst.err m = 2 ∧ PMst.enc m = []) := by
    cases h : PMst.may m
    · right; exact ⟨rfl, by unfold PMst.err; rw [h]; rfl, PMst.enc_nil h⟩
    · left; exact ⟨rfl, by unfold PMst.err; rw [if_pos h], PMst.enc_length h⟩
  have HMA := Lib.hid (menc_any m hm)
  have HMR := Lib.hid (renc_any m hm)
  unfold mv at HMA HMR ⊢
  have hbox : ∀ t, Below w.heap.size w (w.alloc (.cells #[.int .u64 m.count, .int .u64 m.life, .int .u64 m.check, .int .u64 m.first, .bool m.clean] t)) := fun t => (Below.refl _ _).alloc (Nat.le_refl _) _
  have hboxc : (w.alloc (.cells #[.int .u64 m.count, .int .u64 m.life, .int .u64 m.check, .int .u64 m.first, .bool m.clean] 24)).heap[w.heap.size]? = some (.cells #[.int .u64 m.count, .int .u64 m.life, .int .u64 m.check, .int .u64 m.first, .bool m.clean] 24 (0, 0)) := heap_alloc_new w _
  have HBX := Lib.hid hbox
  have HBC := Lib.hid hboxc
  rcases hmm with ⟨h1, h2, h3⟩ | ⟨h1, h2, h3⟩
  · obtain rfl : own = false := by rcases hno with h | h; exact h; rw [h1] at h; cases h
    obtain ⟨t, ht⟩ : ∃ t, (⟨(PMst.enc m).toArray⟩ : ByteArray) = t := ⟨_, rfl⟩
    have hts : t.toList.isEmpty = false := by
      rw [bytes_eq, ← ht]
      cases hx : PMst.enc m with
      | nil => rw [hx] at h3; simp at h3
      | cons _ _ => rfl
    have hts2 : (!t.toList.isEmpty) = true := by rw [hts]; rfl
    rw [h2, ht] at HMA
    rw [ht] at HMR
    clear hno h1 h2 h3 ht hbox hboxc hm
    go_enter Try.func3, Try.ntmps3
    go_wp2_with fail
    refine (HMA.out _).mono ?_
    rintro e w1 ⟨rfl, hb⟩
    have hB := (HBX.out _).step hb
    obtain ⟨c0, c1, c2, c3, c4⟩ := cells5 ((hb.block _ (Array.getElem?_eq_some_iff.1 HBC.out).1).trans HBC.out)
    clear hb
    go_wp2_with fail
    refine (HMR.out _).mono ?_
    rintro e w2 ⟨rfl, hb⟩
    replace hB := hB.step hb
    clear hb c0 c1 c2 c3 c4
    go_wp2_with fail
    refine (mdec_open s HTM.out _).mono ?_
    rintro e w3 ⟨rfl, hb⟩
    have HX := Lib.hid (hB.step hb)
    clear hb
    obtain ⟨X, hX⟩ : ∃ X, PMst.dec (s).data.toList = X := ⟨_, rfl⟩
    rw [hX]
    have HXE := Lib.hid hX
    clear hX hB
    obtain ⟨G0, e0⟩ := X
    dsimp only
    go_wp2_with fail
    refine (rdec_open s HTM.out _).mono ?_
    rintro e w4 ⟨rfl, hb⟩
    have hNx := (hb.block _ (by rw [World.size_alloc]; omega)).trans (heap_alloc_new w3 (.cells #[.int .u64 G0.count, .int .u64 G0.life, .int .u64 G0.check, .int .u64 G0.first, .bool G0.clean] 24))
    have HX2 := Lib.hid ((HX.out.alloc HX.out.size (.cells #[.int .u64 G0.count, .int .u64 G0.life, .int .u64 G0.check, .int .u64 G0.first, .bool G0.clean] 24)).step hb)
    have hlt := (Array.getElem?_eq_some_iff.1 hNx).1
    have hxA := fun (o : Obj) => cells5 ((Below.heap_alloc w4 o _ hlt).trans hNx)
    have x0 := fun o => (hxA o).1
    have x1 := fun o => (hxA o).2.1
    have x2 := fun o => (hxA o).2.2.1
    have x3 := fun o => (hxA o).2.2.2.1
    have x4 := fun o => (hxA o).2.2.2.2
    rw [HXE.out]
    dsimp only
    clear hb hNx hlt hxA
    go_wp2_with fail
    refine (works12_any _).mono ?_
    rintro e w5 ⟨rfl, hb⟩
    have HX3 := Lib.hid ((HX2.out.alloc HX2.out.size _).step hb)
    clear hb
    go_wp2
    go_ret
    exact ⟨rfl, HX3.out⟩
  · rw [h2, h3] at HMA
    rw [h3] at HMR
    clear hno h1 h2 h3 hbox hboxc hm
    cases own
    all_goals
      go_enter Try.func3, Try.ntmps3
      go_wp2_with fail
      refine (HMA.out _).mono ?_
      rintro e w1 ⟨rfl, hb⟩
      have hB := (HBX.out _).step hb
      obtain ⟨c0, c1, c2, c3, c4⟩ := cells5 ((hb.block _ (Array.getElem?_eq_some_iff.1 HBC.out).1).trans HBC.out)
      clear hb
      go_wp2_with fail
      refine (HMR.out _).mono ?_
      rintro e w2 ⟨rfl, hb⟩
      replace hB := hB.step hb
      clear hb c0 c1 c2 c3 c4
      go_wp2_with fail
      refine (mdec_open s HTM.out _).mono ?_
      rintro e w3 ⟨rfl, hb⟩
      have HX := Lib.hid (hB.step hb)
      clear hb
      obtain ⟨X, hX⟩ : ∃ X, PMst.dec (s).data.toList = X := ⟨_, rfl⟩
      rw [hX]
      have HXE := Lib.hid hX
      clear hX hB
      obtain ⟨G0, e0⟩ := X
      dsimp only
      go_wp2_with fail
      refine (rdec_open s HTM.out _).mono ?_
      rintro e w4 ⟨rfl, hb⟩
      have hNx := (hb.block _ (by rw [World.size_alloc]; omega)).trans (heap_alloc_new w3 (.cells #[.int .u64 G0.count, .int .u64 G0.life, .int .u64 G0.check, .int .u64 G0.first, .bool G0.clean] 24))
      have HX2 := Lib.hid ((HX.out.alloc HX.out.size (.cells #[.int .u64 G0.count, .int .u64 G0.life, .int .u64 G0.check, .int .u64 G0.first, .bool G0.clean] 24)).step hb)
      have hlt := (Array.getElem?_eq_some_iff.1 hNx).1
      have hxA := fun (o : Obj) => cells5 ((Below.heap_alloc w4 o _ hlt).trans hNx)
      have x0 := fun o => (hxA o).1
      have x1 := fun o => (hxA o).2.1
      have x2 := fun o => (hxA o).2.2.1
      have x3 := fun o => (hxA o).2.2.2.1
      have x4 := fun o => (hxA o).2.2.2.2
      rw [HXE.out]
      dsimp only
      clear hb hNx hlt hxA
      go_wp2_with fail
      refine (works12_any _).mono ?_
      rintro e w5 ⟨rfl, hb⟩
      have HX3 := Lib.hid ((HX2.out.alloc HX2.out.size _).step hb)
      clear hb
      go_wp2
      go_ret
      exact ⟨rfl, HX3.out⟩
set_option maxRecDepth 100000 in
set_option maxHeartbeats 8000000 in
theorem masterTells_own (w : World) (m : Mst) (hm : m.Ok) (s : ByteArray) (hs : s.size ≤ 512) (pa pt : Option Addr) (ca ct : Nat) (az tz : List Int) (hal : az.length ≤ 8) (htl : tz.length ≤ 8) (hmay : PMst.may m = true)
    (ha : az.map (Value.int .u8) ≠ [] → ∃ g off, pa = some ⟨g, off, none⟩ ∧ g < w.heap.size ∧ ∀ j (h : j < (az.map (Value.int .u8)).length), w.cell? ⟨g, off + j, none⟩ = some (az.map (Value.int .u8))[j])
    (hto : tz.map (Value.int .u8) ≠ [] → ∃ g off, pt = some ⟨g, off, none⟩ ∧ g < w.heap.size ∧ ∀ j (h : j < (tz.map (Value.int .u8)).length), w.cell? ⟨g, off + j, none⟩ = some (tz.map (Value.int .u8))[j])
    (hab : ∀ z ∈ az, 0 ≤ z ∧ z < 256) (htb : ∀ z ∈ tz, 0 ≤ z ∧ z < 256) :
    Calls Try.prog 3 #[mv m, .string s, .bool true, .slice pa az.length ca, .slice pt tz.length ct] w fun e w' => e = .returned (.bool true) ∧ Below w.heap.size w w' := by
  have HMA := Lib.hid (menc_any m hm)
  have HMR := Lib.hid (renc_any m hm)
  unfold mv at HMA HMR ⊢
  have hbox : ∀ t, Below w.heap.size w (w.alloc (.cells #[.int .u64 m.count, .int .u64 m.life, .int .u64 m.check, .int .u64 m.first, .bool m.clean] t)) := fun t => (Below.refl _ _).alloc (Nat.le_refl _) _
  have hboxc : (w.alloc (.cells #[.int .u64 m.count, .int .u64 m.life, .int .u64 m.check, .int .u64 m.first, .bool m.clean] 24)).heap[w.heap.size]? = some (.cells #[.int .u64 m.count, .int .u64 m.life, .int .u64 m.check, .int .u64 m.first, .bool m.clean] 24 (0, 0)) := heap_alloc_new w _
  have HBX := Lib.hid hbox
  have HBC := Lib.hid hboxc
  have HA := Lib.hid ha
  have HT := Lib.hid hto
  have HAB := Lib.hid hab
  have HTB := Lib.hid htb
  have h2 : PMst.err m = 0 := by unfold PMst.err; rw [if_pos hmay]
  have h3 := PMst.enc_length hmay
  obtain ⟨S, hS⟩ : ∃ t, (⟨(PMst.enc m).toArray⟩ : ByteArray) = t := ⟨_, rfl⟩
  have hts : S.toList.isEmpty = false := by
    rw [bytes_eq, ← hS]
    cases hx : PMst.enc m with
    | nil => rw [hx] at h3; simp at h3
    | cons _ _ => rfl
  have hts2 : (!S.toList.isEmpty) = true := by rw [hts]; rfl
  have HSS : Hid (S.size = 128) := Lib.hid (by rw [← hS, size_mk]; exact h3)
  have hss := HSS.out
  rw [h2, hS] at HMA
  rw [hS] at HMR
  clear h2 h3 hS hbox hboxc hm ha hto hab htb hmay
  go_enter Try.func3, Try.ntmps3
  go_wp2_with fail
  refine (HMA.out _).mono ?_
  rintro e w1 ⟨rfl, hb⟩
  have hB := (HBX.out _).step hb
  obtain ⟨c0, c1, c2, c3, c4⟩ := cells5 ((hb.block _ (Array.getElem?_eq_some_iff.1 HBC.out).1).trans HBC.out)
  clear hb
  go_wp2_with fail
  refine (HMR.out _).mono ?_
  rintro e w2 ⟨rfl, hb⟩
  replace hB := hB.step hb
  clear hb c0 c1 c2 c3 c4
  go_wp2
  have hSm := Sl.of_string w2 w.heap.size hB.size S 5 (by rw [HSS.out]; unfold maxLen; omega) _ rfl
  rw [HSS.out] at hSm
  change Sl ((w2.alloc _).drew) _ _ _ _ _ _ at hSm
  have hB0 : Below w.heap.size w ((w2.alloc (Obj.cells (bytesRow S (grownCap w2 128 0 5)) 5 ((bytesRow S (grownCap w2 128 0 5)).size, (bytesRow S (grownCap w2 128 0 5)).size + 1))).drew) := (hB.alloc hB.size _).drew
  have hl0 : S.data.toList.length = 128 := by rw [list_size]; exact HSS.out
  generalize S.data.toList = L0 at *
  have hg0 := hB.size
  generalize ((w2.alloc (Obj.cells (bytesRow S (grownCap w2 128 0 5)) 5 ((bytesRow S (grownCap w2 128 0 5)).size, (bytesRow S (grownCap w2 128 0 5)).size + 1))).drew) = W0 at *
  generalize grownCap w2 128 0 5 = cap at *
  generalize w2.heap.size = G at *
  clear hB
  have hL0' := Lib.hid hl0
  clear hl0
  go_loopw [15] (fun iv wr => ∃ (k : Nat) (l : List UInt8), iv = .int .i64 k ∧ k ≤ az.length ∧ k ≤ tz.length ∧ Hid (l.length = 128) ∧ Sl wr w.heap.size 5 1 (.slice (some ⟨G, 0, none⟩) 128 cap) 128 (bytesV l) ∧ Below w.heap.size w wr) (fun iv _ => az.length - (intOf iv).toNat)
  case atStart => exact ⟨0, L0, rfl, by omega, by omega, hL0', hSm, hB0⟩
  case round =>
    obtain ⟨k, l, rfl, hk1, hk2, hll, hSl, hB⟩ := hrel
    clear hSm hB0
    by_cases hka : k < az.length
    · by_cases hkt : k < tz.length
      · obtain ⟨ga, oa, rfl, hga, hca⟩ := at_cell HA.out hB hka
        obtain ⟨gt, ot, rfl, hgt, hct⟩ := at_cell HT.out hB hkt
        have hza := HAB.out _ (List.getElem_mem hka)
        have hzt := HTB.out _ (List.getElem_mem hkt)
        generalize az[k] = za at *
        generalize tz[k] = zt at *
        obtain ⟨za, rfl⟩ := Int.eq_ofNat_of_zero_le hza.1
        obtain ⟨zt, rfl⟩ := Int.eq_ofNat_of_zero_le hzt.1
        have hza2 := hza.2
        have hzt2 := hzt.2
        obtain ⟨j, hjj⟩ : ∃ j, za % 128 = j := ⟨_, rfl⟩
        have hj : j < 128 := by omega
        have hcell := hSl.byte (j := j) (by omega)
        have hfro := hSl.unshut (j := j) (by omega)
        rw [Nat.zero_add] at hcell hfro
        have hset := fun v => Lib.hid (hSl.set (j := j) (by omega) v)
        have hmod : (za : Int) % 128 = j := by omega
        have j0 : (0 : Int) ≤ j := by omega
        have j1 : (j : Int) < 128 := by omega
        have k0 : (0 : Int) ≤ k := by omega
        have ka : (k : Int) < az.length := by omega
        have kt : (k : Int) < tz.length := by omega
        have hwr : IntKind.i64.wrap (za : Int) = za := IntWalk.i64_in _ (by omega)
        have htm : (za : Int).tmod 128 = j := by rw [Int.tmod_eq_emod_of_nonneg (by omega)]; exact hmod
        have HSl := Lib.hid hSl
        clear hSl hza hzt hj hjj hk1 hk2
        generalize l.getD j 0 = b at *
        go_wp2
        go_region
        go_wp2
        refine ⟨⟨k + 1, l.set j (UInt8.ofNat zt), by go_num, by omega, by omega, Lib.hid (by rw [List.length_set]; exact hll.out), ?_, (hB.setCell (p := ⟨G, j, none⟩) hg0 _).drew⟩, by simp [intOf]; omega⟩
        have h := (hset (.int .u8 ((UInt8.ofNat zt).toNat : Int))).out
        rw [bytesV_set, Nat.zero_add, show (((UInt8.ofNat zt).toNat : Nat) : Int) = (zt : Int) by rw [UInt8.toNat_ofNat']; omega] at h
        exact h
      · have kt : ¬ (k : Int) < tz.length := by omega
        have hcv := conv_sl hSl
        have HTM : Hid ((⟨l.toArray⟩ : ByteArray).size ≤ maxLen) := Lib.hid (by rw [size_mk, hll.out]; unfold maxLen; omega)
        generalize (⟨l.toArray⟩ : ByteArray) = T at *
        clear hSl hll hkt
        go_wp2_with fail
        refine (mdec_open T HTM.out _).mono ?_
        rintro e w3 ⟨rfl, hb⟩
        have HX := Lib.hid (hB.step hb)
        clear hb
        obtain ⟨X, hX⟩ : ∃ X, PMst.dec (T).data.toList = X := ⟨_, rfl⟩
        rw [hX]
        have HXE := Lib.hid hX
        clear hX hB
        obtain ⟨G0, e0⟩ := X
        dsimp only
        go_wp2_with fail
        refine (rdec_open T HTM.out _).mono ?_
        rintro e w4 ⟨rfl, hb⟩
        have hNx := (hb.block _ (by rw [World.size_alloc]; omega)).trans (heap_alloc_new w3 (.cells #[.int .u64 G0.count, .int .u64 G0.life, .int .u64 G0.check, .int .u64 G0.first, .bool G0.clean] 24))
        have HX2 := Lib.hid ((HX.out.alloc HX.out.size (.cells #[.int .u64 G0.count, .int .u64 G0.life, .int .u64 G0.check, .int .u64 G0.first, .bool G0.clean] 24)).step hb)
        have hlt := (Array.getElem?_eq_some_iff.1 hNx).1
        have hxA := fun (o : Obj) => cells5 ((Below.heap_alloc w4 o _ hlt).trans hNx)
        have x0 := fun o => (hxA o).1
        have x1 := fun o => (hxA o).2.1
        have x2 := fun o => (hxA o).2.2.1
        have x3 := fun o => (hxA o).2.2.2.1
        have x4 := fun o => (hxA o).2.2.2.2
        rw [HXE.out]
        dsimp only
        clear hb hNx hlt hxA
        go_wp2_with fail
        refine (works12_any _).mono ?_
        rintro e w5 ⟨rfl, hb⟩
        have HX3 := Lib.hid ((HX2.out.alloc HX2.out.size _).step hb)
        clear hb
        go_wp2
        go_ret
        exact ⟨rfl, HX3.out⟩
    · have ka : ¬ (k : Int) < az.length := by omega
      have hcv := conv_sl hSl
      have HTM : Hid ((⟨l.toArray⟩ : ByteArray).size ≤ maxLen) := Lib.hid (by rw [size_mk, hll.out]; unfold maxLen; omega)
      generalize (⟨l.toArray⟩ : ByteArray) = T at *
      clear hSl hll hka
      go_wp2_with fail
      refine (mdec_open T HTM.out _).mono ?_
      rintro e w3 ⟨rfl, hb⟩
      have HX := Lib.hid (hB.step hb)
      clear hb
      obtain ⟨X, hX⟩ : ∃ X, PMst.dec (T).data.toList = X := ⟨_, rfl⟩
      rw [hX]
      have HXE := Lib.hid hX
      clear hX hB
      obtain ⟨G0, e0⟩ := X
      dsimp only
      go_wp2_with fail
      refine (rdec_open T HTM.out _).mono ?_
      rintro e w4 ⟨rfl, hb⟩
      have hNx := (hb.block _ (by rw [World.size_alloc]; omega)).trans (heap_alloc_new w3 (.cells #[.int .u64 G0.count, .int .u64 G0.life, .int .u64 G0.check, .int .u64 G0.first, .bool G0.clean] 24))
      have HX2 := Lib.hid ((HX.out.alloc HX.out.size (.cells #[.int .u64 G0.count, .int .u64 G0.life, .int .u64 G0.check, .int .u64 G0.first, .bool G0.clean] 24)).step hb)
      have hlt := (Array.getElem?_eq_some_iff.1 hNx).1
      have hxA := fun (o : Obj) => cells5 ((Below.heap_alloc w4 o _ hlt).trans hNx)
      have x0 := fun o => (hxA o).1
      have x1 := fun o => (hxA o).2.1
      have x2 := fun o => (hxA o).2.2.1
      have x3 := fun o => (hxA o).2.2.2.1
      have x4 := fun o => (hxA o).2.2.2.2
      rw [HXE.out]
      dsimp only
      clear hb hNx hlt hxA
      go_wp2_with fail
      refine (works12_any _).mono ?_
      rintro e w5 ⟨rfl, hb⟩
      have HX3 := Lib.hid ((HX2.out.alloc HX2.out.size _).step hb)
      clear hb
      go_wp2
      go_ret
      exact ⟨rfl, HX3.out⟩
set_option maxHeartbeats 1000000 in
theorem masterTells_any (m : Mst) (hm : m.Ok) (s : ByteArray) (hs : s.size ≤ maxLen) (own : Bool) (va vt : Value) (az tz : List Int) (w : World) (ha : Rd w va (az.map (Value.int .u8))) (hto : Rd w vt (tz.map (Value.int .u8))) (hab : ∀ z ∈ az, (Lit.int .u8 z).wf = true) (htb : ∀ z ∈ tz, (Lit.int .u8 z).wf = true) :
    Calls Try.prog 3 #[mv m, .string s, .bool own, va, vt] w fun e w' => e = .returned (.bool true) ∧ Below w.heap.size w w' := by
  obtain ⟨pa, ca, rfl, ha2, ha3, ha4⟩ := ha
  obtain ⟨pt, ct, rfl, ht2, ht3, ht4⟩ := hto
  rw [List.length_map] at ha2 ht2
  rw [List.length_map, List.length_map]
  by_cases hall : s.size ≤ 512 ∧ az.length ≤ 8 ∧ tz.length ≤ 8
  · obtain ⟨d1, d2, d3⟩ := hall
    unfold maxLen at ha3 ht3
    cases own
    · exact masterTells_plain false w m hm s d1 pa pt ca ct az tz d2 d3 (.inl rfl)
    · cases hmay : PMst.may m
      · exact masterTells_plain true w m hm s d1 pa pt ca ct az tz d2 d3 (.inr hmay)
      · exact masterTells_own w m hm s d1 pa pt ca ct az tz d2 d3 hmay ha4 ht4 (fun z hz => by have := bounds_u8 (hab z hz); omega) (fun z hz => by have := bounds_u8 (htb z hz); omega)
  have hcases : (512 < s.size) ∨ (¬ 512 < s.size ∧ 8 < az.length) ∨ (¬ 512 < s.size ∧ ¬ 8 < az.length ∧ 8 < tz.length) := by omega
  unfold maxLen at ha3 ht3 hs
  unfold mv
  clear hall ha4 ht4 hab htb hm
  rcases hcases with d1 | ⟨d1, d2⟩ | ⟨d1, d2, d3⟩
  · have f1 : (512 : Int) < s.size := by omega
    go_enter Try.func3, Try.ntmps3
    go_wp2_with fail
    refine (works12_any _).mono ?_; rintro e w3 ⟨rfl, hb⟩
    have HZ := Lib.hid (((Below.refl w.heap.size w).alloc (Nat.le_refl _) _).step hb)
    clear hb
    go_wp2
    go_ret
    exact ⟨rfl, HZ.out⟩
  · have f1 : ¬ (512 : Int) < s.size := by omega
    have f2 : (8 : Int) < az.length := by omega
    go_enter Try.func3, Try.ntmps3
    go_wp2_with fail
    refine (works12_any _).mono ?_; rintro e w3 ⟨rfl, hb⟩
    have HZ := Lib.hid (((Below.refl w.heap.size w).alloc (Nat.le_refl _) _).step hb)
    clear hb
    go_wp2
    go_ret
    exact ⟨rfl, HZ.out⟩
  · have f1 : ¬ (512 : Int) < s.size := by omega
    have f2 : ¬ (8 : Int) < az.length := by omega
    have f3 : (8 : Int) < tz.length := by omega
    go_enter Try.func3, Try.ntmps3
    go_wp2_with fail
    refine (works12_any _).mono ?_; rintro e w3 ⟨rfl, hb⟩
    have HZ := Lib.hid (((Below.refl w.heap.size w).alloc (Nat.le_refl _) _).step hb)
    clear hb
    go_wp2
    go_ret
    exact ⟨rfl, HZ.out⟩
end Go.Proofs.Ytmbialiledjigaa
