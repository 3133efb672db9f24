/-
  Records: the walk of RecReads.
-/
import Derived.Test.YtpkmnihiepbmcaaRec13
import Derived.Test.YtpkmnihiepbmcaaRfe
import Derived.Test.YtpkmnihiepbmcaaRd
import Derived.Deep.DeepCutAuto
import Derived.IntWalk
namespace Go.Proofs.Ytpkmnihiepbmcaa
open Go.RowKit
open PRec (Rec Drt Atx)
theorem at_cell9 {w wr : World} {p : Option Addr} {k : IntKind} {zs : List Int} (h : zs.map (Value.int k) ≠ [] → ∃ g off, p = some ⟨g, off, none⟩ ∧ g < w.heap.size ∧ ∀ j (h : j < (zs.map (Value.int k)).length), w.cell? ⟨g, off + j, none⟩ = some (zs.map (Value.int k))[j]) (hB : Below w.heap.size w wr) {j : Nat} (hj : j < zs.length) :
    ∃ g off, p = some ⟨g, off, none⟩ ∧ g < w.heap.size ∧ wr.cell? ⟨g, off + j, none⟩ = some (.int k zs[j]) := by
  obtain ⟨g, off, h1, h2, h3⟩ := h (by intro e; have := congrArg List.length e; simp at this; subst this; simp at hj)
  refine ⟨g, off, h1, h2, (hB.cell (p := ⟨g, off + j, none⟩) h2).trans ?_⟩
  rw [h3 j (by simpa using hj)]
  simp
/-- one record in a box of its own -/
def K1 (w W : World) (A : Array Value) : Prop := Below w.heap.size w W ∧ W.heap[w.heap.size]? = some (.cells A 32 (0, 0))
theorem K1.step {w W W' : World} {A : Array Value} (h : K1 w W A) (hb : Below W.heap.size W W') : K1 w W' A :=
  ⟨h.1.step hb, (hb.block _ (Array.getElem?_eq_some_iff.1 h.2).1).trans h.2⟩
theorem K1.new (w : World) (A : Array Value) : K1 w (w.alloc (.cells A 32)) A := ⟨(Below.refl w.heap.size w).alloc (Nat.le_refl _) _, heap_alloc_new w _⟩
theorem enc_small (r : Rec) : (PRec.enc r).length ≤ 4096 := by
  cases h : PRec.may r
  · have : PRec.enc r = [] := by unfold PRec.enc; rw [h]; rfl
    rw [this]; simp
  · exact (PRec.enc_length h).2
set_option maxRecDepth 20000 in
set_option maxHeartbeats 8000000 in
theorem recReads_any (s : ByteArray) (hs : s.size ≤ maxLen) (r : Rec) (hr : r.Ok) (own : Bool) (vd vt va vb : Value) (az tz : List Int) (cut : Nat) (hcz : cut < 65536) (w : World) (hi : RecIn w r vd vt) (ha : Rd w va (az.map (Value.int .u16))) (hto : Rd w vb (tz.map (Value.int .u8))) (hab : ∀ z ∈ az, 0 ≤ z ∧ z < 65536) (htb : ∀ z ∈ tz, 0 ≤ z ∧ z < 256) :
    Calls Try.prog 4 #[.string s, rv r vd vt, .bool own, va, vb, .int .u16 cut] w fun e w' => e = .returned (.bool true) ∧ Below w.heap.size w w' := by
  have HI := Lib.hid hi
  have HRO := Lib.hid hr
  have HWK := Lib.hid works9_any
  have HAB := Lib.hid hab
  have HTB := Lib.hid htb
  obtain ⟨pd, cd, rfl, _, _⟩ := hi.1.form
  obtain ⟨pt, ct, rfl, _, _⟩ := hi.2.form
  obtain ⟨pa, ca, rfl, ha2, ha3, ha4⟩ := ha
  obtain ⟨pb, cb, rfl, ht2, ht3, ht4⟩ := hto
  rw [List.length_map] at ha2 ht2
  rw [List.length_map, List.length_map]
  have HA := Lib.hid ha4
  have HT := Lib.hid ht4
  unfold maxLen at ha3 ht3
  clear hi hr hab htb ha4 ht4 ha2 ht2
  have HSM := Lib.hid hs
  clear hs
  have HK := Lib.hid (K1.new w (rc r (.slice pd r.dirty.length cd) (.slice pt r.txns.length ct)))
  unfold rv
  have c := box12d HK.out.2
  unfold rc at c
  obtain ⟨c0, c1, c2, c3, c4, c5, c6, c7, c8, c9, c10, c11⟩ := c
  by_cases hl : 8192 < s.size
  · have y : (8192 : Int) < s.size := by omega
    clear hl c0 c1 c2 c3 c4 c5 c6 c7 c8 c9 c10 c11
    go_enter Try.func4, Try.ntmps4
    go_wp2_with fail
    refine (HWK.out _).mono ?_
    rintro e wz ⟨rfl, hbz⟩
    have HZ := Lib.hid (HK.out.step hbz)
    clear hbz
    go_wp2
    go_ret
    exact ⟨rfl, HZ.out.1⟩
  have y : ¬ (8192 : Int) < s.size := by omega
  go_enter Try.func4, Try.ntmps4
  go_wp2_with fail
  refine (heavy9_any r _ _ _ (HI.out.step HK.out.1)).mono ?_
  rintro e w1 ⟨rfl, hb1⟩
  replace HK := Lib.hid (HK.out.step hb1)
  clear hb1 c0 c1 c2 c3 c4 c5 c6 c7 c8 c9 c10 c11
  cases h1 : heavy r
  case true =>
    clear h1
    go_wp2_with fail
    refine (HWK.out _).mono ?_
    rintro e wz ⟨rfl, hbz⟩
    have HZ := Lib.hid (HK.out.step hbz)
    clear hbz
    go_wp2
    go_ret
    exact ⟨rfl, HZ.out.1⟩
  case false =>
    obtain ⟨la1, la2, la3⟩ := light h1
    clear h1
    by_cases h8 : 8 < az.length
    · have y8 : (8 : Int) < az.length := by omega
      clear h8
      go_wp2_with fail
      refine (HWK.out _).mono ?_
      rintro e wz ⟨rfl, hbz⟩
      have HZ := Lib.hid (HK.out.step hbz)
      clear hbz
      go_wp2
      go_ret
      exact ⟨rfl, HZ.out.1⟩
    have y8 : ¬ (8 : Int) < az.length := by omega
    by_cases h9 : 8 < tz.length
    · have y9 : (8 : Int) < tz.length := by omega
      clear h9
      go_wp2_with fail
      refine (HWK.out _).mono ?_
      rintro e wz ⟨rfl, hbz⟩
      have HZ := Lib.hid (HK.out.step hbz)
      clear hbz
      go_wp2
      go_ret
      exact ⟨rfl, HZ.out.1⟩
    have y9 : ¬ (8 : Int) < tz.length := by omega
    go_upto_if 37 with fail
    go_cut [0] (fun s0 wx => ∃ T : ByteArray, s0 = .string T ∧ T.size ≤ 100000 ∧ Hid (Below w.heap.size w wx))
    case first =>
      cases own
      · go_wp2_with fail
        go_meet
        exact ⟨s, rfl, by omega, Lib.hid HK.out.1⟩
      · obtain ⟨c0, c1, c2, c3, c4, c5, c6, c7, c8, c9, c10, c11⟩ := box12d HK.out.2
        go_wp2_with fail
        refine (renc_any r HRO.out (by omega) _ _ _ (HI.out.step HK.out.1)).mono ?_
        rintro e w2 ⟨rfl, hb⟩
        have hB := HK.out.1.step hb
        clear hb HK c0 c1 c2 c3 c4 c5 c6 c7 c8 c9 c10 c11
        obtain ⟨S, hS⟩ : ∃ t, (⟨(PRec.enc r).toArray⟩ : ByteArray) = t := ⟨_, rfl⟩
        have hSz : S.size ≤ 4096 := by rw [← hS]; exact enc_small r
        rw [hS]
        clear hS HRO HI la1 la2 la3
        go_wp2
        have hSm := Sl.of_string w2 w.heap.size hB.size S 5 (by unfold maxLen; omega) _ rfl
        change Sl ((w2.alloc _).drew) _ _ _ _ _ _ at hSm
        have hB0 : Below w.heap.size w ((w2.alloc (Obj.cells (bytesRow S (grownCap w2 S.size 0 5)) 5 ((bytesRow S (grownCap w2 S.size 0 5)).size, (bytesRow S (grownCap w2 S.size 0 5)).size + 1))).drew) := (hB.alloc hB.size _).drew
        have hl0 : S.data.toList.length = S.size := list_size S
        generalize S.data.toList = L0 at *
        have hg0 := hB.size
        generalize ((w2.alloc (Obj.cells (bytesRow S (grownCap w2 S.size 0 5)) 5 ((bytesRow S (grownCap w2 S.size 0 5)).size, (bytesRow S (grownCap w2 S.size 0 5)).size + 1))).drew) = W0 at *
        generalize grownCap w2 S.size 0 5 = cap at *
        generalize w2.heap.size = G at *
        generalize S.size = N at *
        clear hB
        have hL0' := Lib.hid hl0
        clear hl0
        go_loopw [14] (fun iv wr => ∃ (k : Nat) (l : List UInt8), iv = .int .i64 k ∧ k ≤ az.length ∧ k ≤ tz.length ∧ Hid (l.length = N) ∧ Sl wr w.heap.size 5 1 (.slice (some ⟨G, 0, none⟩) N cap) N (bytesV l) ∧ Below w.heap.size w wr) (fun iv _ => az.length - (intOf iv).toNat)
        case atStart => exact ⟨0, L0, rfl, by omega, by omega, hL0', hSm, hB0⟩
        case round =>
          obtain ⟨k, l, rfl, hk1, hk2, hll, hSl, hB⟩ := hrel
          clear hSm hB0
          have hcase : (¬ k < az.length) ∨ (k < az.length ∧ ¬ k < tz.length) ∨ (k < az.length ∧ k < tz.length ∧ N = 0) ∨ (k < az.length ∧ k < tz.length ∧ 0 < N) := by omega
          rcases hcase with hka | ⟨hka, hkt⟩ | ⟨hka, hkt, hn0⟩ | ⟨hka, hkt, hn0⟩
          · have ka : ¬ (k : Int) < az.length := by omega
            have hcv := conv_sl hSl
            have HTM : Hid ((⟨l.toArray⟩ : ByteArray).size = N) := Lib.hid (by rw [size_mk, hll.out])
            generalize (⟨l.toArray⟩ : ByteArray) = T at *
            have HB := Lib.hid hB
            clear hSl hll hka hB
            have hwc : IntKind.i64.wrap (cut : Int) = cut := IntWalk.i64_in _ (by omega)
            have c0 : (0 : Int) ≤ cut := by omega
            have htsz := HTM.out
            by_cases hc : cut < T.size
            · have y1 : (cut : Int) < T.size := by omega
              have y2 : (cut : Int) ≤ T.size := by omega
              have HC := Lib.hid hc
              clear hc htsz
              go_wp2_with fail
              go_meet
              exact ⟨_, rfl, by have := HC.out; have := HTM.out; simp; omega, Lib.hid HB.out⟩
            · have y1 : ¬ (cut : Int) < T.size := by omega
              clear hc htsz
              go_wp2_with fail
              go_meet
              exact ⟨_, rfl, by have := HTM.out; omega, Lib.hid HB.out⟩
          · have ka : (k : Int) < az.length := by omega
            have kt : ¬ (k : Int) < tz.length := by omega
            have hcv := conv_sl hSl
            have HTM : Hid ((⟨l.toArray⟩ : ByteArray).size = N) := Lib.hid (by rw [size_mk, hll.out])
            generalize (⟨l.toArray⟩ : ByteArray) = T at *
            have HB := Lib.hid hB
            clear hSl hll hka hB
            have hwc : IntKind.i64.wrap (cut : Int) = cut := IntWalk.i64_in _ (by omega)
            have c0 : (0 : Int) ≤ cut := by omega
            have htsz := HTM.out
            by_cases hc : cut < T.size
            · have y1 : (cut : Int) < T.size := by omega
              have y2 : (cut : Int) ≤ T.size := by omega
              have HC := Lib.hid hc
              clear hc htsz
              go_wp2_with fail
              go_meet
              exact ⟨_, rfl, by have := HC.out; have := HTM.out; simp; omega, Lib.hid HB.out⟩
            · have y1 : ¬ (cut : Int) < T.size := by omega
              clear hc htsz
              go_wp2_with fail
              go_meet
              exact ⟨_, rfl, by have := HTM.out; omega, Lib.hid HB.out⟩
          · have ka : (k : Int) < az.length := by omega
            have kt : (k : Int) < tz.length := by omega
            have kn : ¬ (0 : Int) < N := by omega
            clear hn0
            have hcv := conv_sl hSl
            have HTM : Hid ((⟨l.toArray⟩ : ByteArray).size = N) := Lib.hid (by rw [size_mk, hll.out])
            generalize (⟨l.toArray⟩ : ByteArray) = T at *
            have HB := Lib.hid hB
            clear hSl hll hka hB
            have hwc : IntKind.i64.wrap (cut : Int) = cut := IntWalk.i64_in _ (by omega)
            have c0 : (0 : Int) ≤ cut := by omega
            have htsz := HTM.out
            by_cases hc : cut < T.size
            · have y1 : (cut : Int) < T.size := by omega
              have y2 : (cut : Int) ≤ T.size := by omega
              have HC := Lib.hid hc
              clear hc htsz
              go_wp2_with fail
              go_meet
              exact ⟨_, rfl, by have := HC.out; have := HTM.out; simp; omega, Lib.hid HB.out⟩
            · have y1 : ¬ (cut : Int) < T.size := by omega
              clear hc htsz
              go_wp2_with fail
              go_meet
              exact ⟨_, rfl, by have := HTM.out; omega, Lib.hid HB.out⟩
          · obtain ⟨ga, oa, rfl, hga, hca⟩ := at_cell9 HA.out hB hka
            obtain ⟨gt, ot, rfl, hgt, hct⟩ := at_cell9 HT.out hB hkt
            have hza := HAB.out _ (List.getElem_mem hka)
            have hzt := HTB.out _ (List.getElem_mem hkt)
            generalize az[k] = za at *
            generalize tz[k] = zt at *
            obtain ⟨za, rfl⟩ := Int.eq_ofNat_of_zero_le hza.1
            obtain ⟨zt, rfl⟩ := Int.eq_ofNat_of_zero_le hzt.1
            have hza2 := hza.2
            have hzt2 := hzt.2
            obtain ⟨j, hjj⟩ : ∃ j, za % N = j := ⟨_, rfl⟩
            have hj : j < N := by rw [← hjj]; exact Nat.mod_lt _ hn0
            have hcell := hSl.byte (j := j) (by have := hll.out; omega)
            have hfro := hSl.unshut (j := j) (by omega)
            rw [Nat.zero_add] at hcell hfro
            have hset := fun v => Lib.hid (hSl.set (j := j) (by omega) v)
            have hmod : (za : Int) % (N : Int) = j := by rw [← hjj]; simp
            have j0 : (0 : Int) ≤ j := by omega
            have j1 : (j : Int) < N := by omega
            have k0 : (0 : Int) ≤ k := by omega
            have ka : (k : Int) < az.length := by omega
            have kt : (k : Int) < tz.length := by omega
            have kn : (0 : Int) < N := by omega
            have kne : ((N : Int) == 0) = false := by rw [beq_eq_false_iff_ne]; omega
            have kne2 : ¬ (N : Int) = 0 := by omega
            have hwr : IntKind.i64.wrap (za : Int) = za := IntWalk.i64_in _ (by omega)
            have hwj : IntKind.i64.wrap (j : Int) = j := IntWalk.i64_in _ (by omega)
            have htm : (za : Int).tmod N = j := by rw [Int.tmod_eq_emod_of_nonneg (by omega)]; exact hmod
            have HSl := Lib.hid hSl
            clear hSl hza hzt hjj hk1 hk2
            generalize l.getD j 0 = b at *
            go_wp2
            go_region
            go_wp2
            refine ⟨⟨k + 1, l.set j (UInt8.ofNat zt), by go_num, by omega, by omega, Lib.hid (by rw [List.length_set]; exact hll.out), ?_, (hB.setCell (p := ⟨G, j, none⟩) hg0 _).drew⟩, by simp [intOf]; omega⟩
            have h := (hset (.int .u8 ((UInt8.ofNat zt).toNat : Int))).out
            rw [bytesV_set, Nat.zero_add, show (((UInt8.ofNat zt).toNat : Nat) : Int) = (zt : Int) by rw [UInt8.toNat_ofNat']; omega] at h
            exact h
    case rest =>
      obtain ⟨T, rfl, hT, HB⟩ := hcut
      obtain ⟨w4, hw4⟩ : ∃ x, x = wc := ⟨_, rfl⟩
      subst hw4
      clear HSM HK HA HT HAB HTB ha3 ht3 y y8 y9 h8 h9 hl hcz
      go_wp2_with fail
      refine (dec9_any T hT _).mono ?_
      rintro e w5 ⟨u1, u2, rfl, hri, hb⟩
      have HDR := Lib.hid (fun W => rdec_any T hT W)
      obtain ⟨X, hX⟩ : ∃ X, PRec.dec T.data.toList = X := ⟨_, rfl⟩
      rw [hX] at hri HDR ⊢
      obtain ⟨G, e0⟩ := X
      dsimp only at hri HDR ⊢
      replace HB := Lib.hid (HB.out.step hb)
      clear hb hX
      have HRI := Lib.hid hri
      obtain ⟨p1, q1, rfl, _, _⟩ := hri.1.form
      obtain ⟨p2, q2, rfl, _, _⟩ := hri.2.form
      clear hri
      unfold rv
      have HN1 := Lib.hid (heap_alloc_new w5 (.cells (rc G (.slice p1 G.dirty.length q1) (.slice p2 G.txns.length q2)) 32))
      replace HRI := Lib.hid (HRI.out.step ((Below.refl w5.heap.size w5).alloc (Nat.le_refl _) (.cells (rc G (.slice p1 G.dirty.length q1) (.slice p2 G.txns.length q2)) 32)))
      replace HB := Lib.hid (HB.out.alloc HB.out.size (.cells (rc G (.slice p1 G.dirty.length q1) (.slice p2 G.txns.length q2)) 32))
      go_wp2_with fail
      refine (HDR.out _).mono ?_
      rintro e w6 ⟨u3, u4, rfl, hri, hb⟩
      replace HB := Lib.hid (HB.out.step hb)
      replace HN1 := Lib.hid ((hb.block _ (Array.getElem?_eq_some_iff.1 HN1.out).1).trans HN1.out)
      replace HRI := Lib.hid (HRI.out.step hb)
      clear hb
      have HRJ := Lib.hid hri
      obtain ⟨p3, q3, rfl, _, _⟩ := hri.1.form
      obtain ⟨p4, q4, rfl, _, _⟩ := hri.2.form
      clear hri
      unfold rv
      have HN2 := Lib.hid (heap_alloc_new w6 (.cells (rc G (.slice p3 G.dirty.length q3) (.slice p4 G.txns.length q4)) 32))
      replace HN1 := Lib.hid ((Below.heap_alloc w6 (.cells (rc G (.slice p3 G.dirty.length q3) (.slice p4 G.txns.length q4)) 32) _ (Array.getElem?_eq_some_iff.1 HN1.out).1).trans HN1.out)
      replace HRI := Lib.hid (HRI.out.step ((Below.refl w6.heap.size w6).alloc (Nat.le_refl _) (.cells (rc G (.slice p3 G.dirty.length q3) (.slice p4 G.txns.length q4)) 32)))
      replace HRJ := Lib.hid (HRJ.out.step ((Below.refl w6.heap.size w6).alloc (Nat.le_refl _) (.cells (rc G (.slice p3 G.dirty.length q3) (.slice p4 G.txns.length q4)) 32)))
      replace HB := Lib.hid (HB.out.alloc HB.out.size (.cells (rc G (.slice p3 G.dirty.length q3) (.slice p4 G.txns.length q4)) 32))
      have c := box12d HN1.out
      unfold rc at c
      obtain ⟨c0, c1, c2, c3, c4, c5, c6, c7, c8, c9, c10, c11⟩ := c
      have d := box12d HN2.out
      unfold rc at d
      obtain ⟨d0, d1, d2, d3, d4, d5, d6, d7, d8, d9, d10, d11⟩ := d
      have he0 : (e0 == e0) = true := by simp
      go_wp2_with fail
      refine (rsame_any G G _ _ _ _ _ HRI.out HRJ.out).mono ?_
      rintro e w7 ⟨rfl, hb⟩
      rw [show decide (G = G) = true by simp]
      replace HB := Lib.hid (HB.out.step hb)
      clear hb HN1 HN2 HRI HRJ c0 c1 c2 c3 c4 c5 c6 c7 c8 c9 c10 c11 d0 d1 d2 d3 d4 d5 d6 d7 d8 d9 d10 d11
      go_wp2_with fail
      refine (HWK.out _).mono ?_
      rintro e w8 ⟨rfl, hb⟩
      replace HB := Lib.hid (HB.out.step hb)
      clear hb
      go_wp2
      go_ret
      exact ⟨rfl, HB.out⟩
end Go.Proofs.Ytpkmnihiepbmcaa
