/-
  DiskKeeps returns true.
-/
import Derived.Test.YtkmgmfahhidbbaaKState
namespace Go.Proofs.Ytkmgmfahhidbbaa
open Go.RowKit
theorem elem_byte : ElemT Try.prog 31 5 1 1 := ElemT.mk' (z := .int .u8 0) Try.underlying31 (by kernel_rfl) rfl (by decide)
theorem bools_one (ks : List Bool) : ∀ u ∈ ks.map Value.bool, u.oneCell' = true := by
  intro u hu
  obtain ⟨b, _, rfl⟩ := List.mem_map.1 hu
  rfl
theorem elem_bb : ElemT Try.prog 32 31 1 24 := ElemT.mk' (z := .slice none 0 0) Try.underlying32 (by kernel_rfl) rfl (by decide)
def kD (s : Nat → UInt8) (ls : List (Nat × UInt8)) (f : Int) : PDsk.Dsk := ⟨PKeep.rowS s, PKeep.wls ls, f⟩
theorem kD_new (f : Int) : ({ PDsk.new 4 with fuse := f } : PDsk.Dsk) = kD (fun _ => 0) [] f := rfl
theorem fullL_full (b : UInt8) : fullL b.toNat = PKeep.full b := by simp [fullL, PKeep.full]
theorem full_inj {b c : UInt8} (h : PKeep.full b = PKeep.full c) : b = c := by
  have := congrArg List.head? h
  simpa [PKeep.full, List.head?_replicate] using this
theorem full_cmp (b c : UInt8) : (PKeep.full b == PKeep.full c) = decide (b = c) := by
  by_cases h : b = c
  · subst h; simp
  · rw [decide_eq_false h, beq_eq_false_iff_ne]; exact fun e => h (full_inj e)
theorem KS.congr {B bd gS gO oO cO : Nat} {w0 W : World} {D : PDsk.Dsk} {own : List Nat} {sB sB' : Nat → UInt8} {vs : Nat → Value} {ns ns' : Nat → List UInt8} (h : KS B bd gS gO oO cO w0 W D own sB vs ns) (hs : ∀ k, k < 4 → sB k = sB' k) (hn : ∀ k, k < 4 → ns k = ns' k) : KS B bd gS gO oO cO w0 W D own sB' vs ns' := by
  obtain ⟨h1, h2, h3, h4, h5, h6, h7, h8⟩ := h
  have e : (List.range 4).map sB = (List.range 4).map sB' := List.map_congr_left (fun k hk => hs k (List.mem_range.1 hk))
  rw [e] at h4
  exact ⟨h1, h2, h3, h4, h5, fun k hk => by rw [← hn k hk]; exact h6 k hk, h7, h8⟩
theorem KS.sureCell {B bd gS gO oO cO : Nat} {w0 W : World} {D : PDsk.Dsk} {own : List Nat} {sB : Nat → UInt8} {vs : Nat → Value} {ns : Nat → List UInt8} (h : KS B bd gS gO oO cO w0 W D own sB vs ns) {k : Nat} (hk : k < 4) :
    W.cell? ⟨gS, k, none⟩ = some (.int .u8 ((sB k).toNat : Int)) ∧ W.frozen? ⟨gS, k, none⟩ = false := by
  have h4 := h.2.2.2.1
  have h1 := h4.cell (j := k) (by rw [bytesV_length]; simpa using hk)
  have h2 := h4.unshut (j := k) (by omega)
  rw [Nat.zero_add] at h1 h2
  exact ⟨by rw [h1]; simp [bytesV], h2⟩
theorem KS.sinceCell {B bd gS gO oO cO : Nat} {w0 W : World} {D : PDsk.Dsk} {own : List Nat} {sB : Nat → UInt8} {vs : Nat → Value} {ns : Nat → List UInt8} (h : KS B bd gS gO oO cO w0 W D own sB vs ns) {k : Nat} (hk : k < 4) :
    W.cell? ⟨gO, oO + k, none⟩ = some (vs k) ∧ W.frozen? ⟨gO, oO + k, none⟩ = false := by
  have h5 := h.2.2.2.2.1
  exact ⟨by rw [h5.cell (j := k) (by simpa using hk)]; simp, h5.unshut (j := k) (by omega)⟩
theorem cell_same {w w' : World} {g o : Nat} (h : w'.heap[g]? = w.heap[g]?) : w'.cell? ⟨g, o, none⟩ = w.cell? ⟨g, o, none⟩ ∧ w'.frozen? ⟨g, o, none⟩ = w.frozen? ⟨g, o, none⟩ := by simp [World.cell?, World.frozen?, h]
theorem kD_write (s : Nat → UInt8) (ls : List (Nat × UInt8)) (f : Int) (hf : f ≠ 0) (k c : Nat) (hk : k < 4) : PDsk.write (kD s ls f) k (fullL c) = (kD s (ls ++ [(k, UInt8.ofNat c)]) (PDsk.burn f), 0) := by
  unfold PDsk.write
  rw [if_neg (by exact hf), if_neg (by simp [kD, PKeep.rowS, fullL]; omega)]
  simp [kD, PKeep.wls, fullL, PKeep.full]
theorem kD_sync (s : Nat → UInt8) (ls : List (Nat × UInt8)) (f : Int) (hf : f ≠ 0) : PDsk.sync (kD s ls f) = (kD (PKeep.upd s ls) [] (PDsk.burn f), 0) := by
  unfold PDsk.sync
  rw [if_neg (by exact hf)]
  unfold PDsk.synced kD
  dsimp only
  rw [PKeep.fold_rows]
  rfl
set_option maxRecDepth 100000 in
set_option maxHeartbeats 60000000 in
theorem diskKeeps_ok (w : World) (v vk : Value) (cs : List CallM) (ks : List Bool) (fu : Nat) (hfu : fu < 256) (h : RdCalls w v cs) (hok : ∀ x ∈ cs, x.Ok) (hk : Rd w vk (ks.map Value.bool)) (hl : cs.length ≤ 100) (hkl : ks.length ≤ 200) (hhv : heavyB cs = false) :
    Calls Try.prog 3 #[v, .int .u8 fu, vk] w fun e w' => e = .returned (.bool true) ∧ Below w.heap.size w w' := by
  have HC := Lib.hid h
  have HKR := Lib.hid hk
  have HOK := Lib.hid hok
  have HHV := Lib.hid hhv
  obtain ⟨p, c, rfl, h2, h3, h4⟩ := h
  obtain ⟨pk, ck, rfl, k2, k3, k4⟩ := hk
  rw [List.length_map] at *
  unfold maxLen at h3 k3
  have H4 := Lib.hid h4
  clear h4 k4 hok hhv
  have f200 : ¬ (200 : Int) < ks.length := by omega
  have hwf : IntKind.i64.wrap (fu : Int) = fu := IntWalk.i64_in _ (by omega)
  go_enter Try.func3, Try.ntmps3
  go_wp2_with fail
  refine (heavy_any _ _ cs HC.out HOK.out).mono ?_
  rintro e w1 ⟨rfl, hB⟩
  rw [HHV.out]
  go_wp2_with fail
  refine (new_any 4 (by decide) (by decide) _).mono ?_
  rintro e w2 ⟨hb, (⟨hx, rfl⟩ | ⟨_, _, bd, own0, rfl, hd0, ho0⟩)⟩
  · exact absurd (by decide) hx
  have hw1 := hB.size
  replace hB := hB.step hb
  have ho1 : ∀ k ∈ own0, w.heap.size ≤ k := fun k hk => Nat.le_trans hw1 (ho0 k hk)
  go_wp2_with fail
  refine (fuse_any _ hd0 fu (by omega) (by omega)).mono ?_
  rintro e w3 ⟨rfl, hd1, hs1⟩
  have hfx : PDsk.setFuse (PDsk.new (4 : Int).toNat) fu = (kD (fun _ => 0) [] fu, 0) := by unfold PDsk.setFuse; rw [if_neg (by omega)]; rfl
  rw [hfx] at hd1 ⊢
  obtain ⟨hB3, ho3⟩ := Stepped.below hB (Nat.le_refl _) ho1 hs1
  have HD := Lib.hid hd1
  have HO := Lib.hid ho3
  have HB := Lib.hid hB3
  have hsz3 := hB3.size
  clear hb hd0 ho0 hd1 hs1 hfx hB hB3 ho3 ho1
  go_wp2
  have hsS : Sl (w3.alloc (.cells #[.int .u8 0, .int .u8 0, .int .u8 0, .int .u8 0] 5)) w.heap.size 5 1 (.slice (some ⟨w3.heap.size, 0, none⟩) 4 4) 4 (bytesV ((List.range 4).map fun _ => (0 : UInt8))) := by
    have := Sl.of_block (w := w3.alloc (.cells #[.int .u8 0, .int .u8 0, .int .u8 0, .int .u8 0] 5)) (base := w.heap.size) (e := 5) (size := 1) (n := 4) (g := w3.heap.size) (off := 0) (cap := 4) (cur := #[.int .u8 0, .int .u8 0, .int .u8 0, .int .u8 0]) (fz := (0, 0))
      hsz3 (heap_alloc_new w3 _) (Free.none _) (Nat.le_refl _) (by unfold maxLen; omega) (by decide)
    exact this
  have hbA : Below w3.heap.size w3 (w3.alloc (.cells #[.int .u8 0, .int .u8 0, .int .u8 0, .int .u8 0] 5)) := (Below.refl _ _).alloc (Nat.le_refl _) _
  have HDA := Lib.hid (HD.out.below hbA)
  have HBA := Lib.hid (HB.out.step hbA)
  have HSA := Lib.hid hsS
  clear HD HB hsS hbA
  go_loopw [10, 11] (fun sv iv wr => ∃ k : Nat, k ≤ 4 ∧ iv = .int .i64 k ∧ Hid (IsDisk wr bd (kD (fun _ => 0) [] fu) own0) ∧ Hid (Below w.heap.size w wr) ∧ Hid (Sl wr w.heap.size 5 1 (.slice (some ⟨w3.heap.size, 0, none⟩) 4 4) 4 (bytesV ((List.range 4).map fun _ => (0 : UInt8)))) ∧ Hid (Sl wr w.heap.size 31 1 sv k (List.replicate k (.slice none 0 0)))) (fun _ iv _ => 4 - (intOf iv).toNat)
  case atStart => exact ⟨0, by omega, rfl, HDA, HBA, HSA, Lib.hid (Sl.nil _ _ _ _)⟩
  case round =>
    obtain ⟨k, hk4, rfl, HD, HB, HS, HL⟩ := hrel
    clear HDA HBA HSA
    have hszr := HB.out.size
    by_cases hlt : k < 4
    · go_wp2_with (at_builtin; (with_reducible apply wpList_append_sl elem_bb (HL.out.alloc _) [_]); (· rfl); (· rfl); (· rfl); (· rfl); (· rfl); (· exact news_alloc _ [_] _ _); (· intro u hu; simp at hu; subst hu; rfl); (· unfold maxLen; omega); (· omega); (· simp; omega); intro v' w5 g1 g2 _ g4)
      have HL2 : Hid (Sl w5 w.heap.size 31 1 v' (k + 1) (List.replicate (k + 1) (.slice none 0 0))) := Lib.hid (by rw [List.replicate_succ']; exact g1)
      have hba : Below wr.heap.size wr (wr.alloc (Obj.cells #[.slice none 0 0] 31)) := (Below.refl _ _).alloc (Nat.le_refl _) _
      have HB2 : Hid (Below w.heap.size w w5) := Lib.hid ((HB.out.step hba).grown g2 (by have := hba.size; omega) (fun j e => (HL.out.lt j e).1))
      have hd5 : IsDisk w5 bd (kD (fun _ => 0) [] fu) own0 := (HD.out.below hba).turns (bs := u10.ownBlock.toList) ⟨g2.os, g2.tape, g2.output, g2.size, fun j hj hjn => g2.block j hj (fun e => hjn (by rw [← e]; simp))⟩ (fun j hj hm => apart_own HD.out HL.out (.inr rfl) j (Option.mem_toList.1 hm) hj)
      have HD2 := Lib.hid hd5
      have hs5 := (HS.out.keep fun j e => (hba.block j (HS.out.lt j e).2))
      have HS2 := Lib.hid (hs5.keep fun j e => g2.block j (hs5.lt j e).2 (fun e' => apart_types HS.out HL.out (by decide) j e e'.symm))
      clear g1 g2 g4 hba hd5 hs5
      exact ⟨⟨k + 1, by omega, by go_num, HD2, HB2, HS2, HL2⟩, by simp [intOf]; omega⟩
    · have hk44 : k = 4 := by omega
      subst hk44
      obtain ⟨gO, oO, cO, hsv⟩ : ∃ gO oO cO, u10 = .slice (some ⟨gO, oO, none⟩) 4 cO := by
        rcases HL.out.shape with ⟨_, h0, _⟩ | ⟨g, o, c, h, _⟩
        · omega
        · exact ⟨g, o, c, h⟩
      subst hsv
      have hKS : KS w.heap.size bd w3.heap.size gO oO cO w wr (kD (fun _ => 0) [] fu) own0 (fun _ => 0) (fun _ => .slice none 0 0) (fun _ => []) :=
        ⟨HD.out, HO.out, HB.out, HS.out, HL.out, fun _ _ => Sl.nil _ _ _ _, fun _ _ _ _ _ _ e => by simp [Value.ownBlock] at e, fun _ _ => by simp [Value.ownBlock]⟩
      have HK0 := Lib.hid hKS
      clear HD HB HS HL hKS HO hlt hk4
      generalize w3.heap.size = gS at *
      go_wp2
      go_loopw [12] (fun iv wr => ∃ (i : Nat) (own : List Nat) (sB : Nat → UInt8) (vs : Nat → Value) (ls : List (Nat × UInt8)) (f : Int), i ≤ cs.length ∧ iv = .int .i64 i ∧ ls.length ≤ i ∧ Hid (KS w.heap.size bd gS gO oO cO w wr (kD sB ls f) own sB vs (PKeep.nsOf ls))) (fun iv _ => cs.length - (intOf iv).toNat)
      case atStart => exact ⟨0, own0, _, _, [], fu, by omega, rfl, by simp, HK0⟩
      case round =>
        obtain ⟨i, own, sB, vs, ls, f, hin, rfl, hls, HK⟩ := hrel
        clear HK0
        by_cases hlt : i < cs.length
        · obtain ⟨g, off, rfl, hg, hca⟩ := callAt_rd H4.out HK.out.2.2.1 hlt
          have hxk := HOK.out cs[i] (List.getElem_mem hlt)
          have hall : ∀ W, Below w.heap.size w W → CallAt W g (off + i * 7) cs[i] := fun W hW => by
            obtain ⟨g', off', e1, e2, e3⟩ := callAt_rd H4.out hW hlt
            simp at e1
            obtain ⟨rfl, rfl⟩ := e1
            exact e3
          obtain ⟨c0, c1, c2, _⟩ := hca
          generalize cs[i] = x at *
          obtain ⟨q1, q2, q3⟩ := kidx_eq x.k
          have q4 : (x.k.tmod 4 + 4) % 4 = (kidx x.k : Int) := by rw [← q1, Int.tmod_eq_emod_of_nonneg (a := x.k.tmod 4 + 4) (b := 4) (by omega)]
          have q5 := kidx_lt x.k
          have hc256 := hxk.2.2.2.1
          have hd256 := hxk.1
          have hk64 := hxk.2.1
          have hk64' := hxk.2.2.1
          have HALL := Lib.hid hall
          have Q1 := Lib.hid q1
          have Q4 := Lib.hid q4
          clear hall hxk
          have i0 : (0 : Int) ≤ i := by omega
          have i1 : (i : Int) < cs.length := by omega
          by_cases h8 : x.dO % 8 = 3
          · have h8i : (x.dO : Int) % 8 = 3 := by omega
            have h8t : (x.dO : Int).tmod 8 = 3 := by rw [Int.tmod_eq_emod_of_nonneg (by omega)]; exact h8i
            go_wp2_with fail
            refine (sync_any _ HK.out.1).mono ?_
            rintro e wq ⟨own, rfl, hd, hs⟩
            by_cases hf : f = 0
            · have hx : PDsk.sync (kD sB ls f) = (kD sB ls f, 40) := by unfold PDsk.sync; rw [if_pos (show (kD sB ls f).fuse = 0 from hf)]
              rw [hx] at hd ⊢
              have HKn := Lib.hid (HK.out.disk (Nat.le_refl _) hd hs)
              clear hd hs HK c0 c1 c2 hx
              have HK := HKn
              clear HKn
              have HBW := Lib.hid HK.out.2.2.1
              go_wp2_with (at_builtin; (with_reducible refine wpList_append_rd elem_bool (sl_empty _ 4 1) (HKR.out.below_base (HBW.out.alloc HBW.out.size _)) rfl rfl rfl rfl (bools_one ks) (by omega) (by simp) ?_))
              intro v' wz hz1 hz2 hz3
              obtain ⟨pz, cz, rfl⟩ := Sl.form hz1
              have hbz : Below _ _ wz := ((Below.refl _ _).alloc (Nat.le_refl _) (.cells #[] 4)).grown hz2 (by simp) (fun k e => by cases e; exact Nat.le_refl _)
              have hdis : ∀ k, (Value.slice pz ks.length cz).ownBlock = some k → k ∉ own := fun k e hm => by
                have h1 := (hz1.lt k e).1
                have h2 := HK.out.1.lt k hm
                omega
              have HRZ := Lib.hid (Rd.of_sl hz1)
              have HDIS := Lib.hid hdis
              have HKz := Lib.hid (HK.out.below (Nat.le_refl _) hbz)
              clear hbz hdis hz1 hz2 hz3 HK HBW
              go_wp2_with fail
              refine (crash_any _ HKz.out.1 _ ks HRZ.out HDIS.out).mono ?_
              rintro e wd ⟨ownC, rfl, hd, hs⟩
              have HKC := Lib.hid (HKz.out.disk (Nat.le_refl _) hd hs)
              have HROW := Lib.hid (fun k (hk : k < 4) => PKeep.crash_row sB ls f ks k hk)
              change Hid (∀ k : Nat, k < 4 → ∃ b, PDsk.read (PDsk.crash (kD sB ls f) ks) k = (PKeep.full b, 0) ∧ (b = sB k ∨ b ∈ PKeep.nsOf ls k)) at HROW
              clear hd hs HKz HRZ HDIS
              generalize PDsk.crash (kD sB ls f) ks = DC at *
              generalize PKeep.nsOf ls = ns at *
              go_wp2
              go_loopw [15] (fun iv wr => ∃ j : Nat, j ≤ 4 ∧ iv = .int .i64 j ∧ Hid (KS w.heap.size bd gS gO oO cO w wr DC ownC sB vs ns)) (fun iv _ => 4 - (intOf iv).toNat)
              case atStart => exact ⟨0, by omega, rfl, HKC⟩
              case round =>
                obtain ⟨j, hj4, rfl, HK⟩ := hrel
                clear HKC
                by_cases hlt4 : j < 4
                · obtain ⟨b, hrd, hbin⟩ := HROW.out j hlt4
                  have HRD := Lib.hid hrd
                  have HBI := Lib.hid hbin
                  clear hrd hbin
                  go_wp2_with fail
                  refine (read_any _ HK.out.1 j (by omega)).mono ?_
                  rintro e wq ⟨rfl, hb⟩
                  rw [HRD.out]
                  have HKq := Lib.hid (HK.out.below (Nat.le_refl _) hb)
                  clear hb HK
                  have hsc := (HKq.out.sureCell hlt4).1
                  have j0 : (0 : Int) ≤ j := by omega
                  have j1 : (j : Int) < 4 := by omega
                  go_wp2_with fail
                  refine (full_any (sB j).toNat (by have := (sB j).toNat_lt; omega) _).mono ?_
                  rintro e wt ⟨rfl, hb⟩
                  rw [fullL_full]
                  have HKt := Lib.hid (HKq.out.below (Nat.le_refl _) hb)
                  clear hb HKq hsc
                  have hcmp := full_cmp b (sB j)
                  obtain ⟨i0, hi0⟩ : ∃ i0, decide (b = sB j) = i0 := ⟨_, rfl⟩
                  rw [hi0] at hcmp
                  have HI0 : Hid (i0 = true ↔ b = sB j) := Lib.hid (by rw [← hi0]; simp)
                  clear hi0
                  go_wp2
                  have hw : wt = wt := rfl
                  go_loopw [18, 19] (fun bv iv wr => ∃ (q : Nat) (bq : Bool), q ≤ (ns j).length ∧ iv = .int .i64 q ∧ bv = .bool bq ∧ Hid (bq = true ↔ (b = sB j ∨ b ∈ (ns j).take q)) ∧ Hid (KS w.heap.size bd gS gO oO cO w wr DC ownC sB vs ns)) (fun _ iv _ => (ns j).length - (intOf iv).toNat)
                  case atStart => exact ⟨0, i0, by omega, rfl, rfl, Lib.hid (by rw [HI0.out]; simp), HKt⟩
                  case round =>
                    obtain ⟨q, bq, hq, rfl, rfl, HBQ, HK⟩ := hrel
                    clear HKt hcmp
                    have hvc := (HK.out.sinceCell hlt4).1
                    have hsl := HK.out.2.2.2.2.2.1 j hlt4
                    obtain ⟨pv, cv, hform⟩ := Sl.form hsl
                    rw [hform] at hvc
                    have hn63 : (ns j).length ≤ maxLen := by
                      rcases hsl.2 with ⟨_, h0⟩ | ⟨_, _, _, _, _, h0, _, _, _, h5, h6, _⟩
                      · rw [h0]; exact Nat.zero_le _
                      · omega
                    unfold maxLen at hn63
                    by_cases hlq : q < (ns j).length
                    · have q0 : (0 : Int) ≤ q := by omega
                      have q1 : (q : Int) < (ns j).length := by omega
                      cases bq
                      · obtain ⟨gv, ov, cv', hform2⟩ : ∃ gv ov cv', vs j = .slice (some ⟨gv, ov, none⟩) (ns j).length cv' := by
                          rcases hsl.shape with ⟨_, h0, _⟩ | ⟨g, o, c, h, _⟩
                          · omega
                          · exact ⟨g, o, c, h⟩
                        rw [hform2] at hform hsl
                        simp at hform
                        obtain ⟨rfl, rfl⟩ := hform
                        have hbc := hsl.byte (j := q) hlq
                        have hgd : (ns j).getD q 0 = (ns j)[q] := by rw [List.getD_eq_getElem?_getD, List.getElem?_eq_getElem hlq]; rfl
                        rw [hgd] at hbc
                        have hstep : Hid ((ns j).take (q + 1) = (ns j).take q ++ [(ns j)[q]]) := Lib.hid (List.take_succ_eq_append_getElem hlq)
                        have hlt256 := ((ns j)[q]).toNat_lt
                        clear hgd hsl hform2
                        generalize (ns j)[q] = cq at *
                        go_wp2_with fail
                        refine (full_any cq.toNat (by omega) _).mono ?_
                        rintro e wu ⟨rfl, hb⟩
                        rw [fullL_full]
                        have HKu := Lib.hid (HK.out.below (Nat.le_refl _) hb)
                        clear hb HK hvc hbc
                        have hcmp := full_cmp b cq
                        obtain ⟨i1, hi1⟩ : ∃ i1, decide (b = cq) = i1 := ⟨_, rfl⟩
                        rw [hi1] at hcmp
                        have HI1 : Hid (i1 = true ↔ (b = sB j ∨ b ∈ (ns j).take (q + 1))) := Lib.hid (by
                          have h0 := HBQ.out
                          rw [hstep.out, ← hi1, List.mem_append, List.mem_singleton, decide_eq_true_iff]
                          constructor
                          · intro e; exact .inr (.inr e)
                          · rintro (e | e | e)
                            · exact absurd (h0.2 (.inl e)) (by decide)
                            · exact absurd (h0.2 (.inr e)) (by decide)
                            · exact e)
                        clear hi1
                        go_wp2
                        exact ⟨⟨q + 1, i1, by omega, by go_num, rfl, HI1, HKu⟩, by simp [intOf]; omega⟩
                      · have HB2 : Hid (true = true ↔ (b = sB j ∨ b ∈ (ns j).take (q + 1))) := Lib.hid ⟨fun _ => by
                          rcases HBQ.out.1 rfl with e | e
                          · exact .inl e
                          · exact .inr (by rw [List.take_succ_eq_append_getElem hlq]; exact List.mem_append_left _ e), fun _ => rfl⟩
                        clear hsl hform
                        go_wp2
                        exact ⟨⟨q + 1, true, by omega, by go_num, rfl, HB2, HK⟩, by simp [intOf]; omega⟩
                    · have hbt : bq = true := HBQ.out.2 (by
                        rw [show q = (ns j).length by omega, List.take_length]
                        exact HBI.out)
                      subst hbt
                      have q1 : ¬ (q : Int) < (ns j).length := by omega
                      clear hsl hform
                      go_wp2
                      exact ⟨⟨j + 1, by omega, by go_num, HK⟩, by simp [intOf]; omega⟩
                · go_wp2_with fail
                  refine (alive_any _).mono ?_; rintro e w9 ⟨rfl, hb⟩
                  have HBF := HK.out.2.2.1.trans (hb.mono (HK.out.2.2.1.size))
                  clear hb
                  go_wp2
                  go_ret
                  exact ⟨rfl, HBF⟩
            · rw [kD_sync sB ls f hf] at hd ⊢
              have HKn := Lib.hid (HK.out.disk (Nat.le_refl _) hd hs)
              clear hd hs HK c0 c1 c2
              go_wp2
              go_loopw [13] (fun kv wr => ∃ (j : Nat) (sC : Nat → UInt8) (vC : Nat → Value) (nC : Nat → List UInt8), j ≤ 4 ∧ kv = .int .i64 j ∧ Hid (∀ k, k < 4 → (k < j → sC k = PKeep.upd sB ls k ∧ nC k = []) ∧ (j ≤ k → sC k = sB k ∧ nC k = PKeep.nsOf ls k)) ∧ Hid (KS w.heap.size bd gS gO oO cO w wr (kD (PKeep.upd sB ls) [] (PDsk.burn f)) own sC vC nC)) (fun kv _ => 4 - (intOf kv).toNat)
              case atStart => exact ⟨0, sB, vs, _, by omega, rfl, Lib.hid (fun k _ => ⟨fun h => absurd h (by omega), fun _ => ⟨rfl, rfl⟩⟩), HKn⟩
              case round =>
                obtain ⟨j, sC, vC, nC, hj4, rfl, HC4, HK⟩ := hrel
                clear HKn
                by_cases hlt4 : j < 4
                · have hvc := HK.out.sinceCell hlt4
                  have hsl := HK.out.2.2.2.2.2.1 j hlt4
                  have hC := HC4.out j hlt4
                  obtain ⟨hC1, hC2⟩ := hC.2 (Nat.le_refl _)
                  have j0 : (0 : Int) ≤ j := by omega
                  have j1 : (j : Int) < 4 := by omega
                  have hn63 : (nC j).length ≤ maxLen := by
                    rcases hsl.2 with ⟨_, h0⟩ | ⟨_, _, _, _, _, h0, _, _, _, h5, h6, _⟩
                    · rw [h0]; exact Nat.zero_le _
                    · omega
                  unfold maxLen at hn63
                  rcases hnn : nC j with _ | ⟨b0, tl⟩
                  · have hnx : Hid (∀ k, k < 4 → (k < j + 1 → sC k = PKeep.upd sB ls k ∧ nC k = []) ∧ (j + 1 ≤ k → sC k = sB k ∧ nC k = PKeep.nsOf ls k)) := Lib.hid (by
                      intro k hk
                      refine ⟨fun h => ?_, fun h => (HC4.out k hk).2 (by omega)⟩
                      by_cases e : k = j
                      · subst e
                        refine ⟨?_, hnn⟩
                        rw [hC1]; unfold PKeep.upd; rw [← hC2, hnn]; rfl
                      · exact (HC4.out k hk).1 (by omega))
                    rw [hnn] at hsl
                    obtain ⟨pv, cv, hform⟩ := Sl.form hsl
                    have hvc1 := hvc.1
                    rw [hform] at hvc1
                    clear hsl hvc hC hC1 hC2 hn63 hform
                    go_wp2
                    exact ⟨⟨j + 1, sC, vC, nC, by omega, by go_num, hnx, HK⟩, by simp [intOf]; omega⟩
                  · obtain ⟨m, hm⟩ : ∃ m, (nC j).length = m + 1 := ⟨tl.length, by rw [hnn]; rfl⟩
                    rw [hm] at hsl hn63
                    obtain ⟨gv, ov, cv, hform⟩ : ∃ gv ov cv, vC j = .slice (some ⟨gv, ov, none⟩) (m + 1) cv := by
                      rcases hsl.shape with ⟨_, h0, _⟩ | ⟨g, o, c, h, _⟩
                      · omega
                      · exact ⟨g, o, c, h⟩
                    have hvc1 := hvc.1
                    rw [hform] at hvc1 hsl
                    have hvf := hvc.2
                    have hbc := hsl.byte (j := m) (by omega)
                    obtain ⟨hsc, hsf⟩ := HK.out.sureCell hlt4
                    have hlast : Hid ((nC j).getD m 0 = PKeep.upd sB ls j) := Lib.hid (by
                      unfold PKeep.upd
                      rw [← hC2, List.getLast?_eq_getElem?, hm, Nat.add_sub_cancel, List.getD_eq_getElem?_getD, List.getElem?_eq_getElem (by omega)]
                      rfl)
                    have HK1 := Lib.hid (HK.out.setSure hlt4 ((nC j).getD m 0))
                    have HK2 := Lib.hid (HK1.out.setSince hlt4 (.slice none 0 0) [] (Sl.nil _ _ _ _) (by simp [Value.ownBlock]) (by simp [Value.ownBlock]))
                    have hnx : Hid (∀ k, k < 4 → (k < j + 1 → (if k = j then (nC j).getD m 0 else sC k) = PKeep.upd sB ls k ∧ (if k = j then [] else nC k) = []) ∧ (j + 1 ≤ k → (if k = j then (nC j).getD m 0 else sC k) = sB k ∧ (if k = j then [] else nC k) = PKeep.nsOf ls k)) := Lib.hid (by
                      intro k hk
                      refine ⟨fun h => ?_, fun h => ?_⟩
                      · by_cases e : k = j
                        · subst e; simp only [if_true]; exact ⟨hlast.out, trivial⟩
                        · simp only [if_neg e]; exact (HC4.out k hk).1 (by omega)
                      · have e : ¬ k = j := by omega
                        simp only [if_neg e]; exact (HC4.out k hk).2 (by omega))
                    have hmm : ((m + 1 : Nat) : Int) - 1 = m := by omega
                    have m0 : (0 : Int) ≤ m := by omega
                    clear hsl hvc hC hC1 hC2 hform hnn HK hlast
                    generalize (nC j).getD m 0 = bl at *
                    have hstill := (HK1.out.sinceCell hlt4)
                    go_wp2
                    go_region
                    go_wp2
                    exact ⟨⟨j + 1, _, _, _, by omega, by go_num, hnx, Lib.hid (HK2.out.below (Nat.le_refl _) (Below.refl _ _).drew)⟩, by simp [intOf]; omega⟩
                · have hj4' : j = 4 := by omega
                  subst hj4'
                  have HKE := Lib.hid (HK.out.congr (sB' := PKeep.upd sB ls) (ns' := PKeep.nsOf []) (fun k hk => ((HC4.out k hk).1 hk).1) (fun k hk => ((HC4.out k hk).1 hk).2))
                  clear HK HC4
                  go_wp2
                  exact ⟨⟨i + 1, own, PKeep.upd sB ls, vC, [], PDsk.burn f, by omega, by go_num, by simp, HKE⟩, by simp [intOf]; omega⟩
          · have h8i : ¬ (x.dO : Int) % 8 = 3 := by omega
            go_wp2_with fail
            refine (full_any x.c hc256 _).mono ?_; rintro e wf ⟨rfl, hb⟩
            have HKf := Lib.hid (HK.out.below (Nat.le_refl _) hb)
            clear hb HK
            go_wp2_with fail
            refine (write_any _ HKf.out.1 (kidx x.k) _ (full_max x.c) (by omega) (by omega) (by show (PKeep.wls ls).length ≤ _; unfold PKeep.wls; rw [List.length_map]; omega)).mono ?_
            rintro e wq ⟨own, rfl, hd, hs⟩
            by_cases hf : f = 0
            · have hx : PDsk.write (kD sB ls f) (kidx x.k) (⟨(fullL x.c).toArray⟩ : ByteArray).data.toList = (kD sB ls f, 40) := by unfold PDsk.write; rw [if_pos (show (kD sB ls f).fuse = 0 from hf)]
              rw [hx] at hd ⊢
              have HKn := Lib.hid (HKf.out.disk (Nat.le_refl _) hd hs)
              clear hd hs HKf c0 c1 c2 hx
              have HK := HKn
              clear HKn
              have HBW := Lib.hid HK.out.2.2.1
              go_wp2_with (at_builtin; (with_reducible refine wpList_append_rd elem_bool (sl_empty _ 4 1) (HKR.out.below_base (HBW.out.alloc HBW.out.size _)) rfl rfl rfl rfl (bools_one ks) (by omega) (by simp) ?_))
              intro v' wz hz1 hz2 hz3
              obtain ⟨pz, cz, rfl⟩ := Sl.form hz1
              have hbz : Below _ _ wz := ((Below.refl _ _).alloc (Nat.le_refl _) (.cells #[] 4)).grown hz2 (by simp) (fun k e => by cases e; exact Nat.le_refl _)
              have hdis : ∀ k, (Value.slice pz ks.length cz).ownBlock = some k → k ∉ own := fun k e hm => by
                have h1 := (hz1.lt k e).1
                have h2 := HK.out.1.lt k hm
                omega
              have HRZ := Lib.hid (Rd.of_sl hz1)
              have HDIS := Lib.hid hdis
              have HKz := Lib.hid (HK.out.below (Nat.le_refl _) hbz)
              clear hbz hdis hz1 hz2 hz3 HK HBW
              go_wp2_with fail
              refine (crash_any _ HKz.out.1 _ ks HRZ.out HDIS.out).mono ?_
              rintro e wd ⟨ownC, rfl, hd, hs⟩
              have HKC := Lib.hid (HKz.out.disk (Nat.le_refl _) hd hs)
              have HROW := Lib.hid (fun k (hk : k < 4) => PKeep.crash_row sB ls f ks k hk)
              change Hid (∀ k : Nat, k < 4 → ∃ b, PDsk.read (PDsk.crash (kD sB ls f) ks) k = (PKeep.full b, 0) ∧ (b = sB k ∨ b ∈ PKeep.nsOf ls k)) at HROW
              clear hd hs HKz HRZ HDIS
              generalize PDsk.crash (kD sB ls f) ks = DC at *
              generalize PKeep.nsOf ls = ns at *
              go_wp2
              go_loopw [15] (fun iv wr => ∃ j : Nat, j ≤ 4 ∧ iv = .int .i64 j ∧ Hid (KS w.heap.size bd gS gO oO cO w wr DC ownC sB vs ns)) (fun iv _ => 4 - (intOf iv).toNat)
              case atStart => exact ⟨0, by omega, rfl, HKC⟩
              case round =>
                obtain ⟨j, hj4, rfl, HK⟩ := hrel
                clear HKC
                by_cases hlt4 : j < 4
                · obtain ⟨b, hrd, hbin⟩ := HROW.out j hlt4
                  have HRD := Lib.hid hrd
                  have HBI := Lib.hid hbin
                  clear hrd hbin
                  go_wp2_with fail
                  refine (read_any _ HK.out.1 j (by omega)).mono ?_
                  rintro e wq ⟨rfl, hb⟩
                  rw [HRD.out]
                  have HKq := Lib.hid (HK.out.below (Nat.le_refl _) hb)
                  clear hb HK
                  have hsc := (HKq.out.sureCell hlt4).1
                  have j0 : (0 : Int) ≤ j := by omega
                  have j1 : (j : Int) < 4 := by omega
                  go_wp2_with fail
                  refine (full_any (sB j).toNat (by have := (sB j).toNat_lt; omega) _).mono ?_
                  rintro e wt ⟨rfl, hb⟩
                  rw [fullL_full]
                  have HKt := Lib.hid (HKq.out.below (Nat.le_refl _) hb)
                  clear hb HKq hsc
                  have hcmp := full_cmp b (sB j)
                  obtain ⟨i0, hi0⟩ : ∃ i0, decide (b = sB j) = i0 := ⟨_, rfl⟩
                  rw [hi0] at hcmp
                  have HI0 : Hid (i0 = true ↔ b = sB j) := Lib.hid (by rw [← hi0]; simp)
                  clear hi0
                  go_wp2
                  have hw : wt = wt := rfl
                  go_loopw [18, 19] (fun bv iv wr => ∃ (q : Nat) (bq : Bool), q ≤ (ns j).length ∧ iv = .int .i64 q ∧ bv = .bool bq ∧ Hid (bq = true ↔ (b = sB j ∨ b ∈ (ns j).take q)) ∧ Hid (KS w.heap.size bd gS gO oO cO w wr DC ownC sB vs ns)) (fun _ iv _ => (ns j).length - (intOf iv).toNat)
                  case atStart => exact ⟨0, i0, by omega, rfl, rfl, Lib.hid (by rw [HI0.out]; simp), HKt⟩
                  case round =>
                    obtain ⟨q, bq, hq, rfl, rfl, HBQ, HK⟩ := hrel
                    clear HKt hcmp
                    have hvc := (HK.out.sinceCell hlt4).1
                    have hsl := HK.out.2.2.2.2.2.1 j hlt4
                    obtain ⟨pv, cv, hform⟩ := Sl.form hsl
                    rw [hform] at hvc
                    have hn63 : (ns j).length ≤ maxLen := by
                      rcases hsl.2 with ⟨_, h0⟩ | ⟨_, _, _, _, _, h0, _, _, _, h5, h6, _⟩
                      · rw [h0]; exact Nat.zero_le _
                      · omega
                    unfold maxLen at hn63
                    by_cases hlq : q < (ns j).length
                    · have q0 : (0 : Int) ≤ q := by omega
                      have q1 : (q : Int) < (ns j).length := by omega
                      cases bq
                      · obtain ⟨gv, ov, cv', hform2⟩ : ∃ gv ov cv', vs j = .slice (some ⟨gv, ov, none⟩) (ns j).length cv' := by
                          rcases hsl.shape with ⟨_, h0, _⟩ | ⟨g, o, c, h, _⟩
                          · omega
                          · exact ⟨g, o, c, h⟩
                        rw [hform2] at hform hsl
                        simp at hform
                        obtain ⟨rfl, rfl⟩ := hform
                        have hbc := hsl.byte (j := q) hlq
                        have hgd : (ns j).getD q 0 = (ns j)[q] := by rw [List.getD_eq_getElem?_getD, List.getElem?_eq_getElem hlq]; rfl
                        rw [hgd] at hbc
                        have hstep : Hid ((ns j).take (q + 1) = (ns j).take q ++ [(ns j)[q]]) := Lib.hid (List.take_succ_eq_append_getElem hlq)
                        have hlt256 := ((ns j)[q]).toNat_lt
                        clear hgd hsl hform2
                        generalize (ns j)[q] = cq at *
                        go_wp2_with fail
                        refine (full_any cq.toNat (by omega) _).mono ?_
                        rintro e wu ⟨rfl, hb⟩
                        rw [fullL_full]
                        have HKu := Lib.hid (HK.out.below (Nat.le_refl _) hb)
                        clear hb HK hvc hbc
                        have hcmp := full_cmp b cq
                        obtain ⟨i1, hi1⟩ : ∃ i1, decide (b = cq) = i1 := ⟨_, rfl⟩
                        rw [hi1] at hcmp
                        have HI1 : Hid (i1 = true ↔ (b = sB j ∨ b ∈ (ns j).take (q + 1))) := Lib.hid (by
                          have h0 := HBQ.out
                          rw [hstep.out, ← hi1, List.mem_append, List.mem_singleton, decide_eq_true_iff]
                          constructor
                          · intro e; exact .inr (.inr e)
                          · rintro (e | e | e)
                            · exact absurd (h0.2 (.inl e)) (by decide)
                            · exact absurd (h0.2 (.inr e)) (by decide)
                            · exact e)
                        clear hi1
                        go_wp2
                        exact ⟨⟨q + 1, i1, by omega, by go_num, rfl, HI1, HKu⟩, by simp [intOf]; omega⟩
                      · have HB2 : Hid (true = true ↔ (b = sB j ∨ b ∈ (ns j).take (q + 1))) := Lib.hid ⟨fun _ => by
                          rcases HBQ.out.1 rfl with e | e
                          · exact .inl e
                          · exact .inr (by rw [List.take_succ_eq_append_getElem hlq]; exact List.mem_append_left _ e), fun _ => rfl⟩
                        clear hsl hform
                        go_wp2
                        exact ⟨⟨q + 1, true, by omega, by go_num, rfl, HB2, HK⟩, by simp [intOf]; omega⟩
                    · have hbt : bq = true := HBQ.out.2 (by
                        rw [show q = (ns j).length by omega, List.take_length]
                        exact HBI.out)
                      subst hbt
                      have q1 : ¬ (q : Int) < (ns j).length := by omega
                      clear hsl hform
                      go_wp2
                      exact ⟨⟨j + 1, by omega, by go_num, HK⟩, by simp [intOf]; omega⟩
                · go_wp2_with fail
                  refine (alive_any _).mono ?_; rintro e w9 ⟨rfl, hb⟩
                  have HBF := HK.out.2.2.1.trans (hb.mono (HK.out.2.2.1.size))
                  clear hb
                  go_wp2
                  go_ret
                  exact ⟨rfl, HBF⟩
            · rw [show PDsk.write (kD sB ls f) (kidx x.k) (⟨(fullL x.c).toArray⟩ : ByteArray).data.toList = (kD sB (ls ++ [(kidx x.k, UInt8.ofNat x.c)]) (PDsk.burn f), 0) from kD_write sB ls f hf _ _ q5] at hd ⊢
              have HKn := Lib.hid (HKf.out.disk (Nat.le_refl _) hd hs)
              clear hd hs HKf c0 c1 c2
              have hszq : w.heap.size ≤ wq.heap.size := HKn.out.2.2.1.size
              have hcx := (HALL.out _ HKn.out.2.2.1).2.2.1
              have hvc := HKn.out.sinceCell q5
              have hsl := HKn.out.2.2.2.2.2.1 _ q5
              obtain ⟨pv, cv, hform⟩ := Sl.form hsl
              have hvc1 := hvc.1
              rw [hform] at hvc1 hsl
              have HSL := Lib.hid hsl
              have HKW := Lib.hid (fun W (hW : Below wq.heap.size wq W) => HKn.out.below (Nat.le_refl _) hW)
              have hnn : (PKeep.nsOf ls (kidx x.k)).length ≤ ls.length := by unfold PKeep.nsOf; rw [List.length_map]; exact List.length_filter_le _ _
              have hbv : bytesV [UInt8.ofNat x.c] = [.int .u8 (x.c : Int)] := by
                simp [bytesV]
                omega
              have HBV := Lib.hid hbv
              have HFO := Lib.hid hform
              have hvcA := ((HKW.out _ ((Below.refl _ wq).alloc (Nat.le_refl _) (Obj.cells #[Value.int .u8 (x.c : Int)] 5))).sinceCell q5).1
              rw [hform] at hvcA
              have k0 : (0 : Int) ≤ kidx x.k := by omega
              have k1 : (kidx x.k : Int) < 4 := by omega
              have HNW : Hid (∀ (X : Obj) (j : Nat) (u : Value), [Value.int .u8 (x.c : Int)][j]? = some u → (wq.alloc (Obj.cells #[Value.int .u8 (x.c : Int)] 5)).cell? ((⟨wq.heap.size, 0, none⟩ : Addr).add j) = some u) := Lib.hid (fun X j u hu => news_alloc wq _ _ _ j u hu)
              clear hsl hbv hform hvc HKn
              go_wp2_with fail
              go_region_law ((refine step_append_sl elem_byte (by rfl) (by rfl) (by first | exact Sl.drew (HSL.out.alloc _) | exact HSL.out.alloc _ | exact Sl.drew (Sl.drew (HSL.out.alloc _))) (by rfl) [Value.int .u8 (x.c : Int)] (by rfl) (by rfl) (HNW.out (Obj.cells #[] 5)) (by intro u hu; simp at hu; subst hu; rfl) (by unfold maxLen; omega) (by omega) (by simp; omega) ?_; intro v' w2 hl2 hgr hown2; obtain ⟨p2, cc2, rfl⟩ := Sl.form hl2; have hgr2 := hgr; rw [← HFO.out] at hgr2; have hend := Lib.hid (KS.grown (HKW.out _ (by first | exact ((Below.refl _ wq).alloc (Nat.le_refl _) _).drew | exact (Below.refl _ wq).alloc (Nat.le_refl _) _)) (Nat.le_refl _) q5 (v := .slice p2 _ cc2) (l := PKeep.nsOf ls (kidx x.k) ++ [UInt8.ofNat x.c]) hgr2 (by rw [List.length_append, List.length_singleton, bytesV_append, HBV.out]; exact hl2) (by rw [HFO.out]; exact hown2)); have hc2 := (cell_same (o := oO + kidx x.k) hend.out.2).1.trans (KS.sinceCell (HKW.out _ (by first | exact ((Below.refl _ wq).alloc (Nat.le_refl _) _).drew | exact (Below.refl _ wq).alloc (Nat.le_refl _) _)) q5).1; have hf2 := (cell_same (o := oO + kidx x.k) hend.out.2).2.trans (KS.sinceCell (HKW.out _ (by first | exact ((Below.refl _ wq).alloc (Nat.le_refl _) _).drew | exact (Below.refl _ wq).alloc (Nat.le_refl _) _)) q5).2; clear hl2 hgr hgr2 hown2))
              all_goals (
                have HKE := Lib.hid (hend.out.1.congr (sB' := sB) (ns' := PKeep.nsOf (ls ++ [(kidx x.k, UInt8.ofNat x.c)])) (fun _ _ => rfl) (fun j _ => by
                  rw [PKeep.nsOf_snoc]
                  by_cases e : j = kidx x.k
                  · rw [if_pos e, if_pos e.symm, e]
                  · rw [if_neg e, if_neg (fun e' => e e'.symm)]))
                clear hend
                go_wp2
                exact ⟨⟨i + 1, own, sB, _, ls ++ [(kidx x.k, UInt8.ofNat x.c)], PDsk.burn f, by omega, by go_num, by rw [List.length_append, List.length_singleton]; omega, HKE⟩, by simp [intOf]; omega⟩)
        · have hnl : ¬ (i : Int) < cs.length := by omega
          have HBW := Lib.hid HK.out.2.2.1
          go_wp2_with (at_builtin; (with_reducible refine wpList_append_rd elem_bool (sl_empty _ 4 1) (HKR.out.below_base (HBW.out.alloc HBW.out.size _)) rfl rfl rfl rfl (bools_one ks) (by omega) (by simp) ?_))
          intro v' wz hz1 hz2 hz3
          obtain ⟨pz, cz, rfl⟩ := Sl.form hz1
          have hbz : Below _ _ wz := ((Below.refl _ _).alloc (Nat.le_refl _) (.cells #[] 4)).grown hz2 (by simp) (fun k e => by cases e; exact Nat.le_refl _)
          have hdis : ∀ k, (Value.slice pz ks.length cz).ownBlock = some k → k ∉ own := fun k e hm => by
            have h1 := (hz1.lt k e).1
            have h2 := HK.out.1.lt k hm
            omega
          have HRZ := Lib.hid (Rd.of_sl hz1)
          have HDIS := Lib.hid hdis
          have HKz := Lib.hid (HK.out.below (Nat.le_refl _) hbz)
          clear hbz hdis hz1 hz2 hz3 HK HBW
          go_wp2_with fail
          refine (crash_any _ HKz.out.1 _ ks HRZ.out HDIS.out).mono ?_
          rintro e wd ⟨ownC, rfl, hd, hs⟩
          have HKC := Lib.hid (HKz.out.disk (Nat.le_refl _) hd hs)
          have HROW := Lib.hid (fun k (hk : k < 4) => PKeep.crash_row sB ls f ks k hk)
          change Hid (∀ k : Nat, k < 4 → ∃ b, PDsk.read (PDsk.crash (kD sB ls f) ks) k = (PKeep.full b, 0) ∧ (b = sB k ∨ b ∈ PKeep.nsOf ls k)) at HROW
          clear hd hs HKz HRZ HDIS
          generalize PDsk.crash (kD sB ls f) ks = DC at *
          generalize PKeep.nsOf ls = ns at *
          go_wp2
          go_loopw [15] (fun iv wr => ∃ j : Nat, j ≤ 4 ∧ iv = .int .i64 j ∧ Hid (KS w.heap.size bd gS gO oO cO w wr DC ownC sB vs ns)) (fun iv _ => 4 - (intOf iv).toNat)
          case atStart => exact ⟨0, by omega, rfl, HKC⟩
          case round =>
            obtain ⟨j, hj4, rfl, HK⟩ := hrel
            clear HKC
            by_cases hlt4 : j < 4
            · obtain ⟨b, hrd, hbin⟩ := HROW.out j hlt4
              have HRD := Lib.hid hrd
              have HBI := Lib.hid hbin
              clear hrd hbin
              go_wp2_with fail
              refine (read_any _ HK.out.1 j (by omega)).mono ?_
              rintro e wq ⟨rfl, hb⟩
              rw [HRD.out]
              have HKq := Lib.hid (HK.out.below (Nat.le_refl _) hb)
              clear hb HK
              have hsc := (HKq.out.sureCell hlt4).1
              have j0 : (0 : Int) ≤ j := by omega
              have j1 : (j : Int) < 4 := by omega
              go_wp2_with fail
              refine (full_any (sB j).toNat (by have := (sB j).toNat_lt; omega) _).mono ?_
              rintro e wt ⟨rfl, hb⟩
              rw [fullL_full]
              have HKt := Lib.hid (HKq.out.below (Nat.le_refl _) hb)
              clear hb HKq hsc
              have hcmp := full_cmp b (sB j)
              obtain ⟨i0, hi0⟩ : ∃ i0, decide (b = sB j) = i0 := ⟨_, rfl⟩
              rw [hi0] at hcmp
              have HI0 : Hid (i0 = true ↔ b = sB j) := Lib.hid (by rw [← hi0]; simp)
              clear hi0
              go_wp2
              have hw : wt = wt := rfl
              go_loopw [18, 19] (fun bv iv wr => ∃ (q : Nat) (bq : Bool), q ≤ (ns j).length ∧ iv = .int .i64 q ∧ bv = .bool bq ∧ Hid (bq = true ↔ (b = sB j ∨ b ∈ (ns j).take q)) ∧ Hid (KS w.heap.size bd gS gO oO cO w wr DC ownC sB vs ns)) (fun _ iv _ => (ns j).length - (intOf iv).toNat)
              case atStart => exact ⟨0, i0, by omega, rfl, rfl, Lib.hid (by rw [HI0.out]; simp), HKt⟩
              case round =>
                obtain ⟨q, bq, hq, rfl, rfl, HBQ, HK⟩ := hrel
                clear HKt hcmp
                have hvc := (HK.out.sinceCell hlt4).1
                have hsl := HK.out.2.2.2.2.2.1 j hlt4
                obtain ⟨pv, cv, hform⟩ := Sl.form hsl
                rw [hform] at hvc
                have hn63 : (ns j).length ≤ maxLen := by
                  rcases hsl.2 with ⟨_, h0⟩ | ⟨_, _, _, _, _, h0, _, _, _, h5, h6, _⟩
                  · rw [h0]; exact Nat.zero_le _
                  · omega
                unfold maxLen at hn63
                by_cases hlq : q < (ns j).length
                · have q0 : (0 : Int) ≤ q := by omega
                  have q1 : (q : Int) < (ns j).length := by omega
                  cases bq
                  · obtain ⟨gv, ov, cv', hform2⟩ : ∃ gv ov cv', vs j = .slice (some ⟨gv, ov, none⟩) (ns j).length cv' := by
                      rcases hsl.shape with ⟨_, h0, _⟩ | ⟨g, o, c, h, _⟩
                      · omega
                      · exact ⟨g, o, c, h⟩
                    rw [hform2] at hform hsl
                    simp at hform
                    obtain ⟨rfl, rfl⟩ := hform
                    have hbc := hsl.byte (j := q) hlq
                    have hgd : (ns j).getD q 0 = (ns j)[q] := by rw [List.getD_eq_getElem?_getD, List.getElem?_eq_getElem hlq]; rfl
                    rw [hgd] at hbc
                    have hstep : Hid ((ns j).take (q + 1) = (ns j).take q ++ [(ns j)[q]]) := Lib.hid (List.take_succ_eq_append_getElem hlq)
                    have hlt256 := ((ns j)[q]).toNat_lt
                    clear hgd hsl hform2
                    generalize (ns j)[q] = cq at *
                    go_wp2_with fail
                    refine (full_any cq.toNat (by omega) _).mono ?_
                    rintro e wu ⟨rfl, hb⟩
                    rw [fullL_full]
                    have HKu := Lib.hid (HK.out.below (Nat.le_refl _) hb)
                    clear hb HK hvc hbc
                    have hcmp := full_cmp b cq
                    obtain ⟨i1, hi1⟩ : ∃ i1, decide (b = cq) = i1 := ⟨_, rfl⟩
                    rw [hi1] at hcmp
                    have HI1 : Hid (i1 = true ↔ (b = sB j ∨ b ∈ (ns j).take (q + 1))) := Lib.hid (by
                      have h0 := HBQ.out
                      rw [hstep.out, ← hi1, List.mem_append, List.mem_singleton, decide_eq_true_iff]
                      constructor
                      · intro e; exact .inr (.inr e)
                      · rintro (e | e | e)
                        · exact absurd (h0.2 (.inl e)) (by decide)
                        · exact absurd (h0.2 (.inr e)) (by decide)
                        · exact e)
                    clear hi1
                    go_wp2
                    exact ⟨⟨q + 1, i1, by omega, by go_num, rfl, HI1, HKu⟩, by simp [intOf]; omega⟩
                  · have HB2 : Hid (true = true ↔ (b = sB j ∨ b ∈ (ns j).take (q + 1))) := Lib.hid ⟨fun _ => by
                      rcases HBQ.out.1 rfl with e | e
                      · exact .inl e
                      · exact .inr (by rw [List.take_succ_eq_append_getElem hlq]; exact List.mem_append_left _ e), fun _ => rfl⟩
                    clear hsl hform
                    go_wp2
                    exact ⟨⟨q + 1, true, by omega, by go_num, rfl, HB2, HK⟩, by simp [intOf]; omega⟩
                · have hbt : bq = true := HBQ.out.2 (by
                    rw [show q = (ns j).length by omega, List.take_length]
                    exact HBI.out)
                  subst hbt
                  have q1 : ¬ (q : Int) < (ns j).length := by omega
                  clear hsl hform
                  go_wp2
                  exact ⟨⟨j + 1, by omega, by go_num, HK⟩, by simp [intOf]; omega⟩
            · go_wp2_with fail
              refine (alive_any _).mono ?_; rintro e w9 ⟨rfl, hb⟩
              have HBF := HK.out.2.2.1.trans (hb.mono (HK.out.2.2.1.size))
              clear hb
              go_wp2
              go_ret
              exact ⟨rfl, HBF⟩
end Go.Proofs.Ytkmgmfahhidbbaa
