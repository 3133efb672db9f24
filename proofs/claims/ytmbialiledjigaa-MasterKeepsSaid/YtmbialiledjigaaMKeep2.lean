/-
  MasterKeeps returns true.
-/
import Derived.Test.YtmbialiledjigaaMKeep1
import Derived.Test.YtmbialiledjigaaMLoads
import Derived.Deep.RegionHeld3
import Derived.Deep.DeepCutAuto
import Derived.Deep.CutBlock
import Derived.WalkMore
namespace Go.Proofs.Ytmbialiledjigaa
open Go.RowKit
open PMst (Mst)
theorem rd_new {w : World} {vs : List Value} (t : TypeId) (h : vs.length ≤ maxLen) : Rd (w.alloc (.cells vs.toArray t)) (.slice (some ⟨w.heap.size, 0, none⟩) vs.length vs.length) vs :=
  ⟨_, _, rfl, Nat.le_refl _, h, fun _ => ⟨w.heap.size, 0, rfl, by rw [World.size_alloc]; omega, fun j hj => by
    rw [cell_of_row _ _ _ _ _ _ (heap_alloc_new w _)]; simp [hj]⟩⟩
theorem or_nat (a : Nat) (ha : a < 18446744073709551616) : bits BinOp.or IntKind.u64 (a : Int) 1 = ((a ||| 1 : Nat) : Int) ∧ a ||| 1 < 18446744073709551616 ∧ 0 < a ||| 1 := by
  have h := u64_or_nat a 1 ha (by decide)
  refine ⟨h, Nat.or_lt_two_pow (n := 64) ha (by decide), ?_⟩
  have : 1 ≤ a ||| 1 := Nat.right_le_or
  omega
theorem mEq_ne {a b : Mst} (h : a ≠ b) : mEq a b = false := by simp [mEq, h]
theorem mstAt_of {w W : World} {p : Option Addr} {cs : List Mst} (h : cs ≠ [] → ∃ g off, p = some ⟨g, off, none⟩ ∧ g < w.heap.size ∧ ∀ i (h : i < cs.length), MstAt w g (off + i * 5) cs[i]) (hB : Below w.heap.size w W) {k : Nat} (hk : k < cs.length) :
    ∃ g off, p = some ⟨g, off, none⟩ ∧ g < w.heap.size ∧ MstAt W g (off + k * 5) cs[k] := by
  obtain ⟨g, off, h1, h2, h3⟩ := h (by intro e; rw [e] at hk; simp at hk)
  exact ⟨g, off, h1, h2, (h3 k hk).below h2 hB⟩
set_option maxRecDepth 100000 in
set_option maxHeartbeats 16000000 in
theorem masterKeeps_ok (w : World) (v : Value) (l : List Mst) (h : RdMsts w v l) (hok : ∀ x ∈ l, x.Ok) (from' fu : Nat) (hfr : from' < 65536) (hfu : fu < 256) (kp : Bool) (hl1 : l.length ≤ 20) (hl2 : l ≠ []) :
    Calls Try.prog 6 #[v, .int .u16 from', .int .u8 fu, .bool kp] w fun e w' => e = .returned (.bool true) ∧ Below w.heap.size w w' := by
  have HOK := Lib.hid hok
  obtain ⟨p, c, rfl, h2, h3, h4⟩ := h
  unfold maxLen at h3
  have H4 := Lib.hid h4
  have hl3 : 0 < l.length := by cases l <;> simp_all
  have hl4 : ((l.length : Int) == 0) = false := by simp; omega
  have f1 : ¬ (20 : Int) < l.length := by omega
  obtain ⟨c0, hc0⟩ : ∃ c0, from' + 1 = c0 := ⟨_, rfl⟩
  have hci : (from' : Int) + 1 = (c0 : Int) := by omega
  obtain ⟨fq, hfq⟩ : ∃ q, fu % 40 = q := ⟨_, rfl⟩
  have hfi : (fu : Int) % 40 = (fq : Int) := by omega
  have hfq40 : fq < 40 := by omega
  have hm1 : (⟨c0, 1, 0, 1, false⟩ : Mst).Ok := ⟨by show c0 < _; omega, by show (1 : Nat) < _; omega, by show (0 : Nat) < _; omega, by show (1 : Nat) < _; omega⟩
  have hmay1 : PMst.may ⟨c0, 1, 0, 1, false⟩ = true := by unfold PMst.may; simp; omega
  obtain ⟨hst0, hho0⟩ := PMst.store_first _ hm1 hmay1
  have HOK1 := Lib.hid hm1
  have HST0 := Lib.hid hst0
  have HHO0 := Lib.hid hho0
  have hcc : c0 ≤ 65536 := by omega
  clear h4 hok hm1 hmay1 hst0 hho0 hc0 hfq hl2
  go_enter Try.func6, Try.ntmps6
  go_wp2_with fail
  refine (new_any 2 (by omega) (by omega) _).mono ?_
  rintro e w1 ⟨hB, (⟨hno, rfl⟩ | ⟨_, _, b, own, rfl, hd, ho⟩)⟩
  · exact absurd (by omega) hno
  change IsDisk w1 b (PDsk.new 2) own at hd
  have HD := Lib.hid (fun o => hd.below ((Below.refl w1.heap.size w1).alloc (Nat.le_refl _) o))
  have HB := Lib.hid (fun o : Obj => hB.alloc hB.size o)
  have HO := Lib.hid ho
  have HF := Lib.hid (fun o : Obj => heap_alloc_new w1 o)
  have HLT := Lib.hid hd.lt
  clear hd hB ho
  go_wp2_with fail
  refine (mstore_at _ (HD.out _) 0 (by omega) (by omega) ⟨c0, 1, 0, 1, false⟩ HOK1.out (by simp [PDsk.new]) HST0.out).mono ?_
  rintro e w2 ⟨own2, rfl, hd, hs⟩
  have hbo := Stepped.below (HB.out _) (Nat.le_refl _) HO.out hs
  have HB2 := Lib.hid hbo.1
  have HO2 := Lib.hid hbo.2
  have hF2 := (hs.1.block w1.heap.size (by simp) (fun hm => by have := HLT.out _ hm; omega)).trans (HF.out _)
  have HF2 := Lib.hid hF2
  have hnF : w1.heap.size ∉ own2 := fun hm => by
    rcases hs.2 _ hm with h | h
    · have := HLT.out _ h; omega
    · simp at h; omega
  have HD2 := Lib.hid hd
  have HNF := Lib.hid hnF
  clear hd hs hbo hF2 hnF HD HB HO HF HLT
  generalize w1.heap.size = F at *
  go_wp2_with fail
  refine (fuse_any _ HD2.out fq (by omega) (by omega)).mono ?_
  rintro e w3 ⟨rfl, hd, hs⟩
  have hfs : PDsk.setFuse (PMst.st (PDsk.new 2) 0 ⟨c0, 1, 0, 1, false⟩).1 (fq : Int) = ({ (PMst.st (PDsk.new 2) 0 ⟨c0, 1, 0, 1, false⟩).1 with fuse := (fq : Int) }, 0) := by unfold PDsk.setFuse; rw [if_neg (by omega)]
  rw [hfs] at hd ⊢
  have hH1 := PMst.holds_fuse HHO0.out (fq : Int) (by omega) (by omega)
  have hbo := Stepped.below HB2.out (Nat.le_refl _) HO2.out hs
  have HB3 := Lib.hid hbo.1
  have HO3 := Lib.hid hbo.2
  have hF3 := (hs.1.block F (Array.getElem?_eq_some_iff.1 HF2.out).1 HNF.out).trans HF2.out
  dsimp only at hd hH1 ⊢
  generalize ({ (PMst.st (PDsk.new 2) 0 ⟨c0, 1, 0, 1, false⟩).1 with fuse := (fq : Int) } : PDsk.Dsk) = D1 at *
  have HD3 := Lib.hid hd
  have HH1 := Lib.hid hH1
  have HKN := Lib.hid (KM.new (w := w) HD3.out HO3.out HB3.out ⟨c0, 1, 0, 1, false⟩ ⟨c0, 1, 0, 1, false⟩)
  obtain ⟨g0, g1, g2, g3, g4⟩ := cells5 hF3
  have e0 := World.new_ne w3 _ g0
  have e1 := World.new_ne w3 _ g1
  have e2 := World.new_ne w3 _ g2
  have e3 := World.new_ne w3 _ g3
  have e4 := World.new_ne w3 _ g4
  clear hfs hd hs hbo hF3 hH1 HB2 HO2 HF2 HNF HD2
  go_upto_region 9 with fail
  go_cut [12, 13] (fun s12 s13 wx => ∃ pw pn, s12 = .pointer (some ⟨pw, 0, none⟩) ∧ s13 = .pointer (some ⟨pn, 0, none⟩) ∧ Hid (KM w wx b D1 own2 pw pn ⟨c0, 1, 0, 1, false⟩ ⟨c0, 1, 0, 1, false⟩))
  case first =>
    go_region_held3 (fun w' => w'.cell? ⟨F, 0, none⟩ = some (.int .u64 c0) ∧ w'.cell? ⟨F, 1, none⟩ = some (.int .u64 1) ∧ w'.cell? ⟨F, 2, none⟩ = some (.int .u64 0) ∧ w'.cell? ⟨F, 3, none⟩ = some (.int .u64 1) ∧ w'.cell? ⟨F, 4, none⟩ = some (.bool false)) (go_keep) (fail)
    all_goals (go_wp2_with fail; go_meet; first | exact ⟨_, _, rfl, rfl, Lib.hid HKN.out.1⟩ | exact ⟨_, _, rfl, rfl, Lib.hid HKN.out.2⟩)
  case rest =>
    obtain ⟨pw, pn, rfl, rfl, HK0⟩ := hcut
    clear HKN g0 g1 g2 g3 g4 e0 e1 e2 e3 e4 HB3 HO3 HD3
    go_upto_block 0 with fail
    go_cut [9] from 14 to 113 (fun s9 wx => s9 = .pointer (some ⟨b, 0, none⟩) ∧ ∃ (D : PDsk.Dsk) (own : List Nat) (A B X : Mst), Hid (KM w wx b D own pw pn A B) ∧ Hid (PMst.ld (PDsk.crash D [kp, kp]) 0 = (X, 0) ∧ (X = A ∨ X = B)))
    case first =>
      go_wp2
      go_loopw [14] (fun iv wr => ∃ (k : Nat) (D : PDsk.Dsk) (own : List Nat) (prev now : Mst), k ≤ l.length ∧ iv = .int .i64 k ∧ Hid (now.count ≤ 65536 + k ∧ PMst.Holds D prev now) ∧ Hid (KM w wr b D own pw pn now now)) (fun iv _ => l.length - (intOf iv).toNat)
      case atStart => exact ⟨0, D1, own2, PMst.zero, ⟨c0, 1, 0, 1, false⟩, by omega, rfl, Lib.hid ⟨hcc, HH1.out⟩, HK0⟩
      case round =>
        obtain ⟨k, D, own, prev, now, hk, rfl, HH, HK⟩ := hrel
        clear HH1 HK0
        obtain ⟨nc, nl, nk, nf, ncl⟩ := now
        by_cases hlt : k < l.length
        · obtain ⟨g, off, rfl, hg, hca⟩ := mstAt_of H4.out HK.out.2.2.2.2.2.2.2.2.2 hlt
          have hxok := HOK.out l[k] (List.getElem_mem hlt)
          generalize l[k] = x at hca hxok
          obtain ⟨xc, xl, xk, xf, xcl⟩ := x
          obtain ⟨x0, x1, x2, x3, x4⟩ := hca
          obtain ⟨hxc, hxl, hxk, hxf⟩ := hxok
          (try dsimp only at x0 x1 x2 x3 x4)
          (try dsimp only at hxc hxl hxk hxf)
          have n0 := fun o => (cells5 (HK.out.box o).2.2.2.2.2.2.2.2.1).1
          (try dsimp only at n0)
          obtain ⟨c1, hc1⟩ : ∃ c1, nc + 1 = c1 := ⟨_, rfl⟩
          have hnc := HH.out.1
          (try dsimp only at hnc)
          have hc1i : (nc : Int) + 1 = (c1 : Int) := by omega
          obtain ⟨o1, o2, o3⟩ := or_nat xl hxl
          obtain ⟨o4, o5, o6⟩ := or_nat xf hxf
          obtain ⟨l1, hl1'⟩ : ∃ l1, xl ||| 1 = l1 := ⟨_, rfl⟩
          obtain ⟨f1', hf1'⟩ : ∃ f1, xf ||| 1 = f1 := ⟨_, rfl⟩
          rw [hl1'] at o1 o2 o3
          rw [hf1'] at o4 o5 o6
          have hkc : (xk = 0) ∨ (xk ≠ 0 ∧ xk < f1') ∨ (xk ≠ 0 ∧ ¬ xk < f1') := by omega
          have hcb : c1 < 18446744073709551616 := by omega
          have hnb : nc < 18446744073709551615 := by omega
          have i0 : (0 : Int) ≤ k := by omega
          have i1 : (k : Int) < l.length := by omega
          have HN1 : Hid (nc + 1 = c1) := Lib.hid hc1
          have HFX := Lib.hid (fun kk (hkk : kk < 18446744073709551616) (hm : kk = 0 ∨ f1' ≤ kk) => PMst.store_cases HH.out.2 ⟨c1, l1, kk, f1', xcl⟩ ⟨hcb, o2, hkk, o5⟩ (by unfold PMst.may; simp; omega) (by show c1 = nc + 1; omega))
          have HMX := Lib.hid (fun kk (hkk : kk < 18446744073709551616) => (show (⟨c1, l1, kk, f1', xcl⟩ : Mst).Ok from ⟨hcb, o2, hkk, o5⟩))
          have HLL : Hid (D.loose.length ≤ 1000000) := Lib.hid (by rw [HH.out.2.2.2.1]; simp)
          have HBX := Lib.hid (fun o => HK.out.box o)
          have HBN := Lib.hid (fun (a0 : Array Value) => heap_alloc_new wr (.cells a0 24))
          have HLT := Lib.hid HK.out.1.lt
          have HWW : Hid (pw < wr.heap.size ∧ pn < wr.heap.size) := Lib.hid ⟨(Array.getElem?_eq_some_iff.1 HK.out.2.2.2.2.2.2.2.1).1, (Array.getElem?_eq_some_iff.1 HK.out.2.2.2.2.2.2.2.2.1).1⟩
          clear hc1 hl1' hf1' hxc
          rcases hkc with rfl | ⟨hk0, hkf⟩ | ⟨hk0, hkf⟩
          · obtain ⟨kk, hkk⟩ : ∃ kk : Nat, (0 : Nat) = kk := ⟨_, rfl⟩
            have HKK := Lib.hid (HMX.out 0 (by omega))
            have HSC := Lib.hid (HFX.out 0 (by omega) (.inl rfl))
            clear hkk
            have HSZ := Lib.hid (size_mst ⟨c1, l1, 0, f1', xcl⟩)
            have HFA := Lib.hid (five_all ⟨c1, l1, 0, f1', xcl⟩)
            have HFS : Hid (∀ a b : Mst, (five a).size = (five b).size) := Lib.hid fun _ _ => rfl
            rcases HSC.out with ⟨hs0, hh⟩ | ⟨hs0, hh⟩
            · have HS0 := Lib.hid hs0
              have HHH := Lib.hid hh
              clear hs0 hh HSC HFX HMX
              go_wp2_with fail
              refine (mstore_at _ (HBX.out _).1 0 (by omega) (by omega) ⟨c1, l1, 0, f1', xcl⟩ HKK.out HLL.out HS0.out).mono ?_
              rintro e w2 ⟨own2', rfl, hd, hs⟩
              have HK2 := Lib.hid ((HBX.out _).disk hd hs)
              have HM := Lib.hid ((hs.1.block wr.heap.size (by simp) (fun hm => by have := HLT.out _ hm; omega)).trans (HBN.out _))
              generalize (PMst.st D 0 ⟨c1, l1, 0, f1', xcl⟩).1 = D2 at *
              have HP1 := Lib.hid (HK2.out.putW ⟨c1, l1, 0, f1', xcl⟩)
              have HP2 := Lib.hid (HP1.out.putN ⟨c1, l1, 0, f1', xcl⟩)
              have HM1 := Lib.hid ((setRow_other w2 pw wr.heap.size (five ⟨c1, l1, 0, f1', xcl⟩) (by have := HWW.out; omega)).trans HM.out)
              have HM2 := Lib.hid ((setRow_other (w2.setRow pw (five ⟨c1, l1, 0, f1', xcl⟩)) pn wr.heap.size (five ⟨c1, l1, 0, f1', xcl⟩) (by have := HWW.out; omega)).trans HM1.out)
              have HW := Lib.hid HK2.out.2.2.2.2.2.2.2.1
              have HNN := Lib.hid HP1.out.2.2.2.2.2.2.2.2.1
              obtain ⟨m0, m1, m2, m3, m4⟩ := cells5 HM.out
              obtain ⟨q0, q1, q2, q3, q4⟩ := cells5 HM1.out
              clear hd hs HBX HBN x0 x1 x2 x3 x4 n0
              go_wp2_with (first
                | ((with_reducible refine wpList_row_put rfl 24 (.tmp 12) (.tmp 100) rfl pw 24 (five ⟨nc, nl, nk, nf, ncl⟩) (five ⟨c1, l1, 0, f1', xcl⟩) ?_ ?_ HW.out HSZ.out (HFS.out _ _) HFA.out ?_); (· rfl); (· rfl))
                | ((with_reducible refine wpList_row_put rfl 24 (.tmp 13) (.tmp 101) rfl pn 24 (five ⟨nc, nl, nk, nf, ncl⟩) (five ⟨c1, l1, 0, f1', xcl⟩) ?_ ?_ HNN.out HSZ.out (HFS.out _ _) HFA.out ?_); (· rfl); (· rfl)))
              clear m0 m1 m2 m3 m4 q0 q1 q2 q3 q4
              by_cases hf : D2.fuse = 0
              · have hld := PMst.load_down hf
                have HLD : Hid (PMst.ld D2 0 = (⟨0, 0, 0, 0, false⟩, 40)) := Lib.hid hld
                clear hld hf
                go_wp2_with fail
                refine (mload_at _ HP2.out.1 0 (by omega) (by omega) HLD.out).mono ?_
                rintro e w3 ⟨rfl, hb⟩
                have HK3 := Lib.hid (fun o => (HP2.out.below hb).box o)
                clear hb
                go_wp2
                exact ⟨⟨k + 1, D2, own2', ⟨nc, nl, nk, nf, ncl⟩, ⟨c1, l1, 0, f1', xcl⟩, by omega, by go_num, Lib.hid ⟨by have := HN1.out; show c1 ≤ _; omega, HHH.out⟩, Lib.hid (HK3.out _)⟩, by simp [intOf]; omega⟩
              · have HLD := Lib.hid (PMst.load_holds HHH.out hf)
                clear hf
                go_wp2_with fail
                refine (mload_at _ HP2.out.1 0 (by omega) (by omega) HLD.out).mono ?_
                rintro e w3 ⟨rfl, hb⟩
                have HK3 := Lib.hid (fun o => (HP2.out.below hb).box o)
                have hm3 := (hb.block _ (Array.getElem?_eq_some_iff.1 HM2.out).1).trans HM2.out
                have hm4 := fun (o : Obj) => cells5 ((Below.heap_alloc w3 o _ (Array.getElem?_eq_some_iff.1 hm3).1).trans hm3)
                have r0 := fun o => (hm4 o).1
                have r1 := fun o => (hm4 o).2.1
                have r2 := fun o => (hm4 o).2.2.1
                have r3 := fun o => (hm4 o).2.2.2.1
                have r4 := fun o => (hm4 o).2.2.2.2
                clear hb hm3 hm4
                go_wp2
                exact ⟨⟨k + 1, D2, own2', ⟨nc, nl, nk, nf, ncl⟩, ⟨c1, l1, 0, f1', xcl⟩, by omega, by go_num, Lib.hid ⟨by have := HN1.out; show c1 ≤ _; omega, HHH.out⟩, Lib.hid (HK3.out _)⟩, by simp [intOf]; omega⟩
            · have HS0 := Lib.hid hs0
              have HHH := Lib.hid (hh kp)
              clear hs0 hh HSC HFX HMX
              go_wp2_with fail
              refine (mstore_at _ (HBX.out _).1 0 (by omega) (by omega) ⟨c1, l1, 0, f1', xcl⟩ HKK.out HLL.out HS0.out).mono ?_
              rintro e w2 ⟨own2', rfl, hd, hs⟩
              have HK2 := Lib.hid ((HBX.out _).disk hd hs)
              have HM := Lib.hid ((hs.1.block wr.heap.size (by simp) (fun hm => by have := HLT.out _ hm; omega)).trans (HBN.out _))
              generalize (PMst.st D 0 ⟨c1, l1, 0, f1', xcl⟩).1 = D2 at *
              have HP1 := Lib.hid (HK2.out.putW ⟨nc, nl, nk, nf, ncl⟩)
              have HP2 := Lib.hid (HP1.out.putN ⟨c1, l1, 0, f1', xcl⟩)
              have HM1 := Lib.hid ((setRow_other w2 pw wr.heap.size (five ⟨nc, nl, nk, nf, ncl⟩) (by have := HWW.out; omega)).trans HM.out)
              have HW := Lib.hid HK2.out.2.2.2.2.2.2.2.1
              have HNN := Lib.hid HP1.out.2.2.2.2.2.2.2.2.1
              have HSZN := Lib.hid (size_mst ⟨nc, nl, nk, nf, ncl⟩)
              have HFAN := Lib.hid (five_all ⟨nc, nl, nk, nf, ncl⟩)
              obtain ⟨m0, m1, m2, m3, m4⟩ := cells5 HK2.out.2.2.2.2.2.2.2.2.1
              obtain ⟨q0, q1, q2, q3, q4⟩ := cells5 HM1.out
              (try dsimp only at m0 m1 m2 m3 m4)
              clear hd hs HBX HBN x0 x1 x2 x3 x4 n0
              go_wp2_with (first
                | ((with_reducible refine wpList_row_put rfl 24 (.tmp 12) (.tmp 98) rfl pw 24 (five ⟨nc, nl, nk, nf, ncl⟩) (five ⟨nc, nl, nk, nf, ncl⟩) ?_ ?_ HW.out HSZN.out (HFS.out _ _) HFAN.out ?_); (· rfl); (· rfl))
                | ((with_reducible refine wpList_row_put rfl 24 (.tmp 13) (.tmp 99) rfl pn 24 (five ⟨nc, nl, nk, nf, ncl⟩) (five ⟨c1, l1, 0, f1', xcl⟩) ?_ ?_ HNN.out HSZ.out (HFS.out _ _) HFA.out ?_); (· rfl); (· rfl)))
              clear m0 m1 m2 m3 m4 q0 q1 q2 q3 q4
              rcases HHH.out.1 with hq | hq
              · have HL := Lib.hid (PMst.load_holds hq HHH.out.2)
                go_meet
                exact ⟨rfl, D2, own2', _, _, _, HP2, Lib.hid ⟨HL.out, .inl rfl⟩⟩
              · have HL := Lib.hid (PMst.load_holds hq HHH.out.2)
                go_meet
                exact ⟨rfl, D2, own2', _, _, _, HP2, Lib.hid ⟨HL.out, .inr rfl⟩⟩
          · have hkb : ((xk : Int) == 0) = false := by simp; omega
            have hkb2 : ((xk : Int) != 0) = true := by simp; omega
            have HKK := Lib.hid (HMX.out f1' (by omega))
            have HSC := Lib.hid (HFX.out f1' (by omega) (.inr (Nat.le_refl _)))
            have HSZ := Lib.hid (size_mst ⟨c1, l1, f1', f1', xcl⟩)
            have HFA := Lib.hid (five_all ⟨c1, l1, f1', f1', xcl⟩)
            have HFS : Hid (∀ a b : Mst, (five a).size = (five b).size) := Lib.hid fun _ _ => rfl
            rcases HSC.out with ⟨hs0, hh⟩ | ⟨hs0, hh⟩
            · have HS0 := Lib.hid hs0
              have HHH := Lib.hid hh
              clear hs0 hh HSC HFX HMX
              go_wp2_with fail
              refine (mstore_at _ (HBX.out _).1 0 (by omega) (by omega) ⟨c1, l1, f1', f1', xcl⟩ HKK.out HLL.out HS0.out).mono ?_
              rintro e w2 ⟨own2', rfl, hd, hs⟩
              have HK2 := Lib.hid ((HBX.out _).disk hd hs)
              have HM := Lib.hid ((hs.1.block wr.heap.size (by simp) (fun hm => by have := HLT.out _ hm; omega)).trans (HBN.out _))
              generalize (PMst.st D 0 ⟨c1, l1, f1', f1', xcl⟩).1 = D2 at *
              have HP1 := Lib.hid (HK2.out.putW ⟨c1, l1, f1', f1', xcl⟩)
              have HP2 := Lib.hid (HP1.out.putN ⟨c1, l1, f1', f1', xcl⟩)
              have HM1 := Lib.hid ((setRow_other w2 pw wr.heap.size (five ⟨c1, l1, f1', f1', xcl⟩) (by have := HWW.out; omega)).trans HM.out)
              have HM2 := Lib.hid ((setRow_other (w2.setRow pw (five ⟨c1, l1, f1', f1', xcl⟩)) pn wr.heap.size (five ⟨c1, l1, f1', f1', xcl⟩) (by have := HWW.out; omega)).trans HM1.out)
              have HW := Lib.hid HK2.out.2.2.2.2.2.2.2.1
              have HNN := Lib.hid HP1.out.2.2.2.2.2.2.2.2.1
              obtain ⟨m0, m1, m2, m3, m4⟩ := cells5 HM.out
              obtain ⟨q0, q1, q2, q3, q4⟩ := cells5 HM1.out
              clear hd hs HBX HBN x0 x1 x2 x3 x4 n0
              go_wp2_with (first
                | ((with_reducible refine wpList_row_put rfl 24 (.tmp 12) (.tmp 100) rfl pw 24 (five ⟨nc, nl, nk, nf, ncl⟩) (five ⟨c1, l1, f1', f1', xcl⟩) ?_ ?_ HW.out HSZ.out (HFS.out _ _) HFA.out ?_); (· rfl); (· rfl))
                | ((with_reducible refine wpList_row_put rfl 24 (.tmp 13) (.tmp 101) rfl pn 24 (five ⟨nc, nl, nk, nf, ncl⟩) (five ⟨c1, l1, f1', f1', xcl⟩) ?_ ?_ HNN.out HSZ.out (HFS.out _ _) HFA.out ?_); (· rfl); (· rfl)))
              clear m0 m1 m2 m3 m4 q0 q1 q2 q3 q4
              by_cases hf : D2.fuse = 0
              · have hld := PMst.load_down hf
                have HLD : Hid (PMst.ld D2 0 = (⟨0, 0, 0, 0, false⟩, 40)) := Lib.hid hld
                clear hld hf
                go_wp2_with fail
                refine (mload_at _ HP2.out.1 0 (by omega) (by omega) HLD.out).mono ?_
                rintro e w3 ⟨rfl, hb⟩
                have HK3 := Lib.hid (fun o => (HP2.out.below hb).box o)
                clear hb
                go_wp2
                exact ⟨⟨k + 1, D2, own2', ⟨nc, nl, nk, nf, ncl⟩, ⟨c1, l1, f1', f1', xcl⟩, by omega, by go_num, Lib.hid ⟨by have := HN1.out; show c1 ≤ _; omega, HHH.out⟩, Lib.hid (HK3.out _)⟩, by simp [intOf]; omega⟩
              · have HLD := Lib.hid (PMst.load_holds HHH.out hf)
                clear hf
                go_wp2_with fail
                refine (mload_at _ HP2.out.1 0 (by omega) (by omega) HLD.out).mono ?_
                rintro e w3 ⟨rfl, hb⟩
                have HK3 := Lib.hid (fun o => (HP2.out.below hb).box o)
                have hm3 := (hb.block _ (Array.getElem?_eq_some_iff.1 HM2.out).1).trans HM2.out
                have hm4 := fun (o : Obj) => cells5 ((Below.heap_alloc w3 o _ (Array.getElem?_eq_some_iff.1 hm3).1).trans hm3)
                have r0 := fun o => (hm4 o).1
                have r1 := fun o => (hm4 o).2.1
                have r2 := fun o => (hm4 o).2.2.1
                have r3 := fun o => (hm4 o).2.2.2.1
                have r4 := fun o => (hm4 o).2.2.2.2
                clear hb hm3 hm4
                go_wp2
                exact ⟨⟨k + 1, D2, own2', ⟨nc, nl, nk, nf, ncl⟩, ⟨c1, l1, f1', f1', xcl⟩, by omega, by go_num, Lib.hid ⟨by have := HN1.out; show c1 ≤ _; omega, HHH.out⟩, Lib.hid (HK3.out _)⟩, by simp [intOf]; omega⟩
            · have HS0 := Lib.hid hs0
              have HHH := Lib.hid (hh kp)
              clear hs0 hh HSC HFX HMX
              go_wp2_with fail
              refine (mstore_at _ (HBX.out _).1 0 (by omega) (by omega) ⟨c1, l1, f1', f1', xcl⟩ HKK.out HLL.out HS0.out).mono ?_
              rintro e w2 ⟨own2', rfl, hd, hs⟩
              have HK2 := Lib.hid ((HBX.out _).disk hd hs)
              have HM := Lib.hid ((hs.1.block wr.heap.size (by simp) (fun hm => by have := HLT.out _ hm; omega)).trans (HBN.out _))
              generalize (PMst.st D 0 ⟨c1, l1, f1', f1', xcl⟩).1 = D2 at *
              have HP1 := Lib.hid (HK2.out.putW ⟨nc, nl, nk, nf, ncl⟩)
              have HP2 := Lib.hid (HP1.out.putN ⟨c1, l1, f1', f1', xcl⟩)
              have HM1 := Lib.hid ((setRow_other w2 pw wr.heap.size (five ⟨nc, nl, nk, nf, ncl⟩) (by have := HWW.out; omega)).trans HM.out)
              have HW := Lib.hid HK2.out.2.2.2.2.2.2.2.1
              have HNN := Lib.hid HP1.out.2.2.2.2.2.2.2.2.1
              have HSZN := Lib.hid (size_mst ⟨nc, nl, nk, nf, ncl⟩)
              have HFAN := Lib.hid (five_all ⟨nc, nl, nk, nf, ncl⟩)
              obtain ⟨m0, m1, m2, m3, m4⟩ := cells5 HK2.out.2.2.2.2.2.2.2.2.1
              obtain ⟨q0, q1, q2, q3, q4⟩ := cells5 HM1.out
              (try dsimp only at m0 m1 m2 m3 m4)
              clear hd hs HBX HBN x0 x1 x2 x3 x4 n0
              go_wp2_with (first
                | ((with_reducible refine wpList_row_put rfl 24 (.tmp 12) (.tmp 98) rfl pw 24 (five ⟨nc, nl, nk, nf, ncl⟩) (five ⟨nc, nl, nk, nf, ncl⟩) ?_ ?_ HW.out HSZN.out (HFS.out _ _) HFAN.out ?_); (· rfl); (· rfl))
                | ((with_reducible refine wpList_row_put rfl 24 (.tmp 13) (.tmp 99) rfl pn 24 (five ⟨nc, nl, nk, nf, ncl⟩) (five ⟨c1, l1, f1', f1', xcl⟩) ?_ ?_ HNN.out HSZ.out (HFS.out _ _) HFA.out ?_); (· rfl); (· rfl)))
              clear m0 m1 m2 m3 m4 q0 q1 q2 q3 q4
              rcases HHH.out.1 with hq | hq
              · have HL := Lib.hid (PMst.load_holds hq HHH.out.2)
                go_meet
                exact ⟨rfl, D2, own2', _, _, _, HP2, Lib.hid ⟨HL.out, .inl rfl⟩⟩
              · have HL := Lib.hid (PMst.load_holds hq HHH.out.2)
                go_meet
                exact ⟨rfl, D2, own2', _, _, _, HP2, Lib.hid ⟨HL.out, .inr rfl⟩⟩
          · have hkb : ((xk : Int) == 0) = false := by simp; omega
            have hkb2 : ((xk : Int) != 0) = true := by simp; omega
            have hkfb : decide (xk < f1') = false := by simpa using hkf
            have HKK := Lib.hid (HMX.out xk hxk)
            have HSC := Lib.hid (HFX.out xk hxk (.inr (by omega)))
            have HSZ := Lib.hid (size_mst ⟨c1, l1, xk, f1', xcl⟩)
            have HFA := Lib.hid (five_all ⟨c1, l1, xk, f1', xcl⟩)
            have HFS : Hid (∀ a b : Mst, (five a).size = (five b).size) := Lib.hid fun _ _ => rfl
            rcases HSC.out with ⟨hs0, hh⟩ | ⟨hs0, hh⟩
            · have HS0 := Lib.hid hs0
              have HHH := Lib.hid hh
              clear hs0 hh HSC HFX HMX
              go_wp2_with fail
              refine (mstore_at _ (HBX.out _).1 0 (by omega) (by omega) ⟨c1, l1, xk, f1', xcl⟩ HKK.out HLL.out HS0.out).mono ?_
              rintro e w2 ⟨own2', rfl, hd, hs⟩
              have HK2 := Lib.hid ((HBX.out _).disk hd hs)
              have HM := Lib.hid ((hs.1.block wr.heap.size (by simp) (fun hm => by have := HLT.out _ hm; omega)).trans (HBN.out _))
              generalize (PMst.st D 0 ⟨c1, l1, xk, f1', xcl⟩).1 = D2 at *
              have HP1 := Lib.hid (HK2.out.putW ⟨c1, l1, xk, f1', xcl⟩)
              have HP2 := Lib.hid (HP1.out.putN ⟨c1, l1, xk, f1', xcl⟩)
              have HM1 := Lib.hid ((setRow_other w2 pw wr.heap.size (five ⟨c1, l1, xk, f1', xcl⟩) (by have := HWW.out; omega)).trans HM.out)
              have HM2 := Lib.hid ((setRow_other (w2.setRow pw (five ⟨c1, l1, xk, f1', xcl⟩)) pn wr.heap.size (five ⟨c1, l1, xk, f1', xcl⟩) (by have := HWW.out; omega)).trans HM1.out)
              have HW := Lib.hid HK2.out.2.2.2.2.2.2.2.1
              have HNN := Lib.hid HP1.out.2.2.2.2.2.2.2.2.1
              obtain ⟨m0, m1, m2, m3, m4⟩ := cells5 HM.out
              obtain ⟨q0, q1, q2, q3, q4⟩ := cells5 HM1.out
              clear hd hs HBX HBN x0 x1 x2 x3 x4 n0
              go_wp2_with (first
                | ((with_reducible refine wpList_row_put rfl 24 (.tmp 12) (.tmp 100) rfl pw 24 (five ⟨nc, nl, nk, nf, ncl⟩) (five ⟨c1, l1, xk, f1', xcl⟩) ?_ ?_ HW.out HSZ.out (HFS.out _ _) HFA.out ?_); (· rfl); (· rfl))
                | ((with_reducible refine wpList_row_put rfl 24 (.tmp 13) (.tmp 101) rfl pn 24 (five ⟨nc, nl, nk, nf, ncl⟩) (five ⟨c1, l1, xk, f1', xcl⟩) ?_ ?_ HNN.out HSZ.out (HFS.out _ _) HFA.out ?_); (· rfl); (· rfl)))
              clear m0 m1 m2 m3 m4 q0 q1 q2 q3 q4
              by_cases hf : D2.fuse = 0
              · have hld := PMst.load_down hf
                have HLD : Hid (PMst.ld D2 0 = (⟨0, 0, 0, 0, false⟩, 40)) := Lib.hid hld
                clear hld hf
                go_wp2_with fail
                refine (mload_at _ HP2.out.1 0 (by omega) (by omega) HLD.out).mono ?_
                rintro e w3 ⟨rfl, hb⟩
                have HK3 := Lib.hid (fun o => (HP2.out.below hb).box o)
                clear hb
                go_wp2
                exact ⟨⟨k + 1, D2, own2', ⟨nc, nl, nk, nf, ncl⟩, ⟨c1, l1, xk, f1', xcl⟩, by omega, by go_num, Lib.hid ⟨by have := HN1.out; show c1 ≤ _; omega, HHH.out⟩, Lib.hid (HK3.out _)⟩, by simp [intOf]; omega⟩
              · have HLD := Lib.hid (PMst.load_holds HHH.out hf)
                clear hf
                go_wp2_with fail
                refine (mload_at _ HP2.out.1 0 (by omega) (by omega) HLD.out).mono ?_
                rintro e w3 ⟨rfl, hb⟩
                have HK3 := Lib.hid (fun o => (HP2.out.below hb).box o)
                have hm3 := (hb.block _ (Array.getElem?_eq_some_iff.1 HM2.out).1).trans HM2.out
                have hm4 := fun (o : Obj) => cells5 ((Below.heap_alloc w3 o _ (Array.getElem?_eq_some_iff.1 hm3).1).trans hm3)
                have r0 := fun o => (hm4 o).1
                have r1 := fun o => (hm4 o).2.1
                have r2 := fun o => (hm4 o).2.2.1
                have r3 := fun o => (hm4 o).2.2.2.1
                have r4 := fun o => (hm4 o).2.2.2.2
                clear hb hm3 hm4
                go_wp2
                exact ⟨⟨k + 1, D2, own2', ⟨nc, nl, nk, nf, ncl⟩, ⟨c1, l1, xk, f1', xcl⟩, by omega, by go_num, Lib.hid ⟨by have := HN1.out; show c1 ≤ _; omega, HHH.out⟩, Lib.hid (HK3.out _)⟩, by simp [intOf]; omega⟩
            · have HS0 := Lib.hid hs0
              have HHH := Lib.hid (hh kp)
              clear hs0 hh HSC HFX HMX
              go_wp2_with fail
              refine (mstore_at _ (HBX.out _).1 0 (by omega) (by omega) ⟨c1, l1, xk, f1', xcl⟩ HKK.out HLL.out HS0.out).mono ?_
              rintro e w2 ⟨own2', rfl, hd, hs⟩
              have HK2 := Lib.hid ((HBX.out _).disk hd hs)
              have HM := Lib.hid ((hs.1.block wr.heap.size (by simp) (fun hm => by have := HLT.out _ hm; omega)).trans (HBN.out _))
              generalize (PMst.st D 0 ⟨c1, l1, xk, f1', xcl⟩).1 = D2 at *
              have HP1 := Lib.hid (HK2.out.putW ⟨nc, nl, nk, nf, ncl⟩)
              have HP2 := Lib.hid (HP1.out.putN ⟨c1, l1, xk, f1', xcl⟩)
              have HM1 := Lib.hid ((setRow_other w2 pw wr.heap.size (five ⟨nc, nl, nk, nf, ncl⟩) (by have := HWW.out; omega)).trans HM.out)
              have HW := Lib.hid HK2.out.2.2.2.2.2.2.2.1
              have HNN := Lib.hid HP1.out.2.2.2.2.2.2.2.2.1
              have HSZN := Lib.hid (size_mst ⟨nc, nl, nk, nf, ncl⟩)
              have HFAN := Lib.hid (five_all ⟨nc, nl, nk, nf, ncl⟩)
              obtain ⟨m0, m1, m2, m3, m4⟩ := cells5 HK2.out.2.2.2.2.2.2.2.2.1
              obtain ⟨q0, q1, q2, q3, q4⟩ := cells5 HM1.out
              (try dsimp only at m0 m1 m2 m3 m4)
              clear hd hs HBX HBN x0 x1 x2 x3 x4 n0
              go_wp2_with (first
                | ((with_reducible refine wpList_row_put rfl 24 (.tmp 12) (.tmp 98) rfl pw 24 (five ⟨nc, nl, nk, nf, ncl⟩) (five ⟨nc, nl, nk, nf, ncl⟩) ?_ ?_ HW.out HSZN.out (HFS.out _ _) HFAN.out ?_); (· rfl); (· rfl))
                | ((with_reducible refine wpList_row_put rfl 24 (.tmp 13) (.tmp 99) rfl pn 24 (five ⟨nc, nl, nk, nf, ncl⟩) (five ⟨c1, l1, xk, f1', xcl⟩) ?_ ?_ HNN.out HSZ.out (HFS.out _ _) HFA.out ?_); (· rfl); (· rfl)))
              clear m0 m1 m2 m3 m4 q0 q1 q2 q3 q4
              rcases HHH.out.1 with hq | hq
              · have HL := Lib.hid (PMst.load_holds hq HHH.out.2)
                go_meet
                exact ⟨rfl, D2, own2', _, _, _, HP2, Lib.hid ⟨HL.out, .inl rfl⟩⟩
              · have HL := Lib.hid (PMst.load_holds hq HHH.out.2)
                go_meet
                exact ⟨rfl, D2, own2', _, _, _, HP2, Lib.hid ⟨HL.out, .inr rfl⟩⟩
        · have hkn : k = l.length := by omega
          have i1 : ¬ (k : Int) < l.length := by omega
          have HL : Hid (PMst.ld (PDsk.crash D [kp, kp]) 0 = (⟨nc, nl, nk, nf, ncl⟩, 0)) := Lib.hid (PMst.load_holds (PMst.holds_crash HH.out.2 _) (by simp [PDsk.crash]))
          clear hkn hlt
          go_wp2_with fail
          go_meet
          exact ⟨rfl, D, own, _, _, _, HK, Lib.hid ⟨HL.out, .inl rfl⟩⟩
    case rest =>
      obtain ⟨rfl, D, own, ⟨ac, al, ak, af, acl⟩, ⟨bc, bl, bk, bf, bcl⟩, X, HK, HE⟩ := hcut
      clear HK0 HH1
      have hX := HE.out.2
      have hL := HE.out.1
      clear HE
      rcases hX with rfl | rfl
      · have HL := Lib.hid hL
        clear hL
        have HCR := Lib.hid (fun o => HK.out.box o)
        go_wp2_with fail
        refine (crash_any _ (HCR.out _).1 _ [kp, kp] (rd_new (vs := [.bool kp, .bool kp]) 4 (by unfold maxLen; simp)) (fun k e hm => by simp [Value.ownBlock] at e; have := HK.out.1.lt k hm; omega)).mono ?_
        rintro e wc ⟨ownc, rfl, hd, hs⟩
        have HKC := Lib.hid ((HCR.out _).disk hd hs)
        clear hd hs HCR HK
        go_wp2_with fail
        refine (mload_at _ HKC.out.1 0 (by omega) (by omega) HL.out).mono ?_
        rintro e wl ⟨rfl, hb⟩
        have HKL := Lib.hid (fun o => (HKC.out.below hb).box o)
        have p0 := fun o => (cells5 (HKL.out o).2.2.2.2.2.2.2.1).1
        have p1 := fun o => (cells5 (HKL.out o).2.2.2.2.2.2.2.1).2.1
        have p2 := fun o => (cells5 (HKL.out o).2.2.2.2.2.2.2.1).2.2.1
        have p3 := fun o => (cells5 (HKL.out o).2.2.2.2.2.2.2.1).2.2.2.1
        have p4 := fun o => (cells5 (HKL.out o).2.2.2.2.2.2.2.1).2.2.2.2
        have n0 := fun o => (cells5 (HKL.out o).2.2.2.2.2.2.2.2.1).1
        have n1 := fun o => (cells5 (HKL.out o).2.2.2.2.2.2.2.2.1).2.1
        have n2 := fun o => (cells5 (HKL.out o).2.2.2.2.2.2.2.2.1).2.2.1
        have n3 := fun o => (cells5 (HKL.out o).2.2.2.2.2.2.2.2.1).2.2.2.1
        have n4 := fun o => (cells5 (HKL.out o).2.2.2.2.2.2.2.2.1).2.2.2.2
        (try dsimp only at p0 p1 p2 p3 p4 n0 n1 n2 n3 n4)
        clear hb HKC HL
        go_wp2_with fail
        refine (works12_any _).mono ?_
        rintro e ww ⟨rfl, hb⟩
        have HZ := Lib.hid ((HKL.out _).2.2.2.2.2.2.2.2.2.step hb)
        clear hb
        go_wp2
        go_ret
        exact ⟨rfl, HZ.out⟩
      · have HL := Lib.hid hL
        clear hL
        cases hq : mEq ⟨bc, bl, bk, bf, bcl⟩ ⟨ac, al, ak, af, acl⟩
        all_goals
          have HCR := Lib.hid (fun o => HK.out.box o)
          go_wp2_with fail
          refine (crash_any _ (HCR.out _).1 _ [kp, kp] (rd_new (vs := [.bool kp, .bool kp]) 4 (by unfold maxLen; simp)) (fun k e hm => by simp [Value.ownBlock] at e; have := HK.out.1.lt k hm; omega)).mono ?_
          rintro e wc ⟨ownc, rfl, hd, hs⟩
          have HKC := Lib.hid ((HCR.out _).disk hd hs)
          clear hd hs HCR HK
          go_wp2_with fail
          refine (mload_at _ HKC.out.1 0 (by omega) (by omega) HL.out).mono ?_
          rintro e wl ⟨rfl, hb⟩
          have HKL := Lib.hid (fun o => (HKC.out.below hb).box o)
          have p0 := fun o => (cells5 (HKL.out o).2.2.2.2.2.2.2.1).1
          have p1 := fun o => (cells5 (HKL.out o).2.2.2.2.2.2.2.1).2.1
          have p2 := fun o => (cells5 (HKL.out o).2.2.2.2.2.2.2.1).2.2.1
          have p3 := fun o => (cells5 (HKL.out o).2.2.2.2.2.2.2.1).2.2.2.1
          have p4 := fun o => (cells5 (HKL.out o).2.2.2.2.2.2.2.1).2.2.2.2
          have n0 := fun o => (cells5 (HKL.out o).2.2.2.2.2.2.2.2.1).1
          have n1 := fun o => (cells5 (HKL.out o).2.2.2.2.2.2.2.2.1).2.1
          have n2 := fun o => (cells5 (HKL.out o).2.2.2.2.2.2.2.2.1).2.2.1
          have n3 := fun o => (cells5 (HKL.out o).2.2.2.2.2.2.2.2.1).2.2.2.1
          have n4 := fun o => (cells5 (HKL.out o).2.2.2.2.2.2.2.2.1).2.2.2.2
          (try dsimp only at p0 p1 p2 p3 p4 n0 n1 n2 n3 n4)
          clear hb HKC HL
          go_wp2_with fail
          refine (works12_any _).mono ?_
          rintro e ww ⟨rfl, hb⟩
          have HZ := Lib.hid ((HKL.out _).2.2.2.2.2.2.2.2.2.step hb)
          clear hb
          go_wp2
          go_ret
          exact ⟨rfl, HZ.out⟩
end Go.Proofs.Ytmbialiledjigaa
