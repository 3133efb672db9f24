/-
  LogRing, the walk: a log writes nothing outside of its ring, what is refused changes nothing, each byte that is appended is one less of the room. No conditions.
-/
import Derived.Test.YtjnggldalggfnaaLog16
import Derived.Test.YtjnggldalggfnaaLog13
import Derived.Test.YtjnggldalggfnaaPLog4
import Derived.Test.YtjnggldalggfnaaHeavyA
import Derived.Test.YtjnggldalggfnaaFrame
import Derived.Test.YtjnggldalggfnaaRd
namespace Go.Proofs.Ytjnggldalggfnaa
open Go.ChangeShapes Go.WideShapes Go.ChangeAt Go.RowKit
open Go.ChangeMaps (open_string shut_string)
theorem totalC_mem {cs : List ActM} {x : ActM} (h : x ∈ cs) : x.s.size + x.keep.length ≤ totalC cs := by
  induction cs with
  | nil => cases h
  | cons y cs ih =>
    have e : totalC (y :: cs) = (y.s.size + y.keep.length) + totalC cs := by simp [totalC]
    rcases List.mem_cons.1 h with rfl | h
    · omega
    · have := ih h; omega
theorem light_of {cs : List ActM} (h : heavyB cs = false) : cs.length ≤ 60 ∧ ∀ x ∈ cs, x.s.size ≤ 3000 ∧ x.keep.length ≤ 3000 := by
  unfold heavyB at h
  simp only [Bool.or_eq_false_iff, decide_eq_false_iff_not] at h
  refine ⟨by omega, fun x hx => ?_⟩
  have := totalC_mem hx
  omega
section
variable {w : World} {g b : Nat} {L : PLog.Lg} {D : PDsk.Dsk} {own : List Nat}
theorem room_ld (h : LD w g L b D own) : Calls Try.prog 19 #[.pointer (some ⟨g, 0, none⟩)] w fun e w' => e = .returned (.int .i64 (L.room : Nat)) ∧ Below w.heap.size w w' := by
  obtain ⟨o, h1⟩ := h.log
  exact room_any w h1
theorem first_ld (h : LD w g L b D own) : Calls Try.prog 15 #[.pointer (some ⟨g, 0, none⟩)] w fun e w' => e = .returned (.int .u64 L.first) ∧ w = w' := by
  obtain ⟨o, h1⟩ := h.log
  exact first_any w h1
theorem next_ld (h : LD w g L b D own) : Calls Try.prog 16 #[.pointer (some ⟨g, 0, none⟩)] w fun e w' => e = .returned (.int .u64 L.next) ∧ w = w' := by
  obtain ⟨o, h1⟩ := h.log
  exact next_any w h1
theorem forced_ld (h : LD w g L b D own) : Calls Try.prog 17 #[.pointer (some ⟨g, 0, none⟩)] w fun e w' => e = .returned (.int .u64 L.forced) ∧ w = w' := by
  obtain ⟨o, h1⟩ := h.log
  exact forced_any w h1
theorem reserved_ld (h : LD w g L b D own) : Calls Try.prog 18 #[.pointer (some ⟨g, 0, none⟩)] w fun e w' => e = .returned (.int .i64 L.reserved) ∧ w = w' := by
  obtain ⟨o, h1⟩ := h.log
  exact reserved_any w h1
end
def RgS (w0 : World) (pl k : Nat) (i g b : Nat) (wr : World) : Prop := ∃ L D own, PLog.Rg pl k L D ∧ L.next ≤ 110 + 5000 * i ∧ LD wr g L b D own ∧ Below w0.heap.size w0 wr ∧ ∀ j ∈ own, w0.heap.size ≤ j
set_option maxRecDepth 100000 in
set_option maxHeartbeats 16000000 in
theorem logRing_any (w : World) (pa n : Nat) (_ : pa < 256) (_ : n < 256) (v : Value) (cs : List ActM) (hr : RdActs w v cs) (hok : ∀ x ∈ cs, x.Ok) :
    Calls Try.prog 4 #[.int .u8 pa, .int .u8 n, v] w fun e w' => e = .returned (.bool true) ∧ Below w.heap.size w w' := by
  have HHV := Lib.hid (heavy13_any w v cs hr hok)
  cases hh : heavyB cs with
  | true =>
    rw [hh] at HHV
    clear hr hok hh
    go_enter Try.func4, Try.ntmps4
    go_wp2_with fail
    refine HHV.out.mono ?_; rintro e w1 ⟨rfl, hb⟩
    have HB := Lib.hid hb
    clear hb
    go_wp2_with fail
    refine (works13_any _).mono ?_; rintro e w2 ⟨rfl, hb⟩
    replace HB := Lib.hid (HB.out.step hb)
    clear hb
    go_wp2
    go_ret
    exact ⟨rfl, HB.out⟩
  | false =>
  rw [hh] at HHV
  obtain ⟨hl60, hlight⟩ := light_of hh
  obtain ⟨pl, hpl⟩ : ∃ pl, pa % 9 = pl := ⟨_, rfl⟩
  obtain ⟨k, hk⟩ : ∃ k, 4 + n % 10 = k := ⟨_, rfl⟩
  obtain ⟨q, hq⟩ : ∃ q, n % 10 = q := ⟨_, rfl⟩
  have hpl8 : pl ≤ 8 := by omega
  have hk4 : 4 ≤ k := by omega
  have hk13 : k ≤ 13 := by omega
  obtain ⟨M, hM⟩ : ∃ M, M = pl + k + 5 := ⟨_, rfl⟩
  have m1 : (n : Int) % 10 = q := by omega
  have m2 : IntKind.i64.wrap (q : Int) = q := IntWalk.i64_in _ (by omega)
  have m3 : IntKind.i64.wrap (4 + (q : Int)) = k := by rw [IntWalk.i64_in _ (by omega)]; omega
  have m4 : (pa : Int) % 9 = pl := by omega
  have m5 : IntKind.i64.wrap (pl : Int) = pl := IntWalk.i64_in _ (by omega)
  obtain ⟨M0, hM0⟩ : ∃ M0, M0 = pl + k := ⟨_, rfl⟩
  have m6 : IntKind.i64.wrap ((pl : Int) + k) = M0 := by rw [IntWalk.i64_in _ (by omega)]; omega
  have m7 : IntKind.i64.wrap ((M0 : Int) + 5) = M := by rw [IntWalk.i64_in _ (by omega)]; omega
  have HDN : Hid (∀ W, Calls Try.prog 21 #[.int .i64 M] W (DNewPost M W)) := Lib.hid (fun W => dnew_any M (by omega) (by omega) W)
  have HLN : Hid (∀ W b down, IsDisk W b (PDsk.new M) down → Calls Try.prog 10 #[.pointer (some ⟨b, 0, none⟩), .int .i64 pl, .int .i64 k, .int .u64 1] W (LNewP pl k 1 b (PDsk.new M) down W)) := Lib.hid (fun W b down h => lnew_ld W h pl k 1 hk4 (by omega) (by show pl + k ≤ (List.replicate M PDsk.zero).length; rw [List.length_replicate]; omega) (by omega) (by omega))
  have HRG0 : Hid (PLog.Rg pl k (PLog.fresh pl k 1) (PDsk.new M)) := Lib.hid (by rw [hM]; exact PLog.Rg.start hk4 (by omega) (by omega))
  have HMM := Lib.hid hM
  have HM0 := Lib.hid hM0
  obtain ⟨vp, vc, rfl, hr2, hr3, hr4⟩ := hr
  have HR := Lib.hid hr4
  have HOK := Lib.hid hok
  have HLI := Lib.hid hlight
  clear hr2 hr3 hr4 hok hh hlight hpl hk hq hM hM0
  go_enter Try.func4, Try.ntmps4
  go_wp2_with fail
  refine HHV.out.mono ?_; rintro e w1 ⟨rfl, hb⟩
  have HB1 := Lib.hid hb
  clear hb
  go_wp2_with fail
  refine (HDN.out _).mono ?_
  rintro e w2 ⟨b, down, rfl, hb, hd, ho⟩
  have HB2 := Lib.hid (HB1.out.step hb)
  have HD2 := Lib.hid hd
  have HO2 : Hid (∀ j ∈ down, w.heap.size ≤ j) := Lib.hid (fun j hj => Nat.le_trans HB1.out.size (ho j hj))
  clear hb hd ho
  go_wp2_with fail
  refine (HLN.out _ _ _ HD2.out).mono ?_
  rintro e w3 ⟨g, own3, rfl, k1, k2⟩
  have HL3 := Lib.hid k1
  have HB3 := Lib.hid (Stepped.below HB2.out (Nat.le_refl _) HO2.out k2)
  clear k1 k2
  have hmk : (Instr.makeSlice 43 (.int .i64 128) (.int .i64 128)).run Try.prog w3 = .ok (.slice (some ⟨w3.heap.size, 0, none⟩) 128 128) (w3.alloc (.cells (madeB 128) 5)) := make_bytes 128 (by omega) w3
  obtain ⟨z, hz⟩ : ∃ z : ByteArray, (⟨(List.replicate 128 (0 : UInt8)).toArray⟩ : ByteArray) = z := ⟨_, rfl⟩
  have hcv := Sl.conv (Sl.of_made w3 w3.heap.size (Nat.le_refl _) 5 128 (by unfold maxLen; omega))
  rw [hz] at hcv
  have HZ := Lib.hid hz
  clear hz m1 m2 m3 m4 m5 m6 m7
  go_wp2_with fail
  go_loopw [14] (fun iv wr => ∃ i : Nat, i ≤ cs.length ∧ iv = .int .i64 i ∧ Hid (RgS w pl k i g b wr)) (fun iv _ => cs.length - (intOf iv).toNat)
  case atStart => exact ⟨0, Nat.zero_le _, rfl, Lib.hid ⟨_, _, _, HRG0.out, by show 110 ≤ _; omega, HL3.out.below (Below.refl _ _ |>.alloc (Nat.le_refl _) _), (HB3.out.1.alloc HB3.out.1.size _), HB3.out.2⟩⟩
  case round =>
    obtain ⟨i, hi, rfl, HS⟩ := hrel
    clear HL3 HB3 HB2 HB1 HD2 HO2 HDN HLN HRG0 HHV hmk hcv HM0
    have i0 : (0 : Int) ≤ i := by omega
    by_cases hlt : i < cs.length
    · have i1 : (i : Int) < cs.length := by omega
      obtain ⟨L, D, own, hRg, hnx, hLD, hB, hO⟩ := HS.out
      have HLD := Lib.hid hLD
      have HB := Lib.hid hB
      have HO := Lib.hid hO
      have HRg := Lib.hid hRg
      have HNX := Lib.hid hnx
      clear HS hRg hnx hLD hB hO
      go_wp2_with fail
      refine (room_ld HLD.out).mono ?_; rintro e w4 ⟨rfl, hb⟩
      have HL4 := Lib.hid (HLD.out.below hb)
      have HB4 := Lib.hid (HB.out.step hb)
      clear hb HLD HB
      obtain ⟨ga, off, rfl, hga, hca⟩ := actAt_rd HR.out HB4.out hlt
      have hxo := HOK.out cs[i] (List.getElem_mem hlt)
      have hxl := HLI.out cs[i] (List.getElem_mem hlt)
      generalize cs[i] = x at hca hxo hxl
      have hcs := HO.out
      obtain ⟨xd, xs, xl, xw, xn, xk, xkeep⟩ := x
      have HX := Lib.hid hca
      obtain ⟨x0, x1, _, _, x4, _⟩ := hca
      (try dsimp only at x0 x1 x4)
      obtain ⟨hxo1, _, _, _, hxo2, hxo3, _⟩ := hxo
      (try dsimp only at hxo1 hxo2 hxo3 hxl)
      have hxl := hxl.1
      obtain ⟨r, hr⟩ : ∃ r, xd % 4 = r := ⟨_, rfl⟩
      have m1 : (xd : Int) % 4 = r := by omega
      have hr4 : r < 4 := by omega
      have HNXT := Lib.hid (next_ld HL4.out)
      have HFST := Lib.hid (first_ld HL4.out)
      have HRES := Lib.hid (reserved_ld HL4.out)
      have HRM : Hid (L.room ≤ 11000) := Lib.hid (by have := HRg.out.nE; unfold PLog.Lg.room; rw [this]; omega)
      clear hr hcs HX
      go_upto_block 2 with (first
        | (refine HNXT.out.mono ?_; rintro e w5 ⟨rfl, rfl⟩)
        | (refine HFST.out.mono ?_; rintro e w5 ⟨rfl, rfl⟩)
        | (refine HRES.out.mono ?_; rintro e w5 ⟨rfl, rfl⟩))
      clear HNXT HFST HRES
      have HEND : Hid (∀ L2 D2 own2 wx, PLog.Rg pl k L2 D2 → L2.next ≤ L.next + 5000 → LD wx g L2 b D2 own2 → Stepped w4 wx own own2 → RgS w pl k (i + 1) g b wx) := Lib.hid (fun L2 D2 own2 wx h1 h2 h3 h4 => ⟨L2, D2, own2, h1, by have := HNX.out; omega, h3, Stepped.below HB4.out (Nat.le_refl _) HO.out h4⟩)
      have HX1 : Hid (∀ wx, Below w.heap.size w wx → wx.cell? ⟨ga, off + i * 6 + 1, none⟩ = some (.string xs)) := Lib.hid (fun wx hb => (hb.cell (p := ⟨ga, _, none⟩) hga).trans ((HB4.out.cell (p := ⟨ga, _, none⟩) hga).symm.trans x1))
      have HX4 : Hid (∀ wx, Below w.heap.size w wx → wx.cell? ⟨ga, off + i * 6 + 4, none⟩ = some (.int .i64 xn)) := Lib.hid (fun wx hb => (hb.cell (p := ⟨ga, _, none⟩) hga).trans ((HB4.out.cell (p := ⟨ga, _, none⟩) hga).symm.trans x4))
      go_cut [19, 20, 21, 22, 23, 24] from 67 to 266 (fun s19 s20 s21 s22 s23 s24 wx => Hid (RgS w pl k (i + 1) g b wx))
      case first =>
        obtain rfl | rfl | rfl | rfl : r = 0 ∨ r = 1 ∨ r = 2 ∨ r = 3 := by omega
        · clear x4 HX4
          obtain ⟨S, hS⟩ : ∃ S, xs.size + 14 = S := ⟨_, rfl⟩
          have hS1 : S ≤ 3014 := by omega
          have wS : IntKind.i64.wrap ((xs.size : Int) + 14) = S := by rw [IntWalk.i64_in _ (by omega)]; omega
          have wU : IntKind.u64.wrap (S : Int) = S := IntWalk.u64_in _ (by omega)
          obtain ⟨hR2, hcc⟩ := HRg.out.append xs.data.toList (by have := HNX.out; omega)
          rw [show xs.data.toList.length + 14 = S from hS] at hcc
          have hAP := lappend_ld HL4.out xs (by unfold maxLen; omega) (by have := HNX.out; omega)
          generalize PLog.append L xs.data.toList = A at hR2 hcc hAP
          obtain ⟨L2, a1, a2⟩ := A
          have HR2 := Lib.hid hR2
          (try dsimp only at hcc hAP)
          have HSS := Lib.hid hS
          clear hS hR2
          rcases hcc with ⟨rfl, e1, e2, e3⟩ | ⟨rfl, e1⟩ | ⟨rfl, e1, e2⟩
          · as_aux_lemma =>
              have HAP := Lib.hid hAP
              obtain ⟨R2, hr2⟩ : ∃ R2, L2.room = R2 := ⟨_, rfl⟩
              have wR : IntKind.i64.wrap ((L.room : Int) - S) = (L2.room : Nat) := by rw [IntWalk.i64_in _ (by have := HRM.out; omega)]; omega
              have wN : IntKind.u64.wrap ((L.next : Int) + S) = (L2.next : Nat) := by rw [IntWalk.u64_in _ (by have := HNX.out; omega)]; omega
              have HE := Lib.hid (show L2.next ≤ L.next + 5000 by omega)
              clear hAP e1 e2 e3 hr2
              go_wp2_with fail
              refine HAP.out.mono ?_
              rintro e w5 ⟨own5, rfl, k1, k2⟩
              have HL5 := Lib.hid k1
              have HS5 := Lib.hid k2
              have y1 := HX1.out w5 (Stepped.below HB4.out (Nat.le_refl _) HO.out k2).1
              clear k1 k2
              go_wp2_with fail
              refine (room_ld HL5.out).mono ?_; rintro e w6 ⟨rfl, hb⟩
              have HL6 := Lib.hid (HL5.out.below hb)
              have HS6 := Lib.hid (HS5.out.trans (Stepped.of_below hb _))
              clear hb
              go_wp2_with fail
              refine (next_ld HL6.out).mono ?_; rintro e w7 ⟨rfl, rfl⟩
              go_wp2_with fail
              go_meet
              exact Lib.hid (HEND.out _ _ _ _ HR2.out HE.out HL6.out HS6.out)
          · as_aux_lemma =>
              subst e1
              have HAP := Lib.hid hAP
              have wR : IntKind.i64.wrap ((L2.room : Nat) : Int) = (L2.room : Nat) := IntWalk.i64_in _ (by have := HRM.out; omega)
              have wN : IntKind.u64.wrap ((L2.next : Nat) : Int) = (L2.next : Nat) := IntWalk.u64_in _ (by have := HNX.out; omega)
              clear hAP
              go_wp2_with fail
              refine HAP.out.mono ?_
              rintro e w5 ⟨own5, rfl, k1, k2⟩
              have HL5 := Lib.hid k1
              have HS5 := Lib.hid k2
              have y1 := HX1.out w5 (Stepped.below HB4.out (Nat.le_refl _) HO.out k2).1
              clear k1 k2
              go_wp2_with fail
              refine (room_ld HL5.out).mono ?_; rintro e w6 ⟨rfl, hb⟩
              have HL6 := Lib.hid (HL5.out.below hb)
              have HS6 := Lib.hid (HS5.out.trans (Stepped.of_below hb _))
              clear hb
              go_wp2_with fail
              refine (next_ld HL6.out).mono ?_; rintro e w7 ⟨rfl, rfl⟩
              go_wp2_with fail
              go_meet
              exact Lib.hid (HEND.out _ _ _ _ HR2.out (by omega) HL6.out HS6.out)
          · as_aux_lemma =>
              subst e1
              have HAP := Lib.hid hAP
              have wR : IntKind.i64.wrap ((L2.room : Nat) : Int) = (L2.room : Nat) := IntWalk.i64_in _ (by have := HRM.out; omega)
              have wN : IntKind.u64.wrap ((L2.next : Nat) : Int) = (L2.next : Nat) := IntWalk.u64_in _ (by have := HNX.out; omega)
              have wF : ¬ (S : Int) ≤ (L2.room : Nat) := by omega
              clear hAP e2
              go_wp2_with fail
              refine HAP.out.mono ?_
              rintro e w5 ⟨own5, rfl, k1, k2⟩
              have HL5 := Lib.hid k1
              have HS5 := Lib.hid k2
              have y1 := HX1.out w5 (Stepped.below HB4.out (Nat.le_refl _) HO.out k2).1
              clear k1 k2
              go_wp2_with fail
              refine (room_ld HL5.out).mono ?_; rintro e w6 ⟨rfl, hb⟩
              have HL6 := Lib.hid (HL5.out.below hb)
              have HS6 := Lib.hid (HS5.out.trans (Stepped.of_below hb _))
              clear hb
              go_wp2_with fail
              refine (next_ld HL6.out).mono ?_; rintro e w7 ⟨rfl, rfl⟩
              go_wp2_with fail
              go_meet
              exact Lib.hid (HEND.out _ _ _ _ HR2.out (by omega) HL6.out HS6.out)
        · as_aux_lemma =>
            clear x4 x1 HX4 HX1
            obtain ⟨f1, f2, f3⟩ := HRg.out.force
            have hFO := lforce_any HL4.out L.next (by rw [HRg.out.loose]; simp)
            rw [f1] at hFO
            rw [f2] at hFO f3
            generalize (PLog.force L D L.next).2.1 = D2 at hFO f3
            obtain ⟨L2, hL2⟩ : ∃ L2, ({ L with forced := L.next } : PLog.Lg) = L2 := ⟨_, rfl⟩
            have g1 : L2.forced = L.next := by rw [← hL2]
            have g2 : L2.room = L.room := by rw [← hL2]; rfl
            have g3 : L2.next = L.next := by rw [← hL2]; rfl
            rw [hL2] at hFO f3
            have HFO := Lib.hid hFO
            have HR2 := Lib.hid f3
            have HE := Lib.hid (show L2.next ≤ L.next + 5000 by omega)
            have HFR : Hid (∀ W own2, LD W g L2 b D2 own2 → Calls Try.prog 19 #[.pointer (some ⟨g, 0, none⟩)] W fun e w' => e = .returned (.int .i64 (L.room : Nat)) ∧ Below W.heap.size W w') := Lib.hid (fun W own2 h => by rw [← g2]; exact room_ld h)
            have HFF : Hid (∀ W own2, LD W g L2 b D2 own2 → Calls Try.prog 17 #[.pointer (some ⟨g, 0, none⟩)] W fun e w' => e = .returned (.int .u64 L.next) ∧ W = w') := Lib.hid (fun W own2 h => by rw [← g1]; exact forced_ld h)
            clear hFO f1 f2 f3 hL2 g1 g2 g3
            go_wp2_with fail
            refine HFO.out.mono ?_
            rintro e w5 ⟨own5, rfl, k1, k2⟩
            have HL5 := Lib.hid k1
            have HS5 := Lib.hid k2
            clear k1 k2
            go_wp2_with fail
            refine (HFR.out _ _ HL5.out).mono ?_; rintro e w6 ⟨rfl, hb⟩
            have HL6 := Lib.hid (HL5.out.below hb)
            have HS6 := Lib.hid (HS5.out.trans (Stepped.of_below hb _))
            clear hb
            go_wp2_with fail
            refine (HFF.out _ _ HL6.out).mono ?_; rintro e w7 ⟨rfl, rfl⟩
            go_wp2_with fail
            go_meet
            exact Lib.hid (HEND.out _ _ _ _ HR2.out HE.out HL6.out HS6.out)
        · as_aux_lemma =>
            clear x4 x1 HX4 HX1
            obtain ⟨f1, f2, f3, f4, f5, f6⟩ := HRg.out.keep
            have hFO := HL4.out.of_log (fun _ h1 => lkeep_any w4 h1 L.forced)
            rw [f1] at hFO
            generalize (PLog.keep L L.forced).1 = L2 at hFO f2 f3 f4 f5 f6
            have HFO := Lib.hid hFO
            have HR2 := Lib.hid f6
            have HE := Lib.hid (show L2.next ≤ L.next + 5000 by omega)
            have HFF : Hid (∀ W own2, LD W g L2 b D own2 → Calls Try.prog 15 #[.pointer (some ⟨g, 0, none⟩)] W fun e w' => e = .returned (.int .u64 L.forced) ∧ W = w') := Lib.hid (fun W own2 h => by rw [← f2]; exact first_ld h)
            have wR : ¬ ((L2.room : Nat) : Int) < (L.room : Nat) := by omega
            clear hFO f1 f2 f3 f4 f5 f6
            go_wp2_with fail
            refine (forced_ld HL4.out).mono ?_; rintro e w5 ⟨rfl, rfl⟩
            go_wp2_with fail
            refine HFO.out.mono ?_
            rintro e w5 ⟨own5, rfl, k1, k2⟩
            have HL5 := Lib.hid k1
            have HS5 := Lib.hid k2
            clear k1 k2
            go_wp2_with fail
            refine (HFF.out _ _ HL5.out).mono ?_; rintro e w7 ⟨rfl, rfl⟩
            go_wp2_with fail
            refine (room_ld HL5.out).mono ?_; rintro e w6 ⟨rfl, hb⟩
            have HL6 := Lib.hid (HL5.out.below hb)
            have HS6 := Lib.hid (HS5.out.trans (Stepped.of_below hb _))
            clear hb
            go_wp2_with fail
            go_meet
            exact Lib.hid (HEND.out _ _ _ _ HR2.out HE.out HL6.out HS6.out)
        · clear x1 HX1
          obtain ⟨hR2, f1, f2, hcc⟩ := HRg.out.reserve xn
          have hFO := HL4.out.of_log (fun _ h1 => reserve_any w4 h1 xn hxo2 hxo3)
          generalize PLog.reserve L xn = A at hR2 f1 f2 hcc hFO
          obtain ⟨L2, a2⟩ := A
          (try dsimp only at hR2 f1 f2 hcc hFO)
          have HFO := Lib.hid hFO
          have HR2 := Lib.hid hR2
          have HE := Lib.hid (show L2.next ≤ L.next + 5000 by omega)
          have hrs : L.reserved ≤ 11000 := by have := HRg.out.ok.ring; have := HRg.out.nE; omega
          have wM : IntKind.i64.wrap (-(L.reserved : Int)) = -(L.reserved : Int) := IntWalk.i64_in _ (by omega)
          have HFF : Hid (∀ W own2, LD W g L2 b D own2 → Calls Try.prog 15 #[.pointer (some ⟨g, 0, none⟩)] W fun e w' => e = .returned (.int .u64 L.first) ∧ W = w') := Lib.hid (fun W own2 h => by rw [← f1]; exact first_ld h)
          have HFR : Hid (∀ W own2, LD W g L2 b D own2 → Calls Try.prog 18 #[.pointer (some ⟨g, 0, none⟩)] W fun e w' => e = .returned (.int .i64 L2.reserved) ∧ W = w') := Lib.hid (fun W own2 h => reserved_ld h)
          clear hFO hR2 f1 f2
          rcases hcc with ⟨rfl, c1, c2, c3⟩ | ⟨hcode, c2, c3⟩
          · as_aux_lemma =>
              have wR : IntKind.i64.wrap ((L.reserved : Int) + xn) = L2.reserved := by rw [IntWalk.i64_in _ (by have := HRM.out; omega)]; omega
              have b1 : decide (xn ≤ (L.room : Int)) = true := decide_eq_true c1
              have b2 : decide (-(L.reserved : Int) ≤ xn) = true := decide_eq_true c2
              clear c3
              go_wp2_with fail
              refine HFO.out.mono ?_
              rintro e w5 ⟨own5, rfl, k1, k2⟩
              have HL5 := Lib.hid k1
              have HS5 := Lib.hid k2
              have y4 := HX4.out w5 (Stepped.below HB4.out (Nat.le_refl _) HO.out k2).1
              have HF5 := Lib.hid (fun nn => HFF.out _ _ (k1.below (lowN w5 nn)))
              have HR5 := Lib.hid (fun nn => HFR.out _ _ (k1.below (lowN w5 nn)))
              clear k1 k2
              go_wp2_with fail
              go_quiet (first
                | (go_at_call 18; exact quiet_eq (HR5.out _))
                | (go_at_call 15; exact quiet_eq (HF5.out _)))
              go_wp2
              go_meet
              exact Lib.hid (HEND.out _ _ _ _ HR2.out HE.out (HL5.out.below (lowN _ _)) (HS5.out.trans (Stepped.of_below (lowN _ _) _)))
          · have HFR : Hid (∀ W own2, LD W g L2 b D own2 → Calls Try.prog 18 #[.pointer (some ⟨g, 0, none⟩)] W fun e w' => e = .returned (.int .i64 L.reserved) ∧ W = w') := Lib.hid (fun W own2 h => by rw [← c3]; exact reserved_ld h)
            clear c3
            have hcd : ¬ xn ≤ (L.room : Int) ∨ (xn ≤ (L.room : Int) ∧ ¬ -(L.reserved : Int) ≤ xn) := by omega
            rcases hcode with rfl | rfl <;> rcases hcd with c1 | ⟨c1, c4⟩
            · as_aux_lemma =>
                have b1 : decide (xn ≤ (L.room : Int)) = false := decide_eq_false c1
                clear c2
                go_wp2_with fail
                refine HFO.out.mono ?_
                rintro e w5 ⟨own5, rfl, k1, k2⟩
                have HL5 := Lib.hid k1
                have HS5 := Lib.hid k2
                have y4 := HX4.out w5 (Stepped.below HB4.out (Nat.le_refl _) HO.out k2).1
                have HF5 := Lib.hid (fun nn => HFF.out _ _ (k1.below (lowN w5 nn)))
                have HR5 := Lib.hid (fun nn => HFR.out _ _ (k1.below (lowN w5 nn)))
                clear k1 k2
                go_wp2_with fail
                go_quiet (first
                  | (go_at_call 18; exact quiet_eq (HR5.out _))
                  | (go_at_call 15; exact quiet_eq (HF5.out _)))
                go_wp2
                go_meet
                exact Lib.hid (HEND.out _ _ _ _ HR2.out HE.out (HL5.out.below (lowN _ _)) (HS5.out.trans (Stepped.of_below (lowN _ _) _)))
            · as_aux_lemma =>
                have b1 : decide (xn ≤ (L.room : Int)) = true := decide_eq_true c1
                have b2 : decide (-(L.reserved : Int) ≤ xn) = false := decide_eq_false c4
                clear c2
                go_wp2_with fail
                refine HFO.out.mono ?_
                rintro e w5 ⟨own5, rfl, k1, k2⟩
                have HL5 := Lib.hid k1
                have HS5 := Lib.hid k2
                have y4 := HX4.out w5 (Stepped.below HB4.out (Nat.le_refl _) HO.out k2).1
                have HF5 := Lib.hid (fun nn => HFF.out _ _ (k1.below (lowN w5 nn)))
                have HR5 := Lib.hid (fun nn => HFR.out _ _ (k1.below (lowN w5 nn)))
                clear k1 k2
                go_wp2_with fail
                go_quiet (first
                  | (go_at_call 18; exact quiet_eq (HR5.out _))
                  | (go_at_call 15; exact quiet_eq (HF5.out _)))
                go_wp2
                go_meet
                exact Lib.hid (HEND.out _ _ _ _ HR2.out HE.out (HL5.out.below (lowN _ _)) (HS5.out.trans (Stepped.of_below (lowN _ _) _)))
            · as_aux_lemma =>
                have b1 : decide (xn ≤ (L.room : Int)) = false := decide_eq_false c1
                clear c2
                go_wp2_with fail
                refine HFO.out.mono ?_
                rintro e w5 ⟨own5, rfl, k1, k2⟩
                have HL5 := Lib.hid k1
                have HS5 := Lib.hid k2
                have y4 := HX4.out w5 (Stepped.below HB4.out (Nat.le_refl _) HO.out k2).1
                have HF5 := Lib.hid (fun nn => HFF.out _ _ (k1.below (lowN w5 nn)))
                have HR5 := Lib.hid (fun nn => HFR.out _ _ (k1.below (lowN w5 nn)))
                clear k1 k2
                go_wp2_with fail
                go_quiet (first
                  | (go_at_call 18; exact quiet_eq (HR5.out _))
                  | (go_at_call 15; exact quiet_eq (HF5.out _)))
                go_wp2
                go_meet
                exact Lib.hid (HEND.out _ _ _ _ HR2.out HE.out (HL5.out.below (lowN _ _)) (HS5.out.trans (Stepped.of_below (lowN _ _) _)))
            · as_aux_lemma =>
                have b1 : decide (xn ≤ (L.room : Int)) = true := decide_eq_true c1
                have b2 : decide (-(L.reserved : Int) ≤ xn) = false := decide_eq_false c4
                clear c2
                go_wp2_with fail
                refine HFO.out.mono ?_
                rintro e w5 ⟨own5, rfl, k1, k2⟩
                have HL5 := Lib.hid k1
                have HS5 := Lib.hid k2
                have y4 := HX4.out w5 (Stepped.below HB4.out (Nat.le_refl _) HO.out k2).1
                have HF5 := Lib.hid (fun nn => HFF.out _ _ (k1.below (lowN w5 nn)))
                have HR5 := Lib.hid (fun nn => HFR.out _ _ (k1.below (lowN w5 nn)))
                clear k1 k2
                go_wp2_with fail
                go_quiet (first
                  | (go_at_call 18; exact quiet_eq (HR5.out _))
                  | (go_at_call 15; exact quiet_eq (HF5.out _)))
                go_wp2
                go_meet
                exact Lib.hid (HEND.out _ _ _ _ HR2.out HE.out (HL5.out.below (lowN _ _)) (HS5.out.trans (Stepped.of_below (lowN _ _) _)))
      case rest =>
        have HS := hcut
        clear hcut
        obtain ⟨L5, D5, own5, hRg, hnx, hLD, hB, hO⟩ := HS.out
        obtain ⟨od, hD5⟩ := hLD.disk
        have hlen : D5.sure.length = M := by rw [← hRg.len, HMM.out]
        have HD5 := Lib.hid hD5
        have HLN : Hid (∀ W, IsDisk W b D5 od → Calls Try.prog 22 #[.pointer (some ⟨b, 0, none⟩)] W fun e w' => e = .returned (.int .i64 M) ∧ W = w') := Lib.hid (fun W h => by have := len_any W h; rw [hlen] at this; exact this)
        have HRD : Hid (∀ W (j : Nat), j < M → IsDisk W b D5 od → Calls Try.prog 23 #[.pointer (some ⟨b, 0, none⟩), .int .i64 j] W (ReadPost (PDsk.now D5 j) 0 W)) := Lib.hid (fun W j hj h => by
          have := read_any W h (j : Int) (by omega)
          rw [show PDsk.read D5 (j : Int) = (PDsk.now D5 j, 0) from by unfold PDsk.read; rw [if_neg (by rw [hRg.fuse]; decide), if_neg (by rw [hlen]; omega)]; rfl] at this
          exact this)
        have HNOW : Hid (∀ j : Nat, j < M → (j < pl ∨ pl + k ≤ j) → (⟨(PDsk.now D5 j).toArray⟩ : ByteArray) = z) := Lib.hid (fun j hj ho => by rw [hRg.now (by rw [hlen]; exact hj) ho]; exact HZ.out)
        have HRS : Hid (∀ wx, Below wc.heap.size wc wx → RgS w pl k (i + 1) g b wx) := Lib.hid (fun wx hb => ⟨L5, D5, own5, hRg, hnx, hLD.below hb, hB.step hb, hO⟩)
        obtain ⟨P, hP⟩ : ∃ P, pl + k = P := ⟨_, rfl⟩
        have m6 : IntKind.i64.wrap ((pl : Int) + k) = P := by rw [IntWalk.i64_in _ (by omega)]; omega
        have HP := Lib.hid hP
        clear hRg hnx hLD hB hO hD5 hlen hP x0 x1 x4 HX1 HX4 HEND HL4 HB4 HRg HNX HO HRM HS m1 hr4 hxl hxo1 hxo2 hxo3
        go_wp2_with fail
        go_loopw [25] (fun sv wr2 => ∃ j : Nat, j ≤ M ∧ sv = .int .i64 j ∧ Hid (Below wc.heap.size wc wr2)) (fun sv _ => M - (intOf sv).toNat)
        case atStart => exact ⟨0, Nat.zero_le _, rfl, Lib.hid (Below.refl _ _)⟩
        case round =>
          obtain ⟨j, hj, rfl, HBJ⟩ := hrel
          have hm26 : M ≤ 26 := by have := HMM.out; omega
          have HDJ := Lib.hid (HD5.out.below HBJ.out)
          by_cases hjm : j < M
          · have j1 : (j : Int) < M := by omega
            have HN := Lib.hid (HNOW.out j hjm)
            have HRJ := Lib.hid (HRD.out _ j hjm HDJ.out)
            generalize PDsk.now D5 j = t at HN HRJ
            have hc : (j < pl) ∨ (¬ j < pl ∧ P ≤ j) ∨ (¬ j < pl ∧ ¬ P ≤ j) := by omega
            clear HNOW
            rcases hc with h1 | ⟨h1, h2⟩ | ⟨h1, h2⟩
            · as_aux_lemma =>
                have e1 : (j : Int) < pl := by omega
                have HTZ := Lib.hid (HN.out (.inl h1))
                clear h1
                go_wp2_with fail
                refine (HLN.out _ HDJ.out).mono ?_; rintro e w6 ⟨rfl, rfl⟩
                go_wp2_with fail
                refine HRJ.out.mono ?_; rintro e w7 ⟨rfl, hb⟩
                have HB7 := Lib.hid (HBJ.out.step hb)
                clear hb
                rw [HTZ.out]
                go_wp2_with fail
                go_roundw
                case rel => exact ⟨j + 1, by omega, by go_num, HB7⟩
                case measure => simp [intOf]; omega
            · as_aux_lemma =>
                have e1 : ¬ (j : Int) < pl := by omega
                have e2 : (P : Int) ≤ j := by omega
                have HTZ := Lib.hid (HN.out (.inr (by have := HP.out; omega)))
                clear h1 h2
                go_wp2_with fail
                refine (HLN.out _ HDJ.out).mono ?_; rintro e w6 ⟨rfl, rfl⟩
                go_wp2_with fail
                refine HRJ.out.mono ?_; rintro e w7 ⟨rfl, hb⟩
                have HB7 := Lib.hid (HBJ.out.step hb)
                clear hb
                rw [HTZ.out]
                go_wp2_with fail
                go_roundw
                case rel => exact ⟨j + 1, by omega, by go_num, HB7⟩
                case measure => simp [intOf]; omega
            · as_aux_lemma =>
                have e1 : ¬ (j : Int) < pl := by omega
                have e2 : ¬ (P : Int) ≤ j := by omega
                clear h1 h2
                go_wp2_with fail
                refine (HLN.out _ HDJ.out).mono ?_; rintro e w6 ⟨rfl, rfl⟩
                go_wp2_with fail
                refine HRJ.out.mono ?_; rintro e w7 ⟨rfl, hb⟩
                have HB7 := Lib.hid (HBJ.out.step hb)
                clear hb
                go_wp2_with fail
                go_roundw
                case rel => exact ⟨j + 1, by omega, by go_num, HB7⟩
                case measure => simp [intOf]; omega
          · as_aux_lemma =>
              have j1 : ¬ (j : Int) < M := by omega
              have HRX := Lib.hid (HRS.out _ HBJ.out)
              go_wp2_with fail
              refine (HLN.out _ HDJ.out).mono ?_; rintro e w6 ⟨rfl, rfl⟩
              go_wp2_with fail
              go_roundw
              case rel => exact ⟨i + 1, by omega, by go_num, HRX⟩
              case measure => simp [intOf]; omega
    · have i1 : ¬ (i : Int) < cs.length := by omega
      obtain ⟨L, D, own, hRg, hnx, hLD, hB, hO⟩ := HS.out
      have HB := Lib.hid hB
      clear HS hRg hnx hLD hB hO
      go_wp2_with fail
      refine (works13_any _).mono ?_
      rintro e w2 ⟨rfl, hb⟩
      replace HB := Lib.hid (HB.out.step hb)
      clear hb
      go_wp2
      go_ret
      exact ⟨rfl, HB.out⟩
end Go.Proofs.Ytjnggldalggfnaa
