/-
  Log: Force, where there is something to write.
-/
import Derived.Test.YtjnggldalggfnaaLog9
namespace Go.Proofs.Ytjnggldalggfnaa
open Go.RowKit
theorem IsLog.setForced {w : World} {g b : Nat} {L : PLog.Lg} {own : List Nat} (h : IsLog w g L b own) (f : Nat) (hr : ({ L with forced := f } : PLog.Lg).Ok) (v : Value) (hv : v = .int .u64 f) :
    IsLog (w.setCell ⟨g, 8, none⟩ v) g { L with forced := f } b own ∧ Stepped w (w.setCell ⟨g, 8, none⟩ v) own own := by
  subst hv
  exact h.field hr rfl rfl 8 _ (fun vb vs => by simp [logV]; rfl)
theorem LD.setForced {w : World} {g b : Nat} {L : PLog.Lg} {D : PDsk.Dsk} {own : List Nat} (h : LD w g L b D own) (f : Nat) (hr : ({ L with forced := f } : PLog.Lg).Ok) (v : Value) (hv : v = .int .u64 f) :
    LD (w.setCell ⟨g, 8, none⟩ v) g { L with forced := f } b D own ∧ Stepped w (w.setCell ⟨g, 8, none⟩ v) own own := by
  obtain ⟨o1, o2, h1, h2, h3, rfl⟩ := h
  obtain ⟨k1, k2⟩ := h1.setForced f hr v hv
  exact ⟨⟨o1, o2, k1, h2.turns k2.1 (fun k hk hm => h3 k hm hk), h3, rfl⟩, k2.1.app_l, fun k hk => .inl hk⟩
def Ld2 (w0 : World) (own0 : List Nat) (wr : World) (g : Nat) (L : PLog.Lg) (b : Nat) (D : PDsk.Dsk) : Prop := ∃ own, LD wr g L b D own ∧ Stepped w0 wr own0 own
set_option maxRecDepth 20000 in
set_option maxHeartbeats 2000000 in
theorem lforce_yes {w : World} {g b : Nat} {L : PLog.Lg} {D : PDsk.Dsk} {own : List Nat} (h : LD w g L b D own) (x : Nat) (h1 : x ≤ L.next) (h2 : L.forced ≤ x) (h3 : L.forced ≠ L.next) (hll : D.loose.length ≤ 900000) :
    Calls Try.prog 12 #[.pointer (some ⟨g, 0, none⟩), .int .u64 x] w (LDPost (.int .i64 (PLog.force L D x).2.2) g (PLog.force L D x).1 b (PLog.force L D x).2.1 own w) := by
  have H := Lib.hid h
  obtain ⟨o1, hL⟩ := h.log
  have hk := h.ok
  have hst := PLog.stretches_le hk
  have hff := hk.forced
  have hf5 := hk.forced5
  have hnx := hk.next5
  have HQ : Hid (PLog.force L D x = if (PLog.wsteps D (PLog.outs L (PLog.stretches L))).2 ≠ 0 then (L, (PLog.wsteps D (PLog.outs L (PLog.stretches L))).1, (PLog.wsteps D (PLog.outs L (PLog.stretches L))).2)
      else if (PDsk.sync (PLog.wsteps D (PLog.outs L (PLog.stretches L))).1).2 ≠ 0 then (L, (PDsk.sync (PLog.wsteps D (PLog.outs L (PLog.stretches L))).1).1, (PDsk.sync (PLog.wsteps D (PLog.outs L (PLog.stretches L))).1).2)
      else ({ L with forced := L.next }, (PDsk.sync (PLog.wsteps D (PLog.outs L (PLog.stretches L))).1).1, 0)) := Lib.hid (by unfold PLog.force; rw [if_neg (by omega), if_neg (by omega)])
  have HOK : Hid ({ L with forced := L.next } : PLog.Lg).Ok := Lib.hid ⟨hk.n4, hk.n5, hk.place, hk.life, hk.life5, hk.first, hk.head, hk.texts, (by show L.first ≤ L.next; omega), (by show L.next ≤ L.next; omega), hk.next5, hk.ring⟩
  obtain ⟨_, _, _, _, _, c7, c8, _⟩ := hL.cells
  have HMD := Lib.hid (made_any w hL)
  obtain ⟨B0, hB0⟩ : ∃ B0, PLog.begin L.forced = B0 := ⟨_, rfl⟩
  have hB1 := PLog.begin_le L.forced
  have hB2 := PLog.begin_mono hk.forced
  rw [hB0] at hB1 hB2
  have HBG : Hid (∀ W, Calls Try.prog 32 #[.int .u64 L.forced] W fun e w' => e = .returned (.int .u64 (B0 : Nat)) ∧ W = w') := Lib.hid (fun W => by rw [← hB0]; exact begin_any L.forced (by omega) W)
  obtain ⟨m, hm⟩ : ∃ m, PLog.stretches L = m := ⟨_, rfl⟩
  rw [hm] at HQ hst
  have HLT : Hid (∀ i, i < m ↔ B0 + 110 * i < L.next) := Lib.hid (fun i => by rw [← hm, ← hB0]; exact PLog.lt_stretches L i)
  have HOUT : Hid (∀ i, PLog.outs L (i + 1) = PLog.outs L i ++ [PLog.out L i]) := Lib.hid (fun i => PLog.outs_succ L i)
  have HLEN : Hid (∀ i, i ≤ m → (PLog.wsteps D (PLog.outs L i)).1.loose.length ≤ 1000000) := Lib.hid (fun i hi => by
    have := (PLog.wsteps_len (PLog.outs L i) D).1
    have e : (PLog.outs L i).length = i := by simp [PLog.outs]
    omega)
  -- one stretch
  have HW : Hid (∀ (W : World) (i K : Nat), i < m → K = B0 + 110 * i → (PLog.wsteps D (PLog.outs L i)).2 = 0 → ∀ own', LD W g L b (PLog.wsteps D (PLog.outs L i)).1 own' →
      Calls Try.prog 37 #[.pointer (some ⟨g, 0, none⟩), .int .u64 K] W (LDPost (.int .i64 (PLog.wsteps D (PLog.outs L (i + 1))).2) g L b (PLog.wsteps D (PLog.outs L (i + 1))).1 own' W)) := Lib.hid (fun W i K hi hK hz own' hW => by
    have hlt := (HLT.out i).1 hi
    have e : PLog.wsteps D (PLog.outs L (i + 1)) = writeL L (PLog.wsteps D (PLog.outs L i)).1 K := by
      rw [HOUT.out, PLog.wsteps_snoc _ _ _ hz, hK, ← hB0]
      rfl
    rw [e]
    exact lwrites_ld hW K (by omega) (by omega) (HLEN.out i (by omega)))
  have HERR : Hid (∀ i, i < m → (PLog.wsteps D (PLog.outs L (i + 1))).2 ≠ 0 → PLog.force L D x = (L, (PLog.wsteps D (PLog.outs L (i + 1))).1, (PLog.wsteps D (PLog.outs L (i + 1))).2)) := Lib.hid (fun i hi hz => by
    have e := PLog.outs_err (m := m) hz (by omega)
    rw [HQ.out, e, if_pos hz])
  have z1 : ¬ (L.next : Int) < x := by omega
  have z2 : ¬ (x : Int) < L.forced := by omega
  have z3 : ((L.forced : Int) == L.next) = false := by rw [beq_eq_false_iff_ne]; omega
  have hNX : L.next ≤ B0 + 110 * m := by
    rcases Nat.lt_or_ge (B0 + 110 * m) L.next with e | e
    · have := (HLT.out m).2 e; omega
    · exact e
  clear h hL hk hB0 hm hll h1 h2 h3 hB1 hB2 hff hf5
  go_enter Try.func12, Try.ntmps12
  go_wp2_with fail
  refine HMD.out.mono ?_; rintro e w1 ⟨rfl, rfl⟩
  go_wp2_with fail
  go_quiet (fail)
  obtain ⟨w1, hw1⟩ : ∃ w1, w.drewN nq = w1 := ⟨_, rfl⟩
  rw [hw1]
  have HB := Lib.hid (show Below w.heap.size w w1 by rw [← hw1]; exact lowN w nq)
  have h1 : LD w1 g L b D own := H.out.below HB.out
  obtain ⟨o1, hL⟩ := h1.log
  replace c8 := hL.cells.2.2.2.2.2.2.1
  have H1 := Lib.hid h1
  clear c7 h1 hL hw1
  go_wp2_with fail
  refine (HBG.out _).mono ?_; rintro e w2 ⟨rfl, rfl⟩
  clear c8 z1 z2 z3
  go_wp2
  go_loopw [5] (fun kv wr => ∃ i : Nat, i ≤ m ∧ kv = .int .u64 ((B0 + 110 * i : Nat) : Int) ∧ Hid ((PLog.wsteps D (PLog.outs L i)).2 = 0) ∧ Hid (Ld2 w own wr g L b (PLog.wsteps D (PLog.outs L i)).1)) (fun kv _ => L.next + 1000 - (intOf kv).toNat)
  case atStart => exact ⟨0, Nat.zero_le _, by simp, Lib.hid rfl, Lib.hid ⟨own, H1.out, Stepped.of_below HB.out own⟩⟩
  case round =>
    obtain ⟨i, him, rfl, HZ, HI⟩ := hrel
    obtain ⟨K, hK⟩ : ∃ K, K = B0 + 110 * i := ⟨_, rfl⟩
    have HK := Lib.hid hK
    obtain ⟨own1, hl1, hs1⟩ := HI.out
    have HL1 := Lib.hid hl1
    have HS1 := Lib.hid hs1
    obtain ⟨o1, hL⟩ := hl1.log
    have c7 := hL.cells.2.2.2.2.2.1
    rw [← hK]
    by_cases hlt : K < L.next
    · have hi : i < m := (HLT.out i).2 (by omega)
      have z1 : (K : Int) < L.next := by omega
      have wk : IntKind.u64.wrap ((K : Int) + 110) = (K + 110 : Nat) := by rw [IntWalk.u64_in _ (by omega)]; omega
      have HI9 := Lib.hid hi
      have HWK := Lib.hid (HW.out wr i K hi hK HZ.out own1 hl1)
      by_cases hz : (PLog.wsteps D (PLog.outs L (i + 1))).2 = 0
      · have HZ1 := Lib.hid hz
        rw [hz] at HWK
        clear hz hl1 hs1 hL hK HI
        go_wp2_with fail
        refine HWK.out.mono ?_
        rintro e w3 ⟨own2, rfl, k1, k2⟩
        have HL2 := Lib.hid k1
        have HS2 := Lib.hid (HS1.out.trans k2)
        clear k1 k2 HL1 HS1
        go_wp2
        go_roundw
        case rel => exact ⟨i + 1, by omega, by (rw [show B0 + 110 * (i + 1) = K + 110 by have := HK.out; omega]; simp), HZ1, Lib.hid ⟨own2, HL2.out, HS2.out⟩⟩
        case measure => simp [intOf]; omega
      · have HZ1 := Lib.hid (HERR.out i hi hz)
        obtain ⟨c, hc⟩ : ∃ c, (PLog.wsteps D (PLog.outs L (i + 1))).2 = c := ⟨_, rfl⟩
        rw [hc] at HWK HZ1
        have hz' : (c == 0) = false := by rw [beq_eq_false_iff_ne, ← hc]; exact hz
        have hz2 : (c != 0) = true := by rw [bne_iff_ne, ← hc]; exact hz
        clear hz hl1 hs1 hL hK HI hc
        go_wp2_with fail
        refine HWK.out.mono ?_
        rintro e w3 ⟨own2, rfl, k1, k2⟩
        have HL2 := Lib.hid k1
        have HS2 := Lib.hid (HS1.out.trans k2)
        clear k1 k2 HL1 HS1
        go_wp2
        go_ret
        rw [HZ1.out]
        exact ⟨own2, rfl, HL2.out, HS2.out⟩
    · have hi : i = m := by
        rcases Nat.lt_or_ge i m with e | e
        · have := (HLT.out i).1 e; omega
        · omega
      have HIM := Lib.hid hi
      have z1 : ¬ (K : Int) < L.next := by omega
      have HSY : Hid (Calls Try.prog 38 #[.pointer (some ⟨b, 0, none⟩)] wr (LDPost (.int .i64 (PDsk.sync (PLog.wsteps D (PLog.outs L i)).1).2) g L b (PDsk.sync (PLog.wsteps D (PLog.outs L i)).1).1 own1 wr)) := Lib.hid (hl1.of_disk (fun o2 hD => sync_any wr hD))
      have c0 := hL.cells.1
      have HQ2 : Hid (PLog.force L D x = if (PDsk.sync (PLog.wsteps D (PLog.outs L i)).1).2 ≠ 0 then (L, (PDsk.sync (PLog.wsteps D (PLog.outs L i)).1).1, (PDsk.sync (PLog.wsteps D (PLog.outs L i)).1).2)
          else ({ L with forced := L.next }, (PDsk.sync (PLog.wsteps D (PLog.outs L i)).1).1, 0)) := Lib.hid (by rw [HQ.out, ← hi, if_neg (fun h => h HZ.out)])
      by_cases hz : (PDsk.sync (PLog.wsteps D (PLog.outs L i)).1).2 = 0
      · have HQ3 : Hid (PLog.force L D x = ({ L with forced := L.next }, (PDsk.sync (PLog.wsteps D (PLog.outs L i)).1).1, 0)) := Lib.hid (by rw [HQ2.out, if_neg (fun h => h hz)])
        rw [hz] at HSY
        clear hz hl1 hs1 hL hK HI hi hlt
        go_wp2_with fail
        refine HSY.out.mono ?_
        rintro e w3 ⟨own2, rfl, k1, k2⟩
        have HL2 := Lib.hid k1
        have HS2 := Lib.hid (HS1.out.trans k2)
        obtain ⟨o2, hL2⟩ := k1.log
        have c73 := hL2.cells.2.2.2.2.2.1
        have f83 := hL2.shut 8
        have c83 := hL2.cells.2.2.2.2.2.2.1
        clear k1 k2 HL1 HS1 hL2 c7 c0
        go_wp2
        go_ret
        rw [HQ3.out]
        obtain ⟨k1, k2⟩ := HL2.out.setForced L.next HOK.out _ rfl
        exact ⟨own2, rfl, k1, HS2.out.trans k2⟩
      · have HQ3 : Hid (PLog.force L D x = (L, (PDsk.sync (PLog.wsteps D (PLog.outs L i)).1).1, (PDsk.sync (PLog.wsteps D (PLog.outs L i)).1).2)) := Lib.hid (by rw [HQ2.out, if_pos hz])
        obtain ⟨c, hc⟩ : ∃ c, (PDsk.sync (PLog.wsteps D (PLog.outs L i)).1).2 = c := ⟨_, rfl⟩
        rw [hc] at HSY HQ3
        have hz' : (c == 0) = false := by rw [beq_eq_false_iff_ne, ← hc]; exact hz
        have hz2 : (c != 0) = true := by rw [bne_iff_ne, ← hc]; exact hz
        clear hz hl1 hs1 hL hK HI hi hlt hc
        go_wp2_with fail
        refine HSY.out.mono ?_
        rintro e w3 ⟨own2, rfl, k1, k2⟩
        have HL2 := Lib.hid k1
        have HS2 := Lib.hid (HS1.out.trans k2)
        clear k1 k2 HL1 HS1
        go_wp2
        go_ret
        rw [HQ3.out]
        exact ⟨own2, rfl, HL2.out, HS2.out⟩
theorem lforce_any {w : World} {g b : Nat} {L : PLog.Lg} {D : PDsk.Dsk} {own : List Nat} (h : LD w g L b D own) (x : Nat) (hll : D.loose.length ≤ 900000) :
    Calls Try.prog 12 #[.pointer (some ⟨g, 0, none⟩), .int .u64 x] w (LDPost (.int .i64 (PLog.force L D x).2.2) g (PLog.force L D x).1 b (PLog.force L D x).2.1 own w) := by
  by_cases hx : L.next < x ∨ x < L.forced ∨ L.forced = L.next
  · exact lforce_no h x hx
  · exact lforce_yes h x (by omega) (by omega) (by omega) hll
end Go.Proofs.Ytjnggldalggfnaa
