/-
  A play: Force of both; do both look the same?
-/
import Derived.Test.YtjnggldalggfnaaLpD
namespace Go.Proofs.Ytjnggldalggfnaa
open Go.RowKit
section
variable {w0 w w' : World} {p gl gl' b gr gr' life life' n : Nat} {kv : Value} {L1 L1' : PLog.Lg} {D D' : PDsk.Dsk} {o1 o1' : List Nat} {L2 L2' : PLog.Lg} {fix fix' : List UInt8} {fa fa' : Nat} {o2 o2' own0 : List Nat} {vr : Value} {r : List (List UInt8)}
theorem PlayX.turns {bs : List Nat} (h : PlayX w p gl b gr life n kv L1 D o1 L2 fix fa o2) (t : Turns bs w w') (hd : ∀ k ∈ plOwn p o1 o2, k ∉ bs) : PlayX w' p gl b gr life n kv L1 D o1 L2 fix fa o2 :=
  ⟨(t.block p h.plt (hd p (by simp [plOwn]))).trans h.row, h.ld.turns t (fun k hk => hd k (by simp [plOwn, hk])), h.ref.turns t (fun k hk => hd k (by simp [plOwn, hk])), h.d1, h.d2, h.d⟩
/-- a play under way, beside a ring that was read -/
structure FrW (w0 wr : World) (p gl b gr life n : Nat) (kv : Value) (L1 : PLog.Lg) (D : PDsk.Dsk) (o1 : List Nat) (L2 : PLog.Lg) (fix : List UInt8) (fa : Nat) (o2 own0 : List Nat) (vr : Value) (r : List (List UInt8)) : Prop where
  pl : PlayX wr p gl b gr life n kv L1 D o1 L2 fix fa o2
  st : Stepped w0 wr own0 (plOwn p o1 o2)
  sl : Sl wr w0.heap.size 9 1 vr r.length (strV r)
  nv : ∀ k, vr.ownBlock = some k → k ∉ plOwn p o1 o2
theorem FrW.step (h : FrW w0 w p gl b gr life n kv L1 D o1 L2 fix fa o2 own0 vr r) (hp : PlayX w' p gl' b gr' life' n kv L1' D' o1' L2' fix' fa' o2') (s : Stepped w w' (plOwn p o1 o2) (plOwn p o1' o2')) : FrW w0 w' p gl' b gr' life' n kv L1' D' o1' L2' fix' fa' o2' own0 vr r :=
  ⟨hp, h.st.trans s, h.sl.keep fun k e => s.1.block k (h.sl.lt k e).2 (h.nv k e), fun k e hm => by
    rcases s.2 k hm with h1 | h1
    · exact h.nv k e h1
    · have := (h.sl.lt k e).2; omega⟩
theorem FrW.below (h : FrW w0 w p gl b gr life n kv L1 D o1 L2 fix fa o2 own0 vr r) (hb : Below w.heap.size w w') : FrW w0 w' p gl b gr life n kv L1 D o1 L2 fix fa o2 own0 vr r := h.step (h.pl.below hb) (Stepped.of_below hb _)
theorem turns_setNew {bs : List Nat} {A W : World} {g j : Nat} {v : Value} (h : Turns bs A W) (hg : A.heap.size ≤ g) : Turns bs A (W.setCell ⟨g, j, none⟩ v) :=
  ⟨h.os, h.tape, h.output, Nat.le_trans h.size (by rw [World.size_setCell]; exact Nat.le_refl _), fun k hk hn => (Below.heap_setCell W ⟨g, j, none⟩ v k (by show k ≠ g; omega)).trans (h.block k hk hn)⟩
theorem strV_set (l : List (List UInt8)) (j : Nat) (t : List UInt8) : (strV l).set j (.string ⟨t.toArray⟩) = strV (l.set j t) := by
  unfold strV
  rw [List.map_set]
theorem FrW.set {gq oq c m : Nat} (h : FrW w0 w p gl b gr life n kv L1 D o1 L2 fix fa o2 own0 (.slice (some ⟨gq, oq, none⟩) m c) r) (hm : r.length = m) {j : Nat} (hj : j < m) (t : List UInt8) :
    FrW w0 (w.setCell ⟨gq, oq + j, none⟩ (.string ⟨t.toArray⟩)) p gl b gr life n kv L1 D o1 L2 fix fa o2 own0 (.slice (some ⟨gq, oq, none⟩) m c) (r.set j t) := by
  have hg := h.sl.lt gq rfl
  have hn := h.nv gq rfl
  refine ⟨h.pl.turns (bs := [gq]) (Turns.cell _ (by simp)) (fun k hk hm => by simp at hm; subst hm; exact hn hk), ⟨turns_setNew h.st.1 hg.1, fun k hk => ?_⟩, ?_, fun k e hm => ?_⟩
  · exact h.st.2 k hk
  · have hs := h.sl
    rw [hm] at hs
    rw [List.length_set, ← strV_set, hm]
    exact hs.set (by omega) _
  · simp [Value.ownBlock] at e
    subst e
    exact hn hm
end
theorem FrW.refs {w0 w w' wb : World} {p gl b gr life n : Nat} {kv : Value} {L1 : PLog.Lg} {D : PDsk.Dsk} {o1 : List Nat} {L2 L2' : PLog.Lg} {fix : List UInt8} {fa : Nat} {o2 o2' own0 : List Nat} {vr : Value} {r : List (List UInt8)} (h : FrW w0 w p gl b gr life n kv L1 D o1 L2 fix fa o2 own0 vr r) (hb : Below w.heap.size w wb) (hr : IsRef w' gr L2' fix fa o2') (s : Stepped wb w' o2 o2') : FrW w0 w' p gl b gr life n kv L1 D o1 L2' fix fa o2' own0 vr r := by
  have h1 := h.below hb
  have h2 := h1.pl.refs hr s
  exact h1.step h2.1 h2.2
def FLoop (w w1 wr : World) (p gl b gr life n : Nat) (kv : Value) (L' : PLog.Lg) (D' : PDsk.Dsk) (o1 : List Nat) (fix : List UInt8) (fa : Nat) (o2 own0 : List Nat) (vr : Value) (r : List (List UInt8)) (vw va : Value) (L : PLog.Lg) (m : Nat) : Prop :=
  FrW w wr p gl b gr life n kv L' D' o1 L' fix fa o2 own0 vr r ∧ Sl wr w1.heap.size 9 1 vw m (strV (PLog.imgs L m)) ∧ Sl wr w1.heap.size 3 1 va m (natV (PLog.places L m))
def PForcePost (p gl b gr life n : Nat) (kv : Value) (L' : PLog.Lg) (D' : PDsk.Dsk) (fix : List UInt8) (fa : Nat) (own : List Nat) (w : World) (e : Ending) (w' : World) : Prop :=
  ∃ o1' o2', e = .returned (.bool true) ∧ PlayX w' p gl b gr life n kv L' D' o1' L' fix fa o2' ∧ Stepped w w' own (plOwn p o1' o2')
theorem places_at {L : PLog.Lg} {m i : Nat} (h : i < m) : (PLog.places L m)[i]? = some (PLog.place L i) := by simp [PLog.places, h]
theorem imgs_at {L : PLog.Lg} {m i : Nat} (h : i < m) : (PLog.imgs L m)[i]? = some (PLog.img L i) := by simp [PLog.imgs, h]
set_option maxRecDepth 20000 in
set_option maxHeartbeats 8000000 in
theorem pforce_any {p gl b gr n : Nat} {kv : Value} {L : PLog.Lg} {D : PDsk.Dsk} {o1 : List Nat} {fix : List UInt8} {fa : Nat} {o2 : List Nat} (w : World) (h : PlayX w p gl b gr L.life n kv L D o1 L fix fa o2) (hP : PLog.Pl n L D) (x : Nat) :
    Calls Try.prog 47 #[.pointer (some ⟨p, 0, none⟩), .int .u64 x] w (PForcePost p gl b gr L.life n kv (PLog.force L D x).1 (PLog.force L D x).2.1 fix fa (plOwn p o1 o2) w) := by
  obtain ⟨f1, f2, f3, f4, f5, f6, f7⟩ := hP.force x
  have hn19 := hP.n19
  have hlen := hP.len
  have hfuse := hP.fuse
  have hloose := hP.loose
  have hrl := PLog.ringL_length D n
  have hpn : ∀ i, PLog.place L i < n := fun i => by have := PLog.place_lt hP.ok i; rwa [hP.nE] at this
  -- the calls
  have HRG := Lib.hid (pring_any w h hfuse (by omega) (by omega))
  obtain ⟨L', hL'⟩ : ∃ L', (PLog.force L D x).1 = L' := ⟨_, rfl⟩
  obtain ⟨D', hD'⟩ : ∃ D', (PLog.force L D x).2.1 = D' := ⟨_, rfl⟩
  obtain ⟨C, hC⟩ : ∃ C, (PLog.force L D x).2.2 = C := ⟨_, rfl⟩
  obtain ⟨m, hm⟩ : ∃ m, (PLog.rforce L x).2.1 = m := ⟨_, rfl⟩
  rw [hL', hD'] at f7
  rw [hL'] at f2
  rw [hC] at f1
  rw [hD', hm] at f3
  rw [hm] at f4
  rw [hL', hD']
  have HLF : Hid (∀ W o, LD W gl L b D o → Calls Try.prog 12 #[.pointer (some ⟨gl, 0, none⟩), .int .u64 x] W (LDPost (.int .i64 C) gl L' b D' o W)) := Lib.hid (fun W o hW => by
    have := lforce_any hW x (by rw [hloose]; simp)
    rw [hC, hL', hD'] at this
    exact this)
  have HRF : Hid (∀ W o, IsRef W gr L fix fa o → Calls Try.prog 68 #[.pointer (some ⟨gr, 0, none⟩), .int .u64 x, .int .u64 L.life] W fun e w' => ∃ vw va own', e = .returned (.tuple #[vw, va, .int .i64 C]) ∧
      Sl w' W.heap.size 9 1 vw m (strV (PLog.imgs L m)) ∧ Sl w' W.heap.size 3 1 va m (natV (PLog.places L m)) ∧ IsRef w' gr L' fix fa own' ∧ Stepped W w' o own') := Lib.hid (fun W o hW => by
    have := rforce_any W hW x
    unfold RFPost at this
    rw [← f1, hm, ← f2] at this
    exact this)
  have HRG2 : Hid (∀ W o1' o2', PlayX W p gl b gr L.life n kv L' D' o1' L' fix fa o2' → Calls Try.prog 51 #[.pointer (some ⟨p, 0, none⟩)] W (RingPost (PLog.rsets L m (PLog.ringL D n)) W)) := Lib.hid (fun W o1' o2' hW => by
    have := pring_any W hW f7.fuse (by omega) (by rw [f7.len]; omega)
    rwa [f3] at this)
  have HLO : Hid (∀ W o1' o2', PlayX W p gl b gr L.life n kv L' D' o1' L' fix fa o2' → Calls Try.prog 54 #[.pointer (some ⟨b, 0, none⟩)] W fun e w' => e = .returned (.int .i64 0) ∧ W = w') := Lib.hid (fun W o1' o2' hW => by
    obtain ⟨o, hd⟩ := hW.ld.disk
    have := loose_any W hd
    rw [f7.loose] at this
    exact this)
  have HPN := Lib.hid hpn
  have HN4 : Hid (4 ≤ n) := Lib.hid (by rw [← hP.nE]; exact hP.ok.n4)
  have HRL : Hid (∀ i, (PLog.rsets L i (PLog.ringL D n)).length = n) := Lib.hid (fun i => by rw [PLog.rsets_length, hrl])
  have H := Lib.hid h
  have hm5 : m ≤ 5000 := f4
  clear h hP f1 f2 f3 f4 f5 f6 f7 hpn hL' hD' hC hm hlen hfuse hloose
  go_enter Try.func47, Try.ntmps47
  go_wp2_with fail
  refine HRG.out.mono ?_; rintro e w1 ⟨vr, rfl, k1, hb⟩
  have HF1 : Hid (FrW w w1 p gl b gr L.life n kv L D o1 L fix fa o2 (plOwn p o1 o2) vr (PLog.ringL D n)) := Lib.hid ⟨H.out.below hb, Stepped.of_below hb _, k1, fun k e hm => by have := (k1.lt k e).1; have := H.out.lt k hm; omega⟩
  have hn4 : 0 < (PLog.ringL D n).length := by have := HN4.out; have := HRL.out 0; simp [PLog.rsets] at this; omega
  obtain ⟨gq, oq, cq, hvr, _, _, _⟩ := Sl.some_of k1 hn4
  have hgq := k1.lt gq (by rw [hvr]; rfl)
  rw [show (PLog.ringL D n).length = n from HRL.out 0] at hvr
  subst hvr
  have HGQ := Lib.hid hgq
  obtain ⟨_, c1, _, _, _⟩ := HF1.out.pl.cells
  clear k1 hb hgq hn4
  go_wp2_with fail
  refine (HLF.out _ _ HF1.out.pl.ld).mono ?_; rintro e w2 ⟨o1', rfl, hl2, hs2⟩
  have hp2 := HF1.out.pl.log hl2 hs2 rfl
  have HF2 := Lib.hid (HF1.out.step hp2.1 hp2.2)
  have HSZ := Lib.hid hs2.1.size
  obtain ⟨_, _, c2, c3, _⟩ := HF2.out.pl.cells
  clear hl2 hs2 hp2 c1
  go_upto_region 3 with fail
  go_cut [7, 8, 9] from 22 to 34 (fun s7 s8 s9 wx => s9 = .int .i64 C ∧ (∃ pw cw, s7 = .slice pw m cw) ∧ (∃ pa ca, s8 = .slice pa m ca) ∧ ∃ o2', Hid (FLoop w w1 wx p gl b gr L.life n kv L' D' o1' fix fa o2' (plOwn p o1 o2) (.slice (some ⟨gq, oq, none⟩) n cq) (PLog.ringL D n) s7 s8 L m))
  case first =>
    go_region_law ((try go_simp); ((with_reducible refine (HRF.out _ o2 (by first | exact HF2.out.pl.ref | exact HF2.out.pl.ref.below (Below.refl _ _).drew | exact HF2.out.pl.ref.below (Below.refl _ _).drew.drew)).mono ?_); rintro e w3 ⟨vw, va, o2', rfl, s1, s2, hr3, hs3⟩; have HF3 := Lib.hid (HF2.out.refs (by first | exact Below.refl _ _ | exact (Below.refl _ _).drew | exact (Below.refl _ _).drew.drew) hr3 hs3); have HS1 := Lib.hid (s1.base_le (base' := w1.heap.size) HSZ.out); have HS2 := Lib.hid (s2.base_le (base' := w1.heap.size) HSZ.out); obtain ⟨pw, cw, rfl⟩ := Sl.form s1; obtain ⟨pa, ca, rfl⟩ := Sl.form s2; clear s1 s2 hr3 hs3); go_wp2_with fail)
    all_goals (
      go_wp2_with fail
      go_meet
      exact ⟨rfl, ⟨_, _, rfl⟩, ⟨_, _, rfl⟩, o2', Lib.hid ⟨HF3.out, HS1.out, HS2.out⟩⟩)
  case rest =>
    obtain ⟨rfl, ⟨pw, cw, rfl⟩, ⟨pa, ca, rfl⟩, o2', HL0⟩ := hcut
    clear c2 c3 HF1 HF2
    go_wp2_with fail
    go_loopw [10] (fun iv wr => ∃ i : Nat, i ≤ m ∧ iv = .int .i64 i ∧ Hid (FLoop w w1 wr p gl b gr L.life n kv L' D' o1' fix fa o2' (plOwn p o1 o2) (.slice (some ⟨gq, oq, none⟩) n cq) (PLog.rsets L i (PLog.ringL D n)) (.slice pw m cw) (.slice pa m ca) L m)) (fun iv _ => m - (intOf iv).toNat)
    case atStart => exact ⟨0, Nat.zero_le _, rfl, HL0⟩
    case round =>
      obtain ⟨i, hi, rfl, HS⟩ := hrel
      clear HL0
      obtain ⟨hF, hs1, hs2⟩ := HS.out
      have i0 : (0 : Int) ≤ i := by omega
      by_cases hlt : i < m
      · have i1 : (i : Int) < m := by omega
        obtain ⟨P, hP⟩ : ∃ P, PLog.place L i = P := ⟨_, rfl⟩
        have hPn : P < n := by rw [← hP]; exact HPN.out i
        have hPn' : (P : Int) < n := by omega
        have hP0 : (0 : Int) ≤ P := by omega
        obtain ⟨y, hy⟩ : ∃ y : ByteArray, (⟨(PLog.img L i).toArray⟩ : ByteArray) = y := ⟨_, rfl⟩
        obtain ⟨qa, xa, hqa, hca⟩ : ∃ ga oa, pa = some ⟨ga, oa, none⟩ ∧ wr.cell? ⟨ga, oa + i, none⟩ = some (.int .i64 P) := by
          obtain ⟨p', c', e1, _, _, h4⟩ := Rd.of_sl hs2
          have hi' : i < (natV (PLog.places L m)).length := by rw [natV_length]; simp [PLog.places]; exact hlt
          obtain ⟨ga, oa, rfl, _, e3⟩ := h4 (fun e => by rw [e] at hi'; simp at hi')
          rw [Value.slice.injEq] at e1
          refine ⟨ga, oa, e1.1, ?_⟩
          rw [e3 i hi', ← hP]
          simp [natV, PLog.places]
        obtain ⟨qw, xw, hqw, hcw⟩ : ∃ ga oa, pw = some ⟨ga, oa, none⟩ ∧ wr.cell? ⟨ga, oa + i, none⟩ = some (.string y) := by
          obtain ⟨p', c', e1, _, _, h4⟩ := Rd.of_sl hs1
          have hi' : i < (strV (PLog.imgs L m)).length := by rw [strV_length]; simp [PLog.imgs]; exact hlt
          obtain ⟨ga, oa, rfl, _, e3⟩ := h4 (fun e => by rw [e] at hi'; simp at hi')
          rw [Value.slice.injEq] at e1
          refine ⟨ga, oa, e1.1, ?_⟩
          rw [e3 i hi', ← hy]
          simp [strV, PLog.imgs]
        subst hqa
        subst hqw
        have hrl := HRL.out i
        have hsq := hF.sl
        rw [hrl] at hsq
        have hcq := hsq.cell (j := P) (by rw [strV_length, hrl]; exact hPn)
        have hfq := hsq.unshut (j := P) (by omega)
        obtain ⟨vq, hvq⟩ : ∃ vq, (strV (PLog.rsets L i (PLog.ringL D n)))[P]'(by rw [strV_length, hrl]; exact hPn) = vq := ⟨_, rfl⟩
        rw [hvq] at hcq
        have HEND : Hid (∀ W, Below wr.heap.size wr W → FLoop w w1 (W.setCell ⟨gq, oq + P, none⟩ (.string y)) p gl b gr L.life n kv L' D' o1' fix fa o2' (plOwn p o1 o2) (.slice (some ⟨gq, oq, none⟩) n cq) (PLog.rsets L (i + 1) (PLog.ringL D n)) (.slice (some ⟨qw, xw, none⟩) m cw) (.slice (some ⟨qa, xa, none⟩) m ca) L m) := Lib.hid (fun W hW => by
          have h1 := (hF.below hW).set hrl hPn (PLog.img L i)
          rw [show (PLog.rsets L i (PLog.ringL D n)).set P (PLog.img L i) = PLog.rsets L (i + 1) (PLog.ringL D n) by rw [PLog.rsets_succ, hP], hy] at h1
          refine ⟨h1, ?_, ?_⟩
          · refine (hs1.keep fun k e => hW.block k (hs1.lt k e).2).keep fun k e => Below.heap_setCell W ⟨gq, oq + P, none⟩ _ k ?_
            have := (hs1.lt k e).1
            have := HGQ.out.2
            show k ≠ gq
            omega
          · refine (hs2.keep fun k e => hW.block k (hs2.lt k e).2).keep fun k e => Below.heap_setCell W ⟨gq, oq + P, none⟩ _ k ?_
            have := (hs2.lt k e).1
            have := HGQ.out.2
            show k ≠ gq
            omega)
        have HFB : Hid (∀ W W2, Below W.heap.size W W2 → FLoop w w1 W p gl b gr L.life n kv L' D' o1' fix fa o2' (plOwn p o1 o2) (.slice (some ⟨gq, oq, none⟩) n cq) (PLog.rsets L (i + 1) (PLog.ringL D n)) (.slice (some ⟨qw, xw, none⟩) m cw) (.slice (some ⟨qa, xa, none⟩) m ca) L m → FLoop w w1 W2 p gl b gr L.life n kv L' D' o1' fix fa o2' (plOwn p o1 o2) (.slice (some ⟨gq, oq, none⟩) n cq) (PLog.rsets L (i + 1) (PLog.ringL D n)) (.slice (some ⟨qw, xw, none⟩) m cw) (.slice (some ⟨qa, xa, none⟩) m ca) L m) := Lib.hid (fun W W2 hb h => ⟨h.1.below hb, h.2.1.keep fun k e => hb.block k (h.2.1.lt k e).2, h.2.2.keep fun k e => hb.block k (h.2.2.lt k e).2⟩)
        clear hF hs1 hs2 hrl hsq hvq hP hy HS
        go_wp2_with fail
        go_region_law (fail)
        all_goals (
          go_wp2
          exact ⟨⟨i + 1, by omega, by go_num, Lib.hid (HFB.out _ _ (Below.refl _ _).drew (HEND.out _ (Below.refl _ _)))⟩, by simp [intOf]; omega⟩)
      · have i1 : ¬ (i : Int) < m := by omega
        have him : i = m := by omega
        subst him
        have HFin := Lib.hid hF
        have HR2 := Lib.hid (HRG2.out wr o1' o2' hF.pl)
        clear hF hs1 hs2 hlt
        go_wp2_with fail
        refine HR2.out.mono ?_; rintro e w5 ⟨v5, rfl, s5, hb5⟩
        have hF5 := HFin.out.below hb5
        have hsl5 := hF5.sl
        rw [HRL.out i] at hsl5 s5
        have HF5 := Lib.hid hF5
        obtain ⟨p5, c5, rfl, hc5⟩ := rd_str (Rd.of_sl s5) (HRL.out i)
        obtain ⟨p6, c6, e6, hc6⟩ := rd_str (Rd.of_sl hsl5) (HRL.out i)
        rw [Value.slice.injEq] at e6
        obtain ⟨rfl, _, rfl⟩ := e6
        have HCC : Hid (∀ j, j < n → ∃ g o y, p5 = some ⟨g, o, none⟩ ∧ g < w5.heap.size ∧ gq < w5.heap.size ∧ w5.cell? ⟨g, o + j, none⟩ = some (.string y) ∧ w5.cell? ⟨gq, oq + j, none⟩ = some (.string y)) := Lib.hid (fun j hj => by
          obtain ⟨g, o, y, a1, a2, a3, a4⟩ := hc5 j hj
          obtain ⟨g2, o2, y2, b1, b2, b3, b4⟩ := hc6 j hj
          simp only [Option.some.injEq, Addr.mk.injEq] at b1
          obtain ⟨rfl, rfl, _⟩ := b1
          rw [a3] at b3
          rw [← Option.some.inj b3] at b4
          exact ⟨g, o, _, a1, a2, b2, a4, b4⟩)
        obtain ⟨_, _, _, _, c4⟩ := hF5.pl.cells
        have HPT := Lib.hid hF5.pl.plt
        clear hF5 hsl5 s5 hc5 hc6 hb5
        go_wp2_with fail
        go_loopw [12] (fun jv wz => ∃ j : Nat, j ≤ n ∧ jv = .int .i64 j ∧ Hid (Below w5.heap.size w5 wz)) (fun jv _ => n - (intOf jv).toNat)
        case atStart => exact ⟨0, Nat.zero_le _, rfl, Lib.hid (Below.refl _ _)⟩
        case round =>
          obtain ⟨j, hj, rfl, HB⟩ := hrel
          have j0 : (0 : Int) ≤ j := by omega
          have c4' := (HB.out.cell (p := ⟨p, 4, none⟩) HPT.out).trans c4
          by_cases hjl : j < n
          · have j1 : (j : Int) < n := by omega
            obtain ⟨g, o, y, rfl, a2, a3, a4, a5⟩ := HCC.out j hjl
            have a4' := (HB.out.cell (p := ⟨g, o + j, none⟩) a2).trans a4
            have a5' := (HB.out.cell (p := ⟨gq, oq + j, none⟩) a3).trans a5
            clear a4 a5 c4
            go_wp2_with fail
            go_quiet (fail)
            go_wp2
            exact ⟨⟨j + 1, by omega, by go_num, Lib.hid (HB.out.trans ((lowN _ _).mono HB.out.size))⟩, by simp [intOf]; omega⟩
          · have j1 : ¬ (j : Int) < n := by omega
            have hF6 := HF5.out.below HB.out
            obtain ⟨c0, _, _, _, _⟩ := hF6.pl.cells
            have HF6 := Lib.hid hF6
            have HL6 := Lib.hid (HLO.out _ _ _ hF6.pl)
            clear hF6 c4
            go_wp2_with fail
            refine HL6.out.mono ?_; rintro e w7 ⟨rfl, rfl⟩
            go_wp2
            go_ret
            exact ⟨_, _, rfl, HF6.out.pl, HF6.out.st⟩
end Go.Proofs.Ytjnggldalggfnaa
namespace Go.Proofs.Ytjnggldalggfnaa
open Go.RowKit
set_option maxRecDepth 100000 in
set_option maxHeartbeats 1000000 in
theorem room_q {g b : Nat} {L : PLog.Lg} {own : List Nat} (w : World) (h : IsLog w g L b own) :
    Calls Try.prog 19 #[.pointer (some ⟨g, 0, none⟩)] w fun e w' => e = .returned (.int .i64 (L.room : Nat)) ∧ ∃ k, w' = w.drewN k := by
  have H := Lib.hid h
  obtain ⟨_, _, c2, _, c6, c7, _, c9⟩ := h.cells
  have hn := h.1.n4
  have hn5 := h.1.n5
  have hnx := h.1.next5
  have hfn := L.first_next
  have hr := h.1.ring
  have hbl := PLog.begin_le L.first
  have HR : Hid ((L.room : Int) = (L.n : Int) * 110 - ((L.next : Int) - (PLog.begin L.first : Nat)) - L.reserved) := Lib.hid (by unfold PLog.Lg.room; omega)
  clear h
  obtain ⟨R, hR⟩ : ∃ R, L.room = R := ⟨_, rfl⟩
  obtain ⟨n, hnn⟩ : ∃ n, L.n = n := ⟨_, rfl⟩
  obtain ⟨x, hxx⟩ : ∃ x, L.next = x := ⟨_, rfl⟩
  obtain ⟨f, hff⟩ : ∃ f, L.first = f := ⟨_, rfl⟩
  obtain ⟨r, hrr⟩ : ∃ r, L.reserved = r := ⟨_, rfl⟩
  rw [hR, hnn, hxx, hff, hrr] at HR
  rw [hnn] at c2 hn hn5
  rw [hff] at c6
  rw [hxx] at c7 hnx
  rw [hrr] at c9
  rw [hxx, hff] at hfn
  rw [hxx, hff, hrr, hnn] at hr
  rw [hff] at hbl
  rw [hR]
  have HBG : Hid (∀ W, Calls Try.prog 32 #[.int .u64 f] W fun e w' => e = .returned (.int .u64 (PLog.begin f : Nat)) ∧ W = w') := Lib.hid (fun W => begin_any f (by omega) W)
  obtain ⟨B, hB⟩ : ∃ B, PLog.begin f = B := ⟨_, rfl⟩
  rw [hB] at HBG HR hbl hr
  obtain ⟨U, hU⟩ : ∃ U : Nat, U = x - B := ⟨_, rfl⟩
  obtain ⟨V, hV⟩ : ∃ V : Nat, V = n * 110 := ⟨_, rfl⟩
  obtain ⟨X, hX⟩ : ∃ X : Nat, X = V - U := ⟨_, rfl⟩
  have w1 : IntKind.i64.wrap ((n : Int) * 110) = V := by rw [IntWalk.i64_in _ (by omega)]; omega
  have w2 : IntKind.u64.wrap ((x : Int) - B) = U := by rw [IntWalk.u64_in _ (by omega)]; omega
  have w3 : IntKind.i64.wrap (U : Int) = U := IntWalk.i64_in _ (by omega)
  have w4 : IntKind.i64.wrap ((V : Int) - U) = X := by rw [IntWalk.i64_in _ (by omega)]; omega
  have w5 : IntKind.i64.wrap ((X : Int) - r) = R := by rw [IntWalk.i64_in _ (by have := HR.out; omega)]; have := HR.out; omega
  have z0 : max (0 : Int) (R : Int) = R := by omega
  clear hR hnn hxx hff hrr hB hU hV hX
  go_enter Try.func19, Try.ntmps19
  go_wp2_with fail
  refine (made_any _ H.out).mono ?_; rintro e w1 ⟨rfl, rfl⟩
  go_wp2_with fail
  go_quiet ((go_at_call 32; exact quiet_eq (HBG.out _)))
  go_wp2
  all_goals (
    go_ret
    exact ⟨ret_i64 (by omega), _, rfl⟩)
set_option maxRecDepth 100000 in
set_option maxHeartbeats 1000000 in
theorem rroom_q {g fa : Nat} {L : PLog.Lg} {fix : List UInt8} {own : List Nat} (w : World) (h : IsRef w g L fix fa own) :
    Calls Try.prog 56 #[.pointer (some ⟨g, 0, none⟩)] w fun e w' => e = .returned (.int .i64 (L.room : Nat)) ∧ ∃ k, w' = w.drewN k := by
  obtain ⟨c2, _, c6, c7, _, c9, _⟩ := h.cells
  have hn := h.1.n4
  have hn5 := h.1.n5
  have hnx := h.1.next5
  have hfn := L.first_next
  have hr := h.1.ring
  have hbl := PLog.begin_le L.first
  have HR : Hid ((L.room : Int) = (L.n : Int) * 110 - ((L.next : Int) - (PLog.begin L.first : Nat)) - L.reserved) := Lib.hid (by unfold PLog.Lg.room; omega)
  clear h
  obtain ⟨R, hR⟩ : ∃ R, L.room = R := ⟨_, rfl⟩
  obtain ⟨n, hnn⟩ : ∃ n, L.n = n := ⟨_, rfl⟩
  obtain ⟨x, hxx⟩ : ∃ x, L.next = x := ⟨_, rfl⟩
  obtain ⟨f, hff⟩ : ∃ f, L.first = f := ⟨_, rfl⟩
  obtain ⟨r, hrr⟩ : ∃ r, L.reserved = r := ⟨_, rfl⟩
  rw [hR, hnn, hxx, hff, hrr] at HR
  rw [hnn] at c2 hn hn5
  rw [hff] at c6
  rw [hxx] at c7 hnx
  rw [hrr] at c9
  rw [hxx, hff] at hfn
  rw [hxx, hff, hrr, hnn] at hr
  rw [hff] at hbl
  rw [hR]
  have HBG : Hid (∀ W, Calls Try.prog 71 #[.int .u64 f] W fun e w' => e = .returned (.int .u64 (PLog.begin f : Nat)) ∧ W = w') := Lib.hid (fun W => rbegin_any f (by omega) W)
  obtain ⟨B, hB⟩ : ∃ B, PLog.begin f = B := ⟨_, rfl⟩
  rw [hB] at HBG HR hbl hr
  obtain ⟨U, hU⟩ : ∃ U : Nat, U = x - B := ⟨_, rfl⟩
  obtain ⟨V, hV⟩ : ∃ V : Nat, V = n * 110 := ⟨_, rfl⟩
  obtain ⟨X, hX⟩ : ∃ X : Nat, X = V - U := ⟨_, rfl⟩
  have w1 : IntKind.i64.wrap ((n : Int) * 110) = V := by rw [IntWalk.i64_in _ (by omega)]; omega
  have w2 : IntKind.u64.wrap ((x : Int) - B) = U := by rw [IntWalk.u64_in _ (by omega)]; omega
  have w3 : IntKind.i64.wrap (U : Int) = U := IntWalk.i64_in _ (by omega)
  have w4 : IntKind.i64.wrap ((V : Int) - U) = X := by rw [IntWalk.i64_in _ (by omega)]; omega
  have w5 : IntKind.i64.wrap ((X : Int) - r) = R := by rw [IntWalk.i64_in _ (by have := HR.out; omega)]; have := HR.out; omega
  have z0 : max (0 : Int) (R : Int) = R := by omega
  clear hR hnn hxx hff hrr hB hU hV hX
  go_enter Try.func56, Try.ntmps56
  go_wp2_with fail
  go_quiet ((go_at_call 71; exact quiet_eq (HBG.out _)))
  go_wp2
  all_goals (
    go_ret
    exact ⟨ret_i64 (by omega), _, rfl⟩)
def RReadQ (L : PLog.Lg) (x : Nat) (w : World) (e : Ending) (w' : World) : Prop := e = .returned (.tuple #[.string ⟨(PLog.read L x).1.toArray⟩, .int .u64 (PLog.read L x).2.1, .int .i64 (PLog.read L x).2.2]) ∧ ∃ k, w' = w.drewN k
theorem rread_none_q {g fa : Nat} {L : PLog.Lg} {fix : List UInt8} {own : List Nat} (w : World) (h : IsRef w g L fix fa own) (x : Nat) (hx : PLog.isAt L x = false) :
    Calls Try.prog 55 #[.pointer (some ⟨g, 0, none⟩), .int .u64 x] w (RReadQ L x w) := by
  have HQ : Hid (PLog.read L x = ([], 0, 3)) := Lib.hid (by unfold PLog.read; rw [hx]; rfl)
  have hw := rwhere_any w h x
  rw [show PLog.whereI L.starts x = -1 from by unfold PLog.whereI; rw [if_neg]; intro e; unfold PLog.isAt at hx; rw [hx] at e; exact absurd e (by decide)] at hw
  have HW := Lib.hid hw
  clear hw h hx
  go_enter Try.func55, Try.ntmps55
  go_wp2_with fail
  refine HW.out.mono ?_; rintro e w1 ⟨rfl, rfl⟩
  go_wp2
  go_ret3
  unfold RReadQ
  rw [HQ.out]
  exact ⟨rfl, 0, rfl⟩
set_option maxRecDepth 100000 in
set_option maxHeartbeats 1000000 in
theorem rread_at_q {g fa : Nat} {L : PLog.Lg} {fix : List UInt8} {own : List Nat} (w : World) (h : IsRef w g L fix fa own) (j : Nat) (hj : j < L.texts.length) :
    Calls Try.prog 55 #[.pointer (some ⟨g, 0, none⟩), .int .u64 (PLog.endOf L.first (L.texts.take j) : Nat)] w (RReadQ L (PLog.endOf L.first (L.texts.take j)) w) := by
  have HQ := Lib.hid (PLog.read_at (L := L) hj)
  have hw := rwhere_any w h (PLog.endOf L.first (L.texts.take j))
  have hat : PLog.has L.starts (PLog.endOf L.first (L.texts.take j)) = true := (PLog.isAt_iff L _).2 ⟨j, hj, rfl⟩
  rw [show PLog.whereI L.starts (PLog.endOf L.first (L.texts.take j)) = (j : Nat) from by unfold PLog.whereI; rw [if_pos hat, show PLog.rank L.starts (PLog.endOf L.first (L.texts.take j)) = j from PLog.rank_starts L.texts L.first j (by omega)]] at hw
  have HW := Lib.hid hw
  obtain ⟨gl, off, c, c2, ct⟩ := h.text hj
  have hk := h.1
  have hnx := hk.next5
  have hm := PLog.endOf_take_succ L.texts L.first j hj
  have hhi := PLog.endOf_take_le L.texts L.first (j + 1) L.texts.length (by omega)
  rw [List.take_length] at hhi
  have hnn : L.next = PLog.endOf L.first L.texts := rfl
  rw [← hnn] at hhi
  obtain ⟨lo, hlo⟩ : ∃ lo, PLog.endOf L.first (L.texts.take j) = lo := ⟨_, rfl⟩
  obtain ⟨hi, hhi'⟩ : ∃ hi, PLog.endOf L.first (L.texts.take (j + 1)) = hi := ⟨_, rfl⟩
  obtain ⟨t, ht⟩ : ∃ t, L.texts[j] = t := ⟨_, rfl⟩
  rw [hlo, hhi', ht] at hm
  rw [hhi'] at hhi HQ
  rw [hlo] at HQ HW ⊢
  rw [ht] at HQ ct
  obtain ⟨s, hs⟩ : ∃ s : ByteArray, (⟨t.toArray⟩ : ByteArray) = s := ⟨_, rfl⟩
  have hsz : t.length = s.size := by rw [← hs]; rfl
  rw [hs] at ct
  have HS := Lib.hid hs
  obtain ⟨n, hn⟩ : ∃ n, L.texts.length = n := ⟨_, rfl⟩
  rw [hn] at c2 hj
  obtain ⟨S, hS⟩ : ∃ S, S = 14 + s.size := ⟨_, rfl⟩
  have w1 : IntKind.i64.wrap ((14 : Int) + s.size) = S := by rw [IntWalk.i64_in _ (by omega)]; omega
  have w2 : IntKind.u64.wrap (S : Int) = S := IntWalk.u64_in _ (by omega)
  have w3 : IntKind.u64.wrap ((lo : Int) + S) = hi := by rw [IntWalk.u64_in _ (by omega)]; omega
  have i0 : (0 : Int) ≤ j := by omega
  have i1 : (j : Int) < n := by omega
  have i2 : ¬ (j : Int) < 0 := by omega
  clear h hk hnn hlo hhi' ht hs hsz hn hS hw hat hm
  go_enter Try.func55, Try.ntmps55
  go_wp2_with fail
  refine HW.out.mono ?_; rintro e w1 ⟨rfl, rfl⟩
  go_wp2_with fail
  go_quiet (fail)
  go_wp2
  go_ret3
  unfold RReadQ
  rw [HQ.out, HS.out]
  exact ⟨rfl, _, rfl⟩
theorem rread_q {g fa : Nat} {L : PLog.Lg} {fix : List UInt8} {own : List Nat} (w : World) (h : IsRef w g L fix fa own) (x : Nat) : Calls Try.prog 55 #[.pointer (some ⟨g, 0, none⟩), .int .u64 x] w (RReadQ L x w) := by
  cases hx : PLog.isAt L x with
  | false => exact rread_none_q w h x hx
  | true =>
    obtain ⟨j, hj, rfl⟩ := (PLog.isAt_iff L x).1 hx
    exact rread_at_q w h j hj
/-- what a play's reading calls answer in a world that was drawn from -/
structure StF (W : World) (p gl gr : Nat) (L : PLog.Lg) : Prop where
  ra : ∀ (k y : Nat), Calls Try.prog 9 #[.pointer (some ⟨gl, 0, none⟩), .int .u64 y] (W.drewN k) fun e w' => e = .returned (.tuple #[.string ⟨(PLog.read L y).1.toArray⟩, .int .u64 (PLog.read L y).2.1, .int .i64 (PLog.read L y).2.2]) ∧ W.drewN k = w'
  rr : ∀ (k y : Nat), Calls Try.prog 55 #[.pointer (some ⟨gr, 0, none⟩), .int .u64 y] (W.drewN k) fun e w' => e = .returned (.tuple #[.string ⟨(PLog.read L y).1.toArray⟩, .int .u64 (PLog.read L y).2.1, .int .i64 (PLog.read L y).2.2]) ∧ ∃ j, w' = (W.drewN k).drewN j
  fi : ∀ k : Nat, Calls Try.prog 15 #[.pointer (some ⟨gl, 0, none⟩)] (W.drewN k) fun e w' => e = .returned (.int .u64 L.first) ∧ W.drewN k = w'
  nx : ∀ k : Nat, Calls Try.prog 16 #[.pointer (some ⟨gl, 0, none⟩)] (W.drewN k) fun e w' => e = .returned (.int .u64 L.next) ∧ W.drewN k = w'
  fo : ∀ k : Nat, Calls Try.prog 17 #[.pointer (some ⟨gl, 0, none⟩)] (W.drewN k) fun e w' => e = .returned (.int .u64 L.forced) ∧ W.drewN k = w'
  re : ∀ k : Nat, Calls Try.prog 18 #[.pointer (some ⟨gl, 0, none⟩)] (W.drewN k) fun e w' => e = .returned (.int .i64 L.reserved) ∧ W.drewN k = w'
  ro : ∀ k : Nat, Calls Try.prog 19 #[.pointer (some ⟨gl, 0, none⟩)] (W.drewN k) fun e w' => e = .returned (.int .i64 (L.room : Nat)) ∧ ∃ j, w' = (W.drewN k).drewN j
  rm : ∀ k : Nat, Calls Try.prog 56 #[.pointer (some ⟨gr, 0, none⟩)] (W.drewN k) fun e w' => e = .returned (.int .i64 (L.room : Nat)) ∧ ∃ j, w' = (W.drewN k).drewN j
  c1 : W.cell? ⟨p, 1, none⟩ = some (.pointer (some ⟨gl, 0, none⟩))
  c2 : W.cell? ⟨p, 2, none⟩ = some (.pointer (some ⟨gr, 0, none⟩))
  f4 : W.cell? ⟨gr, 4, none⟩ = some (.int .u64 L.first)
  f5 : W.cell? ⟨gr, 5, none⟩ = some (.int .u64 L.next)
  f6 : W.cell? ⟨gr, 6, none⟩ = some (.int .u64 L.forced)
  f7 : W.cell? ⟨gr, 7, none⟩ = some (.int .i64 L.reserved)
theorem stF_of {W : World} {p gl b gr n life : Nat} {kv : Value} {L : PLog.Lg} {D : PDsk.Dsk} {o1 : List Nat} {fix : List UInt8} {fa : Nat} {o2 : List Nat} (h : PlayX W p gl b gr life n kv L D o1 L fix fa o2) : StF W p gl gr L where
  ra k y := (lread_ld (h.below (lowN W k)).ld y).mono fun e w' hh => hh
  rr k y := (rread_q (W.drewN k) (h.below (lowN W k)).ref y).mono fun e w' hh => hh
  fi k := by obtain ⟨o, h1⟩ := (h.below (lowN W k)).ld.log; exact first_any _ h1
  nx k := by obtain ⟨o, h1⟩ := (h.below (lowN W k)).ld.log; exact next_any _ h1
  fo k := by obtain ⟨o, h1⟩ := (h.below (lowN W k)).ld.log; exact forced_any _ h1
  re k := by obtain ⟨o, h1⟩ := (h.below (lowN W k)).ld.log; exact reserved_any _ h1
  ro k := by obtain ⟨o, h1⟩ := (h.below (lowN W k)).ld.log; exact room_q _ h1
  rm k := rroom_q _ (h.below (lowN W k)).ref
  c1 := h.cells.2.1
  c2 := h.cells.2.2.1
  f4 := h.ref.cells.2.2.1
  f5 := h.ref.cells.2.2.2.1
  f6 := h.ref.cells.2.2.2.2.1
  f7 := h.ref.cells.2.2.2.2.2.1
set_option maxRecDepth 100000 in
set_option maxHeartbeats 8000000 in
theorem pstands_any {p gl b gr n : Nat} {kv : Value} {L : PLog.Lg} {D : PDsk.Dsk} {o1 : List Nat} {fix : List UInt8} {fa : Nat} {o2 : List Nat} (w : World) (h : PlayX w p gl b gr L.life n kv L D o1 L fix fa o2) (x : Nat) :
    Calls Try.prog 28 #[.pointer (some ⟨p, 0, none⟩), .int .u64 x] w fun e w' => e = .returned (.bool true) ∧ Below w.heap.size w w' := by
  have hk := h.ref.1
  obtain ⟨m, hm⟩ : ∃ m, L.texts.length = m := ⟨_, rfl⟩
  have hmb : m ≤ 1000000 := by have := Lg_starts_len hk; unfold PLog.Lg.starts at this; rw [PLog.startsOf_length] at this; omega
  have HST := Lib.hid (fun W (hb : Below w.heap.size w W) => stF_of (h.below hb))
  obtain ⟨_, va, vl, hf, _⟩ := h.ref.open_
  obtain ⟨pa, ca, rfl⟩ := hf.aform
  have hst : (PLog.toRf L fix fa).ats.length = m := by show (PLog.startsOf L.first L.texts).length = m; rw [PLog.startsOf_length, hm]
  rw [hst] at hf
  have hgr := hf.glt
  have f1 := hf.cell1
  have HAT : Hid (∀ i, i < m → ∃ ga oa y, pa = some ⟨ga, oa, none⟩ ∧ ga < w.heap.size ∧ w.cell? ⟨ga, oa + i, none⟩ = some (.int .u64 (y : Nat)) ∧ (PLog.read L y).2.2 = 0) := Lib.hid (fun i hi => by
    obtain ⟨ga, oa, a1, a2, y, a3, a4⟩ := hf.at_ hst hi
    refine ⟨ga, oa, y, a1, a2, a4, ?_⟩
    have hi' : i < L.texts.length := by omega
    have e := hk.starts_at hi'
    have : y = PLog.endOf L.first (L.texts.take i) := by
      have h2 : L.starts[i]? = some y := a3
      rw [e] at h2
      exact (Option.some.inj h2).symm
    rw [this, PLog.read_at hi'])
  have S0 := HST.out w (Below.refl _ _)
  have c1 := S0.c1
  have c2 := S0.c2
  obtain ⟨t0, n0, k0, hr0⟩ : ∃ t0 n0 k0, PLog.read L x = (t0, n0, k0) := ⟨_, _, _, rfl⟩
  have HA0 := Lib.hid (S0.ra 0 x)
  have HR0 := Lib.hid (S0.rr 0 x)
  rw [hr0] at HA0 HR0
  dsimp only at HA0 HR0
  obtain ⟨T0, hT0⟩ : ∃ T0 : ByteArray, (⟨t0.toArray⟩ : ByteArray) = T0 := ⟨_, rfl⟩
  rw [hT0] at HA0 HR0
  clear h hk hf hst hr0 hT0 hm S0
  go_enter Try.func28, Try.ntmps28
  go_wp2_with fail
  refine HA0.out.mono ?_; rintro e w1 ⟨rfl, rfl⟩
  go_wp2_with fail
  refine HR0.out.mono ?_; rintro e w2 ⟨rfl, j, rfl⟩
  go_wp2_with fail
  go_loopw [11, 12, 13, 14, 15, 16, 17] (fun iv _ _ _ _ _ _ wr => ∃ i : Nat, i ≤ m ∧ iv = .int .i64 i ∧ Hid (Below w.heap.size w wr)) (fun iv _ _ _ _ _ _ _ => m - (intOf iv).toNat)
  case atStart => exact ⟨0, Nat.zero_le _, rfl, Lib.hid (lowN w _)⟩
  case round =>
    obtain ⟨i, hi, rfl, HB⟩ := hrel
    have S := HST.out wr HB.out
    have f1' := (HB.out.cell (p := ⟨gr, 1, none⟩) hgr).trans f1
    have d1 := S.c1
    have d2 := S.c2
    have i0 : (0 : Int) ≤ i := by omega
    by_cases hlt : i < m
    · have i1 : (i : Int) < m := by omega
      obtain ⟨ga, oa, y, rfl, a2, a3, a4⟩ := HAT.out i hlt
      have a3' := (HB.out.cell (p := ⟨ga, oa + i, none⟩) a2).trans a3
      obtain ⟨t1, n1, k1, hr1⟩ : ∃ t1 n1 k1, PLog.read L y = (t1, n1, k1) := ⟨_, _, _, rfl⟩
      have HA1 := Lib.hid (fun k => S.ra k y)
      rw [hr1] at HA1 a4
      dsimp only at HA1 a4
      subst a4
      obtain ⟨T1, hT1⟩ : ∃ T1 : ByteArray, (⟨t1.toArray⟩ : ByteArray) = T1 := ⟨_, rfl⟩
      rw [hT1] at HA1
      have HRX : Hid (∀ W, Below w.heap.size w W → ∀ k, Calls Try.prog 55 #[.pointer (some ⟨gr, 0, none⟩), .int .u64 y] (W.drewN k) fun e w' => e = .returned (.tuple #[.string T1, .int .u64 n1, .int .i64 0]) ∧ ∃ j, w' = (W.drewN k).drewN j) := Lib.hid (fun W hW k => by
        have := (HST.out W hW).rr k y
        rw [hr1] at this
        dsimp only at this
        rwa [hT1] at this)
      clear S hr1 hT1 a3 c1 c2 f1
      go_wp2_with fail
      go_quiet ((go_at_call 9; exact quiet_eq (HA1.out _)))
      obtain ⟨W2, hW2⟩ : ∃ W2, wr.drewN nq = W2 := ⟨_, rfl⟩
      have hB2 : Below wr.heap.size wr W2 := by rw [← hW2]; exact lowN wr nq
      have HB2 := Lib.hid (HB.out.step hB2)
      rw [hW2]
      have S2 := HST.out W2 HB2.out
      have d22 := S2.c2
      have f12 := (HB2.out.cell (p := ⟨gr, 1, none⟩) hgr).trans ((HB.out.cell (p := ⟨gr, 1, none⟩) hgr).symm.trans f1')
      have a32 := (HB2.out.cell (p := ⟨ga, oa + i, none⟩) a2).trans ((HB.out.cell (p := ⟨ga, oa + i, none⟩) a2).symm.trans a3')
      have HR2 := Lib.hid (HRX.out W2 HB2.out)
      clear hW2 hB2 S2 d1 d2 f1' a3'
      go_wp2_with fail
      go_quiet ((go_at_call 55; exact Calls.quiet_of (HR2.out _)))
      go_wp2
      exact ⟨⟨i + 1, by omega, by go_num, Lib.hid (HB2.out.step (lowN _ _))⟩, by simp [intOf]; omega⟩
    · have i1 : ¬ (i : Int) < m := by omega
      have HS := Lib.hid S
      have e4 := S.f4
      have e5 := S.f5
      have e6 := S.f6
      have e7 := S.f7
      clear S hlt c1 c2 f1
      go_wp2_with fail
      go_quiet (first | (go_at_call 15; exact quiet_eq (HS.out.fi _)) | (go_at_call 16; exact quiet_eq (HS.out.nx _)) | (go_at_call 17; exact quiet_eq (HS.out.fo _)) | (go_at_call 18; exact quiet_eq (HS.out.re _)) | (go_at_call 19; exact Calls.quiet_of (HS.out.ro _)) | (go_at_call 56; exact Calls.quiet_of (HS.out.rm _)))
      go_wp2
      go_ret
      exact ⟨rfl, HB.out.step (lowN _ _)⟩
end Go.Proofs.Ytjnggldalggfnaa
