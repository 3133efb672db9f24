/-
  LogPlays: what each call answers, which sectors are written, what is read, and what is there when a log is opened again. No conditions.
-/
import Derived.Test.YtjnggldalggfnaaLpF
import Derived.Test.YtjnggldalggfnaaHeavyA
import Derived.Test.YtjnggldalggfnaaFrame
namespace Go.Proofs.Ytjnggldalggfnaa
open Go.RowKit
theorem LD.of_disk' {w : World} {g b : Nat} {L : PLog.Lg} {D D' : PDsk.Dsk} {own : List Nat} {v : Value} {f : FuncId} {args : Array Value} (h : LD w g L b D own) (hc : ∀ o2, IsDisk w b D o2 → (∀ k ∈ o2, k ∈ own) → Calls Try.prog f args w (StepPost v b D' o2 w)) : Calls Try.prog f args w (LDPost v g L b D' own w) := by
  obtain ⟨o1, o2, h1, h2, h3, rfl⟩ := h
  refine (hc o2 h2 (fun k hk => by simp [hk])).mono ?_
  rintro e w' ⟨o2', he, k1, k2⟩
  refine ⟨o1 ++ o2', he, ⟨o1, o2', h1.turns k2.1 h3, k1, ?_, rfl⟩, k2.1.app_r, ?_⟩
  · intro k hk hm
    rcases k2.2 k hm with h | h
    · exact h3 k hk h
    · have := h1.lt k hk; omega
  · intro k hk
    rcases List.mem_append.1 hk with hk | hk
    · exact .inl (by simp [hk])
    · rcases k2.2 k hk with h | h
      · exact .inl (by simp [h])
      · exact .inr h
/-- behind the log's Open: the new log, the ring as it was -/
structure CrX (w0 wr : World) (p gl b gr life n : Nat) (kv : Value) (gl2 : Nat) (L' : PLog.Lg) (D' : PDsk.Dsk) (o1' own0 : List Nat) (v7 : Value) (r : List (List UInt8)) : Prop where
  row : wr.heap[p]? = some (.cells (playV gl b gr life n kv) 54 (0, 0))
  ld : LD wr gl2 L' b D' o1'
  st : Stepped w0 wr own0 (p :: o1')
  d1 : p ∉ o1'
  sl : Sl wr w0.heap.size 9 1 v7 r.length (strV r)
  nv : ∀ k, v7.ownBlock = some k → k ∉ p :: o1'
section
variable {w0 w wb w' : World} {p gl gl' gl2 b gr g2 life life' n g : Nat} {kv : Value} {L1 L' : PLog.Lg} {D D' : PDsk.Dsk} {oa ob o1' : List Nat} {L2 : PLog.Lg} {fix fix' : List UInt8} {fa fa' : Nat} {o2 own2 own0 : List Nat} {v7 : Value} {r : List (List UInt8)}
theorem FrW.opened (h : FrW w0 w p gl b gr life n kv L1 D (oa ++ ob) L2 fix fa o2 own0 v7 r) (hb : Below w.heap.size w wb) (hl : LD w' gl2 L' b D' o1') (s : Stepped wb w' ob o1') : CrX w0 w' p gl b gr life n kv gl2 L' D' o1' own0 v7 r := by
  have h1 := h.below hb
  have hpo : p ∉ ob := fun hm => h1.pl.d1 (by simp [hm])
  have hob : ∀ k ∈ ob, k ∈ plOwn p (oa ++ ob) o2 := fun k hk => by simp [plOwn, hk]
  refine ⟨(s.1.block p h1.pl.plt hpo).trans h1.pl.row, hl, h1.st.trans ⟨s.1.mono hob, fun k hk => ?_⟩, fun hm => ?_, h1.sl.keep fun k e => s.1.block k (h1.sl.lt k e).2 (fun hm => h1.nv k e (hob k hm)), fun k e hm => ?_⟩
  · rcases List.mem_cons.1 hk with rfl | hk
    · exact .inl (by simp [plOwn])
    · rcases s.2 k hk with h2 | h2
      · exact .inl (hob k h2)
      · exact .inr h2
  · rcases s.2 p hm with h2 | h2
    · exact hpo h2
    · have := h1.pl.plt; omega
  · rcases List.mem_cons.1 hm with rfl | hm
    · exact h1.nv k e (by simp [plOwn])
    · rcases s.2 k hm with h2 | h2
      · exact h1.nv k e (hob k h2)
      · have := (h1.sl.lt k e).2; omega
theorem CrX.below (h : CrX w0 w p gl b gr life n kv gl2 L' D' o1' own0 v7 r) (hb : Below w.heap.size w w') : CrX w0 w' p gl b gr life n kv gl2 L' D' o1' own0 v7 r :=
  ⟨(hb.block p (Array.getElem?_eq_some_iff.1 h.row).1).trans h.row, h.ld.below hb, h.st.trans (Stepped.of_below hb _), h.d1, h.sl.keep fun k e => hb.block k (h.sl.lt k e).2, h.nv⟩
theorem CrX.cells (h : CrX w0 w p gl b gr life n kv gl2 L' D' o1' own0 v7 r) : w.cell? ⟨p, 0, none⟩ = some (.pointer (some ⟨b, 0, none⟩)) ∧ w.cell? ⟨p, 1, none⟩ = some (.pointer (some ⟨gl, 0, none⟩)) ∧ w.cell? ⟨p, 2, none⟩ = some (.pointer (some ⟨gr, 0, none⟩)) ∧ w.cell? ⟨p, 3, none⟩ = some (.int .u64 life) ∧ w.cell? ⟨p, 4, none⟩ = some (.int .i64 n) ∧ (∀ j, w.frozen? ⟨p, j, none⟩ = false) := by
  simp [World.cell?, World.frozen?, h.row, playV]
theorem CrX.put (h : CrX w0 w p gl b gr life n kv gl2 L' D' o1' own0 v7 r) (hr : IsRef w g2 L2 fix fa own2) (_ : wb.heap.size ≤ w.heap.size) (hb0 : ∀ k ∈ p :: o1', k < wb.heap.size) (hb7 : ∀ k, v7.ownBlock = some k → k < wb.heap.size) (h0 : w0.heap.size ≤ wb.heap.size) (hn : ∀ k ∈ own2, wb.heap.size ≤ k) :
    FrW w0 ((w.setCell ⟨p, 1, none⟩ (.pointer (some ⟨gl2, 0, none⟩))).setCell ⟨p, 2, none⟩ (.pointer (some ⟨g2, 0, none⟩))) p gl2 b g2 life n kv L' D' o1' L2 fix fa own2 own0 v7 r := by
  have t : Turns [p] w ((w.setCell ⟨p, 1, none⟩ (.pointer (some ⟨gl2, 0, none⟩))).setCell ⟨p, 2, none⟩ (.pointer (some ⟨g2, 0, none⟩))) := (Turns.cell _ (by simp)).set (by simp) _
  have hp2 : p ∉ own2 := fun hm => by have := hn p hm; have := hb0 p (by simp); omega
  have d12 : ∀ k ∈ o1', k ∉ own2 := fun k hk hm => by have := hn k hm; have := hb0 k (by simp [hk]); omega
  have hto : Turns own0 w0 ((w.setCell ⟨p, 1, none⟩ (.pointer (some ⟨gl2, 0, none⟩))).setCell ⟨p, 2, none⟩ (.pointer (some ⟨g2, 0, none⟩))) := by
    rcases h.st.2 p (by simp) with h1 | h1
    · exact (h.st.1.set h1 _).set h1 _
    · exact turns_setNew (turns_setNew h.st.1 h1) h1
  refine ⟨⟨?_, h.ld.turns t (fun k hk hm => by simp at hm; subst hm; exact h.d1 hk), hr.turns t (fun k hk hm => by simp at hm; subst hm; exact hp2 hk), h.d1, hp2, d12⟩, ⟨hto, fun k hk => ?_⟩, h.sl.keep fun k e => t.block k (h.sl.lt k e).2 (fun hm => by simp at hm; subst hm; exact h.nv k e (by simp)), fun k e hm => ?_⟩
  · rw [heap_set (heap_set h.row _)]
    simp [playV]
  · simp only [plOwn, List.mem_cons, List.mem_append] at hk
    rcases hk with rfl | hk | hk
    · exact h.st.2 k (by simp)
    · exact h.st.2 k (by simp [hk])
    · exact .inr (Nat.le_trans h0 (hn k hk))
  · simp only [plOwn, List.mem_cons, List.mem_append] at hm
    rcases hm with rfl | hm | hm
    · exact h.nv k e (by simp)
    · exact h.nv k e (by simp [hm])
    · have := hn k hm; have := hb7 k e; omega
theorem CrX.put2 (h : CrX w0 w p gl b gr life n kv gl2 L' D' o1' own0 v7 r) (hb : Below w.heap.size w w') (hr : IsRef w' g2 L2 fix fa own2) (h0 : w0.heap.size ≤ w.heap.size) (hn : ∀ k ∈ own2, w.heap.size ≤ k) :
    FrW w0 ((w'.setCell ⟨p, 1, none⟩ (.pointer (some ⟨gl2, 0, none⟩))).setCell ⟨p, 2, none⟩ (.pointer (some ⟨g2, 0, none⟩))) p gl2 b g2 life n kv L' D' o1' L2 fix fa own2 own0 v7 r := by
  refine (h.below hb).put hr hb.size (fun k hk => ?_) (fun k e => (h.sl.lt k e).2) h0 hn
  rcases List.mem_cons.1 hk with rfl | hk
  · exact (Array.getElem?_eq_some_iff.1 h.row).1
  · exact h.ld.lt k hk
theorem DoX.setLife {row : Array Value} (h : DoX w0 w p gl b gr life n kv L1 D oa L2 fix fa o2 own0 g row) (life' : Nat) (v : Value) (hv : v = .int .u64 life') : DoX w0 (w.setCell ⟨p, 3, none⟩ v) p gl b gr life' n kv L1 D oa L2 fix fa o2 own0 g row := by
  subst hv
  exact h.step (h.pl.field 3 _ h.pl.ld h.pl.ref h.pl.d1 h.pl.d2 h.pl.d (by simp [playV])) ⟨Turns.cell _ (by simp [plOwn]), fun _ h => .inl h⟩
end
end Go.Proofs.Ytjnggldalggfnaa
namespace Go.Proofs.Ytjnggldalggfnaa
open Go.RowKit
section
variable {p gl b gr n : Nat} {kv : Value} {L : PLog.Lg} {D : PDsk.Dsk} {o1 : List Nat} {fix : List UInt8} {fa : Nat} {o2 : List Nat}
theorem now_ring {D : PDsk.Dsk} {n i : Nat} (hi : i < n) {a : List UInt8} (h : (PLog.ringL D n)[i]? = some a) : PDsk.now D (1 + i) = a := by
  rw [PLog.ringL_at D n hi] at h
  exact Option.some.inj h
set_option maxRecDepth 100000 in
set_option maxHeartbeats 16000000 in
theorem pdoes_crash (w : World) (h : PlayX w p gl b gr L.life n kv L D o1 L fix fa o2) (hP : PLog.Pl n L D) (x : ActM) (hx : x.Ok) (hkv : Rd w x.kv (x.keep.map Value.bool)) (hkn : x.keep.map Value.bool ≠ [] → ∀ k, x.kv.ownBlock = some k → k ∉ plOwn p o1 o2)
    (hl : L.life ≤ 8000000000000000000) (hn : L.next ≤ 4611686018427387904) (hd : x.dO % 5 = 4) :
    Calls Try.prog 27 #[.pointer (some ⟨p, 0, none⟩), .agg x.row] w (DoesPost p b n kv L (plOwn p o1 o2) w) := by
  have hfn := L.first_next
  have hf : L.first ≤ 4611686018427387904 := by omega
  obtain ⟨q1, q2, q3⟩ := hP.open_ hl hf
  have hop := hP.opens hl hf
  have hfuse := hP.fuse
  have hloose := hP.loose
  have hlen := hP.len
  have hn19 := hP.n19
  have hdok := hP.dok
  have hcr : PDsk.crash D x.keep = D := by
    have := hP.eq
    rw [this]
    unfold PDsk.crash PDsk.kept
    simp
  have HDO := Lib.hid (DoX.start h x.row)
  obtain ⟨xd, xs, xl, xw, xn, xk, xkeep⟩ := x
  unfold ActM.row at HDO ⊢
  dsimp only at hd HDO hkv hkn hcr ⊢
  obtain ⟨life, hlf⟩ : ∃ life, L.life + 1 = life := ⟨_, rfl⟩
  rw [hlf] at q1 q2 q3 hop
  obtain ⟨L', hL'⟩ : ∃ L', PLog.opened D 1 n life L.first = L' := ⟨_, rfl⟩
  obtain ⟨D', hD'⟩ : ∃ D', fixedD D 1 n life L.first = D' := ⟨_, rfl⟩
  obtain ⟨fx, hfx⟩ : ∃ fx, PLog.fixOf D 1 n life L.first = fx := ⟨_, rfl⟩
  obtain ⟨fat, hfat⟩ : ∃ fat, PLog.fixAt D 1 n life L.first = fat := ⟨_, rfl⟩
  have hlL : L'.life = life := by rw [← hL']; rfl
  rw [hL', hD'] at q1
  rw [hL'] at q2
  rw [hD', hfx, hfat] at q3
  have HEND : Hid (PLog.Pl n L' D' ∧ L'.next ≤ L.next + 5000 ∧ L'.life ≤ L.life + 1 ∧ life = L'.life) := Lib.hid ⟨q1, by omega, by omega, hlL.symm⟩
  have hrl := PLog.ringL_length D n
  have HCR : Hid (∀ W, Below w.heap.size w W → LD W gl L b D o1 → Calls Try.prog 26 #[.pointer (some ⟨b, 0, none⟩), xk] W (LDPost (.int .i64 0) gl L b D o1 W)) := Lib.hid (fun W hB hW => by
    refine hW.of_disk' (fun od hD hsub => ?_)
    have := crash_gen W hD xk xkeep (hkv.below hB) (fun hne k e hm => hkn hne k e (by simp [plOwn, hsub k hm]))
    rwa [hcr] at this)
  have HRING : Hid (∀ W lf ow, PlayX W p gl b gr lf n kv L D ow L fix fa o2 → Calls Try.prog 51 #[.pointer (some ⟨p, 0, none⟩)] W (RingPost (PLog.ringL D n) W)) := Lib.hid (fun W lf ow hW => pring_any W hW hfuse (by omega) (by omega))
  have HRING2 : Hid (∀ W g g2 ow f2 a2 ow2, PlayX W p g b g2 life n kv L' D' ow L' f2 a2 ow2 → Calls Try.prog 51 #[.pointer (some ⟨p, 0, none⟩)] W (RingPost (PLog.ringL D' n) W)) := Lib.hid (fun W g g2 ow f2 a2 ow2 hW => pring_any W hW q1.fuse (by omega) (by rw [q1.len]; omega))
  have HOP : Hid (∀ W down, IsDisk W b D down → Calls Try.prog 11 #[.pointer (some ⟨b, 0, none⟩), .int .i64 1, .int .i64 n, .int .u64 life, .int .u64 L.first] W fun e w' => ∃ g own', e = .returned (.tuple #[.pointer (some ⟨g, 0, none⟩), .int .i64 0]) ∧ LD w' g L' b D' own' ∧ Stepped W w' down own') := Lib.hid (fun W down hW => by
    have := lopen_any W hW 1 n life L.first hop hfuse (by rw [hloose]; simp)
    unfold LOpenPost at this
    rw [hL', hD'] at this
    exact this)
  have HRO : Hid (∀ W v7, Sl W w.heap.size 9 1 v7 n (strV (PLog.ringL D n)) → Calls Try.prog 52 #[v7, .int .u64 life, .int .u64 L.first] W fun e w' => ∃ g own, e = .returned (.pointer (some ⟨g, 0, none⟩)) ∧ IsRef w' g L' fx fat own ∧ Below W.heap.size W w' ∧ ∀ k ∈ own, W.heap.size ≤ k) := Lib.hid (fun W v7 hs => by
    have := ropen_any (pl := 1) (life := life) W hop hrl (Rd.of_sl hs) (fun i hi => PLog.ringL_at D n hi) (fun i hi => PDsk.now_length hdok (by omega))
    unfold ROpenPost at this
    rw [hL', hfx, hfat] at this
    exact this)
  have HFIX : Hid (∀ W g v7 v9 ow, IsRef W g L' fx fat ow → Sl W w.heap.size 9 1 v7 n (strV (PLog.ringL D n)) → Rd W v9 (strV (PLog.ringL D' n)) → Calls Try.prog 53 #[v7, v9, .pointer (some ⟨g, 0, none⟩)] W fun e w' => e = .returned (.bool true) ∧ W = w') := Lib.hid (fun W g v7 v9 ow h1 h2 h3 => by
    refine pfixed_any W h1 v7 v9 _ _ (Rd.of_sl h2) h3 hrl (PLog.ringL_length D' n) (by omega) (fun i a hi ha => ?_)
    rw [q3 i hi, now_ring hi ha])
  have HLO : Hid (∀ W g g2 ow f2 a2 ow2, PlayX W p g b g2 life n kv L' D' ow L' f2 a2 ow2 → Calls Try.prog 54 #[.pointer (some ⟨b, 0, none⟩)] W fun e w' => e = .returned (.int .i64 0) ∧ W = w') := Lib.hid (fun W g g2 ow f2 a2 ow2 hW => by
    obtain ⟨o, hd⟩ := hW.ld.disk
    have := loose_any W hd
    rw [q1.loose] at this
    exact this)
  obtain ⟨W1, hW1⟩ : ∃ W1, w.alloc (.cells #[.int .u8 xd, .string xs, .int .u64 xl, .int .u8 xw, .int .i64 xn, xk] 46) = W1 := ⟨_, rfl⟩
  have HW1 := Lib.hid hW1
  have hB1 : Below w.heap.size w W1 := by rw [← hW1]; exact (Below.refl _ _).alloc (Nat.le_refl _) _
  have HB1 := Lib.hid hB1
  rw [hW1] at HDO
  have a0 : W1.cell? ⟨w.heap.size, 0, none⟩ = some (.int .u8 xd) := by simp [World.cell?, HDO.out.ar]
  have a5 : W1.cell? ⟨w.heap.size, 5, none⟩ = some xk := by simp [World.cell?, HDO.out.ar]
  obtain ⟨c0, _, _, _, _⟩ := HDO.out.pl.cells
  have m1 : (xd : Int) % 5 = 4 := by omega
  have wl : IntKind.u64.wrap ((L.life : Int) + 1) = life := by rw [IntWalk.u64_in _ (by omega)]; omega
  have hLl : L.life = L.life := rfl
  have HLT := Lib.hid h.lt
  clear h hP hd hx q1 q2 q3 hW1 hB1 hcr hop hfuse hloose hlen hn19 hdok hL' hD' hfx hfat hlL hrl hkv hkn hlf hLl hfn hf hl hn
  go_enter Try.func27, Try.ntmps27
  go_upto_region 1 with fail
  rw [HW1.out]
  go_upto_region 13 with fail
  go_cut [97] from 17 to 97 (fun s97 wx => s97 = .bool false ∧ ∃ o1', Hid (DoX w wx p gl b gr L.life n kv L D o1' L fix fa o2 (plOwn p o1 o2) w.heap.size #[.int .u8 xd, .string xs, .int .u64 xl, .int .u8 xw, .int .i64 xn, xk]))
  case first =>
    go_region_law ((try go_simp); ((with_reducible refine (HCR.out _ (by first | exact HB1.out | exact HB1.out.drew | exact HB1.out.drew.drew) (by first | exact HDO.out.pl.ld | exact (HDO.out.below (Below.refl _ _).drew).pl.ld | exact (HDO.out.below (Below.refl _ _).drew.drew).pl.ld)).mono ?_); rintro e w4 ⟨o1', rfl, hl4, hs4⟩; have HD4 := Lib.hid (HDO.out.logs (by first | exact Below.refl _ _ | exact (Below.refl _ _).drew | exact (Below.refl _ _).drew.drew) hl4 hs4); clear hl4 hs4); go_wp2_with fail)
    all_goals (
      (try go_simp)
      go_wp2_with fail
      go_meet
      exact ⟨rfl, _, HD4⟩)
  case rest =>
    obtain ⟨rfl, o1', HD4⟩ := hcut
    obtain ⟨_, _, _, c3, _⟩ := HD4.out.pl.cells
    have f3 := HD4.out.pl.shut 3
    have hd5 := HD4.out.setLife life (.int .u64 (life : Int)) rfl
    have HD5 := Lib.hid hd5
    have c25 := hd5.pl.cells.2.2.1
    have c45 : (wc.setCell ⟨p, 3, none⟩ (.int .u64 (life : Int))).cell? ⟨gr, 4, none⟩ = some (.int .u64 L.first) := hd5.pl.ref.cells.2.2.1
    obtain ⟨W5, hW5⟩ : ∃ W5, wc.setCell ⟨p, 3, none⟩ (.int .u64 (life : Int)) = W5 := ⟨_, rfl⟩
    have HW5 := Lib.hid hW5
    have HRG5 := Lib.hid (HRING.out _ _ _ hd5.pl)
    clear a0 a5 c0 hd5 hW5
    go_upto_region 16 with fail
    rw [HW5.out] at HD5 HRG5 c25 c45 ⊢
    clear c3 f3
    go_wp2_with fail
    refine HRG5.out.mono ?_; rintro e w6 ⟨v7, rfl, s7, hb⟩
    have HF6 : Hid (FrW w w6 p gl b gr life n kv L D o1' L fix fa o2 (plOwn p o1 o2) v7 (PLog.ringL D n)) := Lib.hid ⟨HD5.out.pl.below hb, HD5.out.st.trans (Stepped.of_below hb _), s7.base_le HD5.out.st.1.size, fun k e hm => by have := (s7.lt k e).1; have := HD5.out.pl.lt k hm; omega⟩
    have HSZ6 : Hid (w.heap.size ≤ w6.heap.size) := Lib.hid (Nat.le_trans HD5.out.st.1.size hb.size)
    have HRLN := Lib.hid (PLog.ringL_length D n)
    obtain ⟨oa, ob, hLo, hDo, hdis, hoe⟩ := HF6.out.pl.ld
    subst hoe
    have HDK := Lib.hid hDo
    obtain ⟨c06, _, _, c36, c46⟩ := HF6.out.pl.cells
    clear s7 hb hLo hDo hdis c25 c45 HD4 HD5
    go_upto_region 18 with fail
    go_cut [12, 13] from 114 to 130 (fun s12 s13 wx => s13 = .int .i64 0 ∧ ∃ g2 o3, s12 = .pointer (some ⟨g2, 0, none⟩) ∧ Hid (CrX w wx p gl b gr life n kv g2 L' D' o3 (plOwn p o1 o2) v7 (PLog.ringL D n) ∧ w.heap.size ≤ wx.heap.size))
    case first =>
      go_region_law ((try go_simp); ((with_reducible refine (HOP.out _ ob (by first | exact HDK.out | exact HDK.out.below (Below.refl _ _).drew | exact HDK.out.below (Below.refl _ _).drew.drew)).mono ?_); rintro e w7 ⟨g2, o3, rfl, hl7, hs7⟩; have HC7 := Lib.hid (And.intro (HF6.out.opened (by first | exact Below.refl _ _ | exact (Below.refl _ _).drew | exact (Below.refl _ _).drew.drew) hl7 hs7) (Nat.le_trans HSZ6.out hs7.1.size)); clear hl7 hs7); go_wp2_with fail)
      all_goals (
        (try go_simp)
        go_wp2_with fail
        go_meet
        exact ⟨rfl, _, _, rfl, HC7⟩)
    case rest =>
      obtain ⟨rfl, g2, o3, rfl, HC7⟩ := hcut
      obtain ⟨_, _, _, c37, _, _⟩ := HC7.out.1.cells
      have HS7 : Hid (Sl wc w.heap.size 9 1 v7 n (strV (PLog.ringL D n))) := Lib.hid (by have := HC7.out.1.sl; rwa [HRLN.out] at this)
      have HRO7 := Lib.hid (HRO.out wc v7 HS7.out)
      clear c06 c36 c46 HF6 HDK
      go_wp2_with fail
      refine HRO7.out.mono ?_; rintro e w8 ⟨g3, own2, rfl, hr8, hb8, hn8⟩
      have HC8 := Lib.hid (HC7.out.1.below hb8)
      have HF10 := Lib.hid (HC7.out.1.put2 hb8 hr8 HC7.out.2 hn8)
      obtain ⟨_, c18, c28, _, _, f8⟩ := HC8.out.cells
      have f18 := f8 1
      have f28 := f8 2
      obtain ⟨W10, hW10⟩ : ∃ W10, (w8.setCell ⟨p, 1, none⟩ (.pointer (some ⟨g2, 0, none⟩))).setCell ⟨p, 2, none⟩ (.pointer (some ⟨g3, 0, none⟩)) = W10 := ⟨_, rfl⟩
      have HW10 := Lib.hid hW10
      clear f8 hr8 hb8 hn8 c37 hW10
      go_upto_region 24 with fail
      rw [HW10.out] at HF10 ⊢
      have HRG10 := Lib.hid (HRING2.out _ _ _ _ _ _ _ HF10.out.pl)
      clear c18 c28 f18 f28
      go_wp2_with fail
      refine HRG10.out.mono ?_; rintro e w11 ⟨v9, rfl, s9, hb⟩
      have hF11 := HF10.out.below hb
      have HF11 := Lib.hid hF11
      have HFX := Lib.hid (HFIX.out w11 g3 v7 v9 own2 hF11.pl.ref (by have := hF11.sl; rwa [HRLN.out] at this) (Rd.of_sl s9))
      have HL11 := Lib.hid (HLO.out _ _ _ _ _ _ _ hF11.pl)
      obtain ⟨c011, _, _, _, _⟩ := hF11.pl.cells
      clear s9 hb hF11
      go_wp2_with fail
      refine HFX.out.mono ?_; rintro e w12 ⟨rfl, rfl⟩
      go_wp2_with fail
      refine HL11.out.mono ?_; rintro e w13 ⟨rfl, rfl⟩
      go_wp2
      go_ret
      obtain ⟨e1, e2, e3, e4⟩ := HEND.out
      have hpl := HF11.out.pl
      rw [e4] at hpl
      exact ⟨_, _, _, _, _, _, _, _, rfl, hpl, e1, e2, e3, HF11.out.st⟩
end
end Go.Proofs.Ytjnggldalggfnaa
namespace Go.Proofs.Ytjnggldalggfnaa
open Go.RowKit
theorem pdoes_any {p gl b gr n : Nat} {kv : Value} {L : PLog.Lg} {D : PDsk.Dsk} {o1 : List Nat} {fix : List UInt8} {fa : Nat} {o2 : List Nat} (w : World) (h : PlayX w p gl b gr L.life n kv L D o1 L fix fa o2) (hP : PLog.Pl n L D) (x : ActM) (hx : x.Ok) (hs : x.s.size ≤ 3000) (hkv : Rd w x.kv (x.keep.map Value.bool)) (hkn : x.keep.map Value.bool ≠ [] → ∀ k, x.kv.ownBlock = some k → k ∉ plOwn p o1 o2)
    (hl : L.life ≤ 8000000000000000000) (hn : L.next ≤ 4611686018427387904) :
    Calls Try.prog 27 #[.pointer (some ⟨p, 0, none⟩), .agg x.row] w (DoesPost p b n kv L (plOwn p o1 o2) w) := by
  have h5 : x.dO % 5 = 0 ∨ x.dO % 5 = 1 ∨ x.dO % 5 = 2 ∨ x.dO % 5 = 3 ∨ x.dO % 5 = 4 := by omega
  rcases h5 with hd | hd | hd | hd | hd
  · exact pdoes_append w h hP x hs (by omega) hd
  · exact pdoes_force w h hP x hx hd
  · exact pdoes_keep w h hP x hx hd
  · exact pdoes_reserve w h hP x hx hd
  · exact pdoes_crash w h hP x hx hkv hkn hl hn hd
def BegunPost (k : Nat) (w : World) (e : Ending) (w' : World) : Prop :=
  ∃ p gl b gr o1 o2, e = .returned (.pointer (some ⟨p, 0, none⟩)) ∧ PlayX w' p gl b gr 1 k (.int .u64 0) (PLog.fresh 1 k 1) (PDsk.new 30) o1 (PLog.fresh 1 k 1) [] 0 o2 ∧ Below w.heap.size w w' ∧ ∀ j ∈ plOwn p o1 o2, w.heap.size ≤ j
set_option maxHeartbeats 1000000 in
theorem pbegun_any (n : Nat) (hn : n < 256) (w : World) : Calls Try.prog 24 #[.int .u8 n] w (BegunPost (4 + n % 16) w) := by
  obtain ⟨q, hq⟩ : ∃ q, n % 16 = q := ⟨_, rfl⟩
  obtain ⟨k, hk⟩ : ∃ k, 4 + n % 16 = k := ⟨_, rfl⟩
  have hk4 : 4 ≤ k := by omega
  have hk19 : k ≤ 19 := by omega
  rw [hk]
  have m1 : (n : Int) % 16 = q := by omega
  have m2 : IntKind.i64.wrap (q : Int) = q := IntWalk.i64_in _ (by omega)
  have m3 : IntKind.i64.wrap (4 + (q : Int)) = k := by rw [IntWalk.i64_in _ (by omega)]; omega
  have HDN := Lib.hid (dnew_any 30 (by omega) (by omega) w)
  have HLN : Hid (∀ W b down, IsDisk W b (PDsk.new 30) down → Calls Try.prog 10 #[.pointer (some ⟨b, 0, none⟩), .int .i64 1, .int .i64 k, .int .u64 1] W (LNewP 1 k 1 b (PDsk.new 30) down W)) := Lib.hid (fun W b down h => lnew_ld W h 1 k 1 hk4 (by omega) (by show 1 + k ≤ (List.replicate 30 PDsk.zero).length; rw [List.length_replicate]; omega) (by omega) (by omega))
  have HRN : Hid (∀ W, Calls Try.prog 45 #[.int .i64 k] W (RNewPost 1 k 1 W)) := Lib.hid (fun W => rnew_any W 1 k 1 (PLog.fresh_ok hk4 (by omega) (by omega) (Nat.le_refl _) (by decide)))
  clear hq hk hk4 hk19
  go_enter Try.func24, Try.ntmps24
  go_wp2_with fail
  refine HDN.out.mono ?_
  rintro e w2 ⟨b, down, rfl, hb, hd, ho⟩
  have HB2 := Lib.hid hb
  have HD2 := Lib.hid hd
  have HO2 := Lib.hid ho
  clear hb hd ho
  go_wp2_with fail
  refine (HLN.out _ _ _ HD2.out).mono ?_
  rintro e w3 ⟨gl, own3, rfl, k1, k2⟩
  have HL3 := Lib.hid k1
  have HB3 := Lib.hid (Stepped.below HB2.out (Nat.le_refl _) HO2.out k2)
  clear k1 k2
  go_wp2_with fail
  refine (HRN.out _).mono ?_
  rintro e w4 ⟨gr, rfl, hr4, hg4, hb4⟩
  have HL4 := Lib.hid (HL3.out.below hb4)
  have HR4 := Lib.hid hr4
  have HB4 := Lib.hid (HB3.out.1.step hb4)
  have HG4 := Lib.hid hg4
  have HLT := Lib.hid HL3.out.lt
  clear hr4 hg4 hb4
  go_wp2
  go_ret
  have hbx : Below w4.heap.size w4 (w4.alloc (.cells (playV gl b gr 1 k (.int .u64 0)) 54)) := (Below.refl _ _).alloc (Nat.le_refl _) _
  have hgr := HR4.out.lt gr (by simp)
  refine ⟨w4.heap.size, gl, b, gr, own3, [gr], rfl, ⟨heap_alloc_new _ _, HL4.out.below hbx, HR4.out.below hbx, fun hm => ?_, fun hm => ?_, fun j hj hm => ?_⟩, HB4.out.trans (hbx.mono HB4.out.size), fun j hj => ?_⟩
  · have := HL4.out.lt _ hm; omega
  · simp at hm; omega
  · simp at hm
    subst hm
    have := HLT.out _ hj
    have := HG4.out
    omega
  · simp only [plOwn, List.mem_cons, List.mem_append, List.not_mem_nil, or_false] at hj
    rcases hj with rfl | hj | rfl
    · exact HB4.out.size
    · exact HB3.out.2 j hj
    · exact Nat.le_trans HB3.out.1.size HG4.out
end Go.Proofs.Ytjnggldalggfnaa
namespace Go.Proofs.Ytjnggldalggfnaa
open Go.ChangeShapes Go.WideShapes Go.ChangeAt Go.RowKit
open Go.ChangeMaps (open_string shut_string)
theorem totalP_mem {cs : List ActM} {x : ActM} (h : x ∈ cs) : x.s.size + x.keep.length ≤ totalC cs := by
  induction cs with
  | nil => cases h
  | cons y cs ih =>
    have e : totalC (y :: cs) = (y.s.size + y.keep.length) + totalC cs := by simp [totalC]
    rcases List.mem_cons.1 h with rfl | h
    · omega
    · have := ih h; omega
theorem lightP_of {cs : List ActM} (h : heavyB cs = false) : cs.length ≤ 60 ∧ ∀ x ∈ cs, x.s.size ≤ 3000 ∧ x.keep.length ≤ 3000 := by
  unfold heavyB at h
  simp only [Bool.or_eq_false_iff, decide_eq_false_iff_not] at h
  refine ⟨by omega, fun x hx => ?_⟩
  have := totalP_mem hx
  omega
/-- a play behind i acts -/
def PlS (w0 wr : World) (p b k i : Nat) : Prop := ∃ gl gr L D o1 fix fa o2, PlayX wr p gl b gr L.life k (.int .u64 0) L D o1 L fix fa o2 ∧ PLog.Pl k L D ∧ L.next ≤ 110 + 5000 * i ∧ L.life ≤ 1 + i ∧ Below w0.heap.size w0 wr ∧ ∀ j ∈ plOwn p o1 o2, w0.heap.size ≤ j
theorem rd_own {w : World} {v : Value} {xs : List Value} (h : Rd w v xs) (hne : xs ≠ []) : ∀ k, v.ownBlock = some k → k < w.heap.size := by
  obtain ⟨p, c, rfl, _, _, h4⟩ := h
  obtain ⟨g, off, rfl, hg, _⟩ := h4 hne
  intro k e
  simp [Value.ownBlock] at e
  omega
set_option maxRecDepth 100000 in
set_option maxHeartbeats 16000000 in
theorem logPlays_any (w : World) (n : Nat) (hn : n < 256) (v : Value) (cs : List ActM) (x : Nat) (hr : RdActs w v cs) (hok : ∀ x ∈ cs, x.Ok) :
    Calls Try.prog 6 #[.int .u8 n, v, .int .u64 x] w fun e w' => e = .returned (.bool true) ∧ Below w.heap.size w w' := by
  have HHV := Lib.hid (heavy13_any w v cs hr hok)
  cases hh : heavyB cs with
  | true =>
    rw [hh] at HHV
    clear hr hok hh
    go_enter Try.func6, Try.ntmps6
    go_wp2_with fail
    refine HHV.out.mono ?_; rintro e w1 ⟨rfl, hb⟩
    have HB := Lib.hid hb
    clear hb
    go_wp2_with fail
    refine (works13_any _).mono ?_; rintro e w2 ⟨rfl, hb⟩
    replace HB := Lib.hid (HB.out.step hb)
    clear hb
    go_wp2
    go_ret
    exact ⟨rfl, HB.out⟩
  | false =>
  rw [hh] at HHV
  obtain ⟨hl60, hlight⟩ := lightP_of hh
  obtain ⟨k, hk⟩ : ∃ k, 4 + n % 16 = k := ⟨_, rfl⟩
  have hk4 : 4 ≤ k := by omega
  have hk19 : k ≤ 19 := by omega
  have HBG : Hid (∀ W, Calls Try.prog 24 #[.int .u8 n] W (BegunPost k W)) := Lib.hid (fun W => by rw [← hk]; exact pbegun_any n hn W)
  have HST := Lib.hid (PLog.Pl.start hk4 hk19)
  obtain ⟨vp, vc, rfl, hr2, hr3, hr4⟩ := hr
  have HR := Lib.hid hr4
  have HOK := Lib.hid hok
  have HLI := Lib.hid hlight
  clear hr2 hr3 hr4 hok hh hlight hk hn hk4 hk19
  go_enter Try.func6, Try.ntmps6
  go_wp2_with fail
  refine HHV.out.mono ?_; rintro e w1 ⟨rfl, hb⟩
  have HB1 := Lib.hid hb
  clear hb
  go_wp2_with fail
  refine (HBG.out _).mono ?_
  rintro e w2 ⟨p, gl, b, gr, o1, o2, rfl, hp, hb, ho⟩
  have HP0 : Hid (PlS w w2 p b k 0) := Lib.hid ⟨gl, gr, _, _, o1, [], 0, o2, hp, HST.out, by show 110 ≤ _; omega, Nat.le_refl _, HB1.out.step hb, fun j hj => Nat.le_trans HB1.out.size (ho j hj)⟩
  clear hp hb ho
  go_wp2_with fail
  go_loopw [8] (fun iv wr => ∃ i : Nat, i ≤ cs.length ∧ iv = .int .i64 i ∧ Hid (PlS w wr p b k i)) (fun iv _ => cs.length - (intOf iv).toNat)
  case atStart => exact ⟨0, Nat.zero_le _, rfl, HP0⟩
  case round =>
    obtain ⟨i, hi, rfl, HS⟩ := hrel
    clear HP0 HB1 HBG HHV HST
    have i0 : (0 : Int) ≤ i := by omega
    by_cases hlt : i < cs.length
    · have i1 : (i : Int) < cs.length := by omega
      obtain ⟨gl2, gr2, L, D, p1, fix, fa, p2, hP, hPl, hnx, hlf, hB, hO⟩ := HS.out
      obtain ⟨ga, off, rfl, hga, hca⟩ := actAt_rd HR.out hB hlt
      obtain ⟨ga', off', e1, _, hca0⟩ := actAt_rd HR.out (Below.refl w.heap.size w) hlt
      simp only [Option.some.injEq, Addr.mk.injEq] at e1
      obtain ⟨rfl, rfl, _⟩ := e1
      have hxo := HOK.out cs[i] (List.getElem_mem hlt)
      have hxl := HLI.out cs[i] (List.getElem_mem hlt)
      generalize cs[i] = y at hca hca0 hxo hxl
      have HDS := Lib.hid (pdoes_any wr hP hPl y hxo hxl.1 hca.2.2.2.2.2.2 (fun hne k' e hm => by
        have h1 := rd_own hca0.2.2.2.2.2.2 hne k' e
        have h2 := hO k' hm
        omega) (by omega) (by omega))
      have HOL : Hid (∀ W own', Stepped wr W (plOwn p p1 p2) own' → Below w.heap.size w W ∧ ∀ j ∈ own', w.heap.size ≤ j) := Lib.hid (fun W own' s => Stepped.below hB (Nat.le_refl _) hO s)
      have HNX := Lib.hid (And.intro hnx hlf)
      obtain ⟨yd, ys, yl, yw, yn, yk, ykeep⟩ := y
      unfold ActM.row at HDS
      obtain ⟨a0, a1, a2, a3, a4, a5, _⟩ := hca
      dsimp only at a0 a1 a2 a3 a4 a5 HDS
      clear hP hPl hnx hlf hB hO hca0 hxo hxl HS
      go_wp2_with fail
      refine HDS.out.mono ?_
      rintro e w4 ⟨gl3, gr3, L', D', fix', fa', q1, q2, rfl, hp4, hpl4, hn4, hl4, hs4⟩
      have HP4 := Lib.hid hp4
      have HPL4 := Lib.hid (And.intro hpl4 (And.intro hn4 hl4))
      have HS4 := Lib.hid (HOL.out _ _ hs4)
      have HSD := Lib.hid (pstands_any w4 hp4 x)
      clear hp4 hpl4 hn4 hl4 hs4 a0 a1 a2 a3 a4 a5
      go_wp2_with fail
      refine HSD.out.mono ?_; rintro e w5 ⟨rfl, hb⟩
      have HE : Hid (PlS w w5 p b k (i + 1)) := Lib.hid ⟨gl3, gr3, L', D', q1, fix', fa', q2, HP4.out.below hb, HPL4.out.1, by have := HPL4.out.2.1; have := HNX.out.1; omega, by have := HPL4.out.2.2; have := HNX.out.2; omega, HS4.out.1.step hb, HS4.out.2⟩
      clear hb
      go_wp2
      exact ⟨⟨i + 1, by omega, by go_num, HE⟩, by simp [intOf]; omega⟩
    · have i1 : ¬ (i : Int) < cs.length := by omega
      obtain ⟨_, _, _, _, _, _, _, _, _, _, _, _, hB, _⟩ := HS.out
      have HB := Lib.hid hB
      clear hB HS hlt
      go_wp2_with fail
      refine (works13_any _).mono ?_; rintro e w2 ⟨rfl, hb⟩
      replace HB := Lib.hid (HB.out.step hb)
      clear hb
      go_wp2
      go_ret
      exact ⟨rfl, HB.out⟩
end Go.Proofs.Ytjnggldalggfnaa
namespace Go.Proofs.Ytjnggldalggfnaa
open Go.ChangeShapes Go.WideShapes Go.ChangeAt Go.RowKit
open Go.ChangeMaps (open_string shut_string)
set_option maxRecDepth 100000 in
theorem logPlays_lifted (os : Os) (started : os.Started) (H : Type) (enc : TypeId × Value → H) :
    ReturnsInHanded {} Try.checked os 6 .any (Rows.logPlaysSpec.pre6 enc Try.prog Try.f6 Rows.logPlaysRow.domain false) (Rows.logPlaysSpec.post enc Try.prog Try.f6 false true false false) := by
  refine returnsInHanded_of_change_sized (C := Try.checked) own started (by kernel_rfl) Try.func6
    (ChangeSpec.witness6 (enc := enc) (C := Try.checked) false ⟨#[], #[.int .u8 0, .slice none 0 0, .int .u64 0], []⟩ 8 (by kernel_rfl) (by kernel_rfl) (by kernel_rfl) (by kernel_rfl)) ?_
  intro W base args ds gs before hval0 hW hcnd hsz0 _
  have hval : ∀ (j : Nat) t v, Try.f6.params[j]? = some t → args[j]? = some v → Value.okWide Try.prog W .any base t v := hval0
  have hsz : (DataW.weightsEach Try.prog (Try.f6.params.toList ++ Rows.logPlaysSpec.plain.varTypes Try.prog) (ds ++ gs)).all (· ≤ reachBytes) = true := hsz0
  have hW' := hW
  obtain ⟨p, q, hA0, hV, rfl, hfz, hnd⟩ := hW
  have hA : DataW.TrodAll enc Try.prog W 0 (fun _ => true) true Try.f6.params.toList args.toList ds p := hA0
  rw [Try.params6] at hA hval hsz
  obtain ⟨v0, vs0, d0, ds0, p0, q0, hargs, rfl, rfl, h0, r0⟩ := trodAll_cons hA
  obtain ⟨v1, vs1, d1, ds1, p1, q1, rfl, rfl, rfl, h1, r1⟩ := trodAll_cons r0
  obtain ⟨v2, vs2, d2, ds2, p2, q2, rfl, rfl, rfl, h2, r2⟩ := trodAll_cons r1
  obtain ⟨rfl, rfl, rfl⟩ := trodAll_nil r2
  obtain rfl : args = #[v0, v1, v2] := by cases args; simp_all
  obtain ⟨rfl, rfl⟩ := trodVars_none hV
  obtain ⟨n, rfl, rfl, rfl, w0⟩ := open_int Try.underlying5 (hval 0 5 v0 rfl rfl) h0
  have b0 := bounds_u8 w0
  obtain ⟨n, rfl⟩ := Int.eq_ofNat_of_zero_le b0.1
  obtain ⟨x, rfl, rfl, rfl, w2⟩ := open_int Try.underlying22 (hval 2 22 v2 rfl rfl) h2
  have b2 := bounds_u64 w2
  obtain ⟨x, rfl⟩ := Int.eq_ofNat_of_zero_le b2.1
  obtain ⟨cs, R1, k1⟩ := rd_acts (hval 1 38 v1 rfl rfl) h1 (fun n hn => by have := List.all_eq_true.1 hsz n (DataW.weights_mem_each (j := 1) (t := 38) (d := d1) rfl rfl n hn); simpa using this)
  clear hA0 hval0 hsz0
  simp only [List.append_nil] at hW'
  refine (logPlays_any W n (by omega) v1 cs x R1 k1).mono fun e W' ⟨he, hb⟩ => ?_
  subst he
  exact ⟨_, rfl, law_post 4 Try.underlying4 (of_decide_eq_true (by kernel_rfl)) rfl rfl hW' rfl hb⟩
/-- THE STATEMENT. -/
theorem logPlays_holds : Rows.LogPlaysSaid :=
  OpenClaim.holds_of_wide 6 Try.f6 rfl rfl rfl rfl rfl rfl rfl ⟨rfl, rfl, rfl, rfl, rfl⟩ rfl rfl rfl rfl rfl (by kernel_rfl) Try.func6 (by kernel_rfl)
    (of_decide_eq_true (by kernel_rfl)) (by unfold Func.isWrapper; first | (rw [if_pos (by decide +kernel)]; kernel_rfl) | (rw [if_neg (by decide +kernel)]; exact ⟨rfl, rfl⟩))
    (fun os started H enc _ => logPlays_lifted os started H enc)
end Go.Proofs.Ytjnggldalggfnaa
