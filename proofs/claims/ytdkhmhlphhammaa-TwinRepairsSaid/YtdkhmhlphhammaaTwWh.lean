/-
  Twin: the walk of TwinWhole.
-/
import Derived.Test.YtdkhmhlphhammaaTwK
import Derived.Test.YtdkhmhlphhammaaRd
namespace PTwin
open PDsk
theorem any_crash {n a base : Nat} {b : List Hm} (g : Good n a base b) {S0 : List (List UInt8)} (h : Old n a base b S0 S0) (f : Int) (hf : -1 ≤ f) (ks : List Bool) :
    ∃ S2, crash (steps ⟨S0, [], f⟩ (writeC a base b)).1 ks = ⟨S2, [], -1⟩ ∧ Any n a base b S0 S2 ∧ ((steps ⟨S0, [], f⟩ (writeC a base b)).2 = 0 → New n a base b S0 S2) := by
  rcases write_cases g h f hf with ⟨h1, _, h3⟩ | ⟨S', f', h1, h2, _⟩
  · obtain ⟨S2, h4, h5⟩ := h3 ks
    exact ⟨S2, h4, h5, fun e => by rw [h1] at e; cases e⟩
  · rw [h1]
    exact ⟨S', crash_nil _ _ _, .inr (.inr h2), fun _ => h2⟩
end PTwin
namespace Go.Proofs.Ytdkhmhlphhammaa
open Go.RowKit
open PTwin (Hm Pt)
def Ap (own : List Nat) (v : Value) : Prop := ∀ k, v.ownBlock = some k → k ∉ own
theorem Sl.stepped {W W' : World} {own own' : List Nat} {base n size : Nat} {e : TypeId} {v : Value} {xs : List Value} (h : Sl W base e size v n xs) (ha : Ap own v) (hs : Stepped W W' own own') : Sl W' base e size v n xs ∧ Ap own' v :=
  ⟨h.keep (fun k e => hs.1.block k (h.lt k e).2 (ha k e)), fun k e hk => by
    rcases hs.2 k hk with h1 | h1
    · exact ha k e h1
    · have := (h.lt k e).2; omega⟩
theorem Sl.apart {w W W' : World} {b : Nat} {D : PDsk.Dsk} {own : List Nat} {n size : Nat} {e : TypeId} {v : Value} {xs : List Value} (ht : Td w W b D own) (h : Sl W' W.heap.size e size v n xs) : Ap own v := fun k e hk => by
  have h1 := ht.2.1.lt k hk
  have h2 := (h.lt k e).1
  omega
theorem Rd.td {w W : World} {b : Nat} {D : PDsk.Dsk} {own : List Nat} {v : Value} {xs : List Value} (h : Rd w v xs) (ht : Td w W b D own) : Rd W v xs ∧ (xs ≠ [] → ∀ k, v.ownBlock = some k → k ∉ own) :=
  ⟨h.below ht.1, fun hx k e hk => by
    have h1 := ht.2.2 k hk
    obtain ⟨p, c, rfl, _, _, h4⟩ := h
    obtain ⟨g, off, rfl, e2, _⟩ := h4 hx
    simp [Value.ownBlock] at e
    omega⟩
theorem crash_td {w W : World} {b : Nat} {D : PDsk.Dsk} {own : List Nat} {v : Value} {ks : List Bool} (h : Rd w v (ks.map Value.bool)) (ht : Td w W b D own) :
    Calls Try.prog 21 #[.pointer (some ⟨b, 0, none⟩), v] W (StepPost (.int .i64 0) b (PDsk.crash D ks) own W) := crash_gen W ht.2.1 v ks (h.td ht).1 (h.td ht).2
/-- what all that stands beside the disk does *)-/
def Pg (w W : World) (own : List Nat) (v : Value) (b : List Hm) : Prop := Sl W w.heap.size 34 2 v b.length (homesV b) ∧ Ap own v
theorem Pg.below {w W W' : World} {own : List Nat} {v : Value} {b : List Hm} (h : Pg w W own v b) (hb : Below W.heap.size W W') : Pg w W' own v b := ⟨h.1.keep (fun k e => hb.block k (h.1.lt k e).2), h.2⟩
theorem Pg.step {w W W' : World} {own own' : List Nat} {v : Value} {b : List Hm} (h : Pg w W own v b) (hs : Stepped W W' own own') : Pg w W' own' v b := Sl.stepped h.1 h.2 hs
theorem Pg.home {w W : World} {own : List Nat} {v : Value} {b : List Hm} (h : Pg w W own v b) : HomeIn W v b := RdS.of_sl h.1
def Ws (w W : World) (own : List Nat) (v : Value) (n : Nat) (xs : List Value) : Prop := Sl W w.heap.size 9 1 v n xs ∧ Ap own v
theorem Ws.below {w W W' : World} {own : List Nat} {v : Value} {n : Nat} {xs : List Value} (h : Ws w W own v n xs) (hb : Below W.heap.size W W') : Ws w W' own v n xs := ⟨h.1.keep (fun k e => hb.block k (h.1.lt k e).2), h.2⟩
theorem Ws.step {w W W' : World} {own own' : List Nat} {v : Value} {n : Nat} {xs : List Value} (h : Ws w W own v n xs) (hs : Stepped W W' own own') : Ws w W' own' v n xs := Sl.stepped h.1 h.2 hs
theorem elem_str : ElemT Try.prog 38 9 1 16 := ElemT.mk' (z := .string ByteArray.empty) Try.underlying38 (by kernel_rfl) rfl (by decide)
theorem fuse_td {w W : World} {b : Nat} {D : PDsk.Dsk} {own : List Nat} (ht : Td w W b D own) (n : Nat) (hn : n ≤ 9223372036854775807) :
    Calls Try.prog 20 #[.pointer (some ⟨b, 0, none⟩), .int .i64 n] W fun e w' => e = .returned (.int .i64 0) ∧ (IsDisk w' b { D with fuse := n } own ∧ Stepped W w' own own) := by
  have := fuse_any W ht.2.1 (n : Int) (by omega) (by omega)
  have e : PDsk.setFuse D (n : Int) = ({ D with fuse := n }, 0) := by unfold PDsk.setFuse; rw [if_neg (by omega)]
  rw [e] at this
  exact this
set_option maxRecDepth 20000 in
set_option maxHeartbeats 16000000 in
theorem twinWhole_ok (w : World) (va vl vk vs : Value) (la lb : List Pt) (ks ss : List Bool) (fu ag : Nat) (hfu : fu < 256) (hag : ag < 256) (ha : PutIn w va la) (hb : PutIn w vl lb) (hka : ∀ x ∈ la, x.Ok) (hkb : ∀ x ∈ lb, x.Ok)
    (hk : Rd w vk (ks.map Value.bool)) (hs : Rd w vs (ss.map Value.bool)) (n1 : la.length ≤ 12) (n2 : lb.length ≤ 12) (n3 : lb ≠ []) (n4 : ks.length ≤ 100) (n5 : ss.length ≤ 100) :
    Calls Try.prog 4 #[va, vl, .int .u8 fu, vk, .int .u8 ag, vs] w fun e w' => e = .returned (.bool true) ∧ Below w.heap.size w w' := by
  have HA := Lib.hid ha
  have HLB := Lib.hid hb
  have HKA := Lib.hid hka
  have HKB := Lib.hid hkb
  have HRK := Lib.hid hk
  have HRS := Lib.hid hs
  have hlen0 : lb.length ≠ 0 := fun e => n3 (List.length_eq_zero_iff.1 e)
  have HNE := Lib.hid n3
  obtain ⟨pa, ca, rfl, hca, hcam⟩ := RdS.form ha
  obtain ⟨pb, cb, rfl, hcb, hcbm⟩ := RdS.form hb
  obtain ⟨pk, ck, rfl, k2, k3, _⟩ := hk
  obtain ⟨ps, cs, rfl, s2, s3, _⟩ := hs
  rw [List.length_map] at k2 s2
  rw [List.length_map] at HRK HRS ⊢
  rw [List.length_map]
  have t1 : ¬ (12 : Int) < la.length := by omega
  have t2 : ¬ (12 : Int) < lb.length := by omega
  have t3 : ((lb.length : Int) == 0) = false := by rw [beq_eq_false_iff_ne]; omega
  have t4 : ¬ (100 : Int) < ks.length := by omega
  have t5 : ¬ (100 : Int) < ss.length := by omega
  have HN := Lib.hid (show Calls Try.prog 7 #[.int .i64 90] w fun e w' => ∃ b own, e = .returned (.tuple #[.pointer (some ⟨b, 0, none⟩), .int .i64 0]) ∧ Td w w' b (PDsk.new 90) own from new_pos 90 (by omega) (by omega) w)
  unfold maxLen at hcam hcbm k3 s3
  clear ha hb hka hkb
  go_enter Try.func4, Try.ntmps4
  go_wp2_with fail
  refine HN.out.mono ?_
  rintro e w1 ⟨b, own, rfl, ht⟩
  have HT := Lib.hid ht
  clear ht HN
  go_wp2_with fail
  refine (pages_any _ la _ (by omega) HKA.out (RdS.step HA.out HT.out.1)).mono ?_
  rintro e w2 ⟨ua, rfl, hsl, hbw⟩
  have HT2 := Lib.hid (HT.out.below hbw)
  have HPA : Hid (Pg w w2 own ua (PTwin.pagesL la)) := Lib.hid ⟨hsl.base_le HT.out.1.size, Sl.apart HT.out hsl⟩
  clear hsl hbw HT
  go_wp2_with fail
  refine (pages_any _ lb _ (by omega) HKB.out (RdS.step HLB.out HT2.out.1)).mono ?_
  rintro e w3 ⟨ub, rfl, hsl, hbw⟩
  have HT3 := Lib.hid (HT2.out.below hbw)
  have HPB : Hid (Pg w w3 own ub (PTwin.pagesL lb)) := Lib.hid ⟨hsl.base_le HT2.out.1.size, Sl.apart HT2.out hsl⟩
  replace HPA := Lib.hid (HPA.out.below hbw)
  clear hsl hbw HT2
  have HAMAY : Hid (la ≠ [] → PTwin.may 90 0 40 (PTwin.pagesL la) = true) := Lib.hid (fun h => PTwin.pages_may h 0 (by omega))
  have HAOK := Lib.hid (PTwin.pagesL_ok la)
  have HANE : Hid (la = [] → PTwin.pagesL la = []) := Lib.hid (fun h => by rw [h]; rfl)
  have HBMAY := Lib.hid (PTwin.pages_may HNE.out 0 (by omega))
  have HBOK := Lib.hid (PTwin.pagesL_ok lb)
  have HBNE := Lib.hid (PTwin.pagesL_some HNE.out)
  generalize PTwin.pagesL la = A at *
  generalize PTwin.pagesL lb = B at *
  have HBG : Hid (PTwin.Good 90 0 40 B) := Lib.hid (PTwin.good_of HBMAY.out (fun x hx => by have := HBOK.out.page x hx; omega) (by omega) (by omega))
  obtain ⟨qa, da, rfl⟩ := Sl.form HPA.out.1
  obtain ⟨qb, db, rfl⟩ := Sl.form HPB.out.1
  have ha8 := HAOK.out.len
  have hb8 := HBOK.out.len
  have hb1 := HBNE.out
  clear HA HLB HKA HKB n1 n2 n3 n4 n5 hlen0
  go_upto_region 7 with fail
  go_cut [79] (fun s79 wx => s79 = .bool false ∧ ∃ S0 own', Hid (Td w wx b ⟨S0, [], -1⟩ own') ∧ Hid (PTwin.Old 90 0 40 B S0 S0) ∧ Hid (Pg w wx own' (.slice qb B.length db) B))
  case first =>
    by_cases hae : la = []
    · have hA := HANE.out hae
      subst hA
      have HOLD := Lib.hid (old_new 90 0 40 B (by omega))
      clear hae
      go_wp2_with fail
      go_meet
      exact ⟨rfl, _, own, HT3, HOLD, HPB⟩
    · have hA1 : A ≠ [] := by
        intro e
        have := HAMAY.out hae
        rw [e] at this
        cases this
      have i1 : (0 : Int) < A.length := by
        have := List.length_pos_iff.2 hA1
        omega
      have HG : Hid (PTwin.Good 90 0 40 A) := Lib.hid (PTwin.good_of (HAMAY.out hae) (fun x hx => by have := HAOK.out.page x hx; omega) (by omega) (by omega))
      obtain ⟨S1, f1, hst, hnew, hf1, hf2, _⟩ : ∃ S' f', PTwin.steps (PDsk.new 90) (PTwin.writeC 0 40 A) = (⟨S', [], f'⟩, 0) ∧ PTwin.New 90 0 40 A (List.replicate 90 PDsk.zero) S' ∧ -1 ≤ f' ∧ ((-1 : Int) = -1 → f' = -1) ∧ f' ≤ -1 := by
        rw [new_form]
        rcases PTwin.write_cases HG.out (old_new 90 0 40 A (by omega)) (-1) (by omega) with ⟨_, h, _⟩ | h
        · exact absurd rfl h
        · exact h
      have hf := hf2 rfl
      subst hf
      have HNEW := Lib.hid hnew
      have HWA : Hid (Calls Try.prog 18 #[.pointer (some ⟨b, 0, none⟩), .int .i64 0, .int .i64 40, .slice qa A.length da] w3 (StepPost (.int .i64 0) b ⟨S1, [], -1⟩ own w3)) := Lib.hid (by
        have hl : (PDsk.new 90).sure.length = 90 := by simp [PDsk.new]
        have := tw_write_yes w3 HT3.out.2.1 0 40 (by rw [hl]; omega) (by rw [hl]; omega) A _ HG.out.page HPA.out.home (by rw [hl]; exact HAMAY.out hae) (by simp [PDsk.new])
        rw [hst] at this
        exact this)
      have HOLD : Hid (PTwin.Old 90 0 40 B S1 S1) := Lib.hid (PTwin.Old.refl HNEW.out.kept.len HNEW.out.kept.sz HNEW.out.mark)
      clear hae hA1 hst hnew hf1 hf2
      go_wp2_with fail
      refine HWA.out.mono ?_
      rintro e w4 ⟨own4, rfl, hd, hst⟩
      have HT4 := Lib.hid (HT3.out.step hd hst)
      have HPB4 := Lib.hid (HPB.out.step hst)
      clear hd hst
      go_wp2_with fail
      go_meet
      exact ⟨rfl, S1, own4, HT4, HOLD, HPB4⟩
  case rest =>
    clear HT3 HPA HPB HAMAY HAOK HANE
    obtain ⟨rfl, S0, own0, HT, HOLD, HPB⟩ := hcut
    obtain ⟨w0, hw0⟩ : ∃ x, x = wc := ⟨_, rfl⟩
    subst hw0
    have HL0 : Hid (S0.length = 90) := Lib.hid HOLD.out.kept.len
    have HRD : Hid (∀ (W : World) (p : Nat), p < 10 → IsDisk W b ⟨S0, [], -1⟩ own0 → Calls Try.prog 19 #[.pointer (some ⟨b, 0, none⟩), .int .i64 40, .int .u32 p] W fun e w' => e = .returned (.tuple #[.string ⟨(PTwin.pageAt ⟨S0, [], -1⟩ 40 p).toArray⟩, .int .i64 0]) ∧ Below W.heap.size W w') := Lib.hid (fun W p hp hW => readT_any W hW (by show (-1 : Int) ≠ 0; omega) 40 p (by show 40 + p * 4 + 4 ≤ S0.length; rw [HL0.out]; omega))
    obtain ⟨rd, hrd⟩ : ∃ rd : Nat → List UInt8, (fun p => PTwin.pageAt ⟨S0, [], -1⟩ 40 p) = rd := ⟨_, rfl⟩
    have HRDF : Hid (∀ p, PTwin.pageAt ⟨S0, [], -1⟩ 40 p = rd p) := Lib.hid (fun p => by rw [← hrd])
    clear hrd
    have HW0 := Lib.hid (Below.refl w0.heap.size w0)
    go_wp2
    go_loopw [17, 18] (fun uv iv wr => ∃ k : Nat, k ≤ B.length ∧ iv = .int .i64 k ∧ Hid (Sl wr w0.heap.size 9 1 uv k ((B.take k).map fun h => .string ⟨(rd h.page).toArray⟩)) ∧ Hid (Below w0.heap.size w0 wr)) (fun _ iv _ => B.length - (intOf iv).toNat)
    case atStart => exact ⟨0, by omega, rfl, Lib.hid (Sl.nil _ _ _ _), HW0⟩
    case round =>
      clear HW0
      obtain ⟨k, hk, rfl, HS, HB⟩ := hrel
      obtain ⟨pu, cu, rfl⟩ := Sl.form HS.out
      by_cases hlt : k < B.length
      · have i1 : (k : Int) < B.length := by omega
        have k0 : (0 : Int) ≤ k := by omega
        obtain ⟨g, off, rfl, hg, c0, c1⟩ := home_cells (l := B) (c := db) (p := qb) (HPB.out.below HB.out).home hlt
        obtain ⟨p, hpp⟩ : ∃ p, (B[k]'hlt).page = p := ⟨_, rfl⟩
        have hp10 : p < 10 := by rw [← hpp]; exact HBOK.out.page _ (List.getElem_mem hlt)
        rw [hpp] at c0
        obtain ⟨X, hX⟩ : ∃ X : ByteArray, (⟨(rd p).toArray⟩ : ByteArray) = X := ⟨_, rfl⟩
        have HTK : Hid ((B.take (k + 1)).map (fun h => Value.string ⟨(rd h.page).toArray⟩) = (B.take k).map (fun h => Value.string ⟨(rd h.page).toArray⟩) ++ [.string X]) := Lib.hid (by rw [List.take_succ_eq_append_getElem hlt, List.map_append, List.map_cons, List.map_nil, hpp, hX])
        have HRP : Hid (Calls Try.prog 19 #[.pointer (some ⟨b, 0, none⟩), .int .i64 40, .int .u32 p] wr fun e w' => e = .returned (.tuple #[.string X, .int .i64 0]) ∧ Below wr.heap.size wr w') := Lib.hid (by
          have := HRD.out wr p hp10 (HT.out.2.1.below HB.out)
          rw [HRDF.out p, hX] at this
          exact this)
        have HLT := Lib.hid hlt
        clear hpp hX hlt c1
        go_wp2_with fail
        refine HRP.out.mono ?_
        rintro e w5 ⟨rfl, hbw⟩
        replace HS := Lib.hid (HS.out.keep (fun j e => hbw.block j (HS.out.lt j e).2))
        replace HB := Lib.hid (HB.out.step hbw)
        have hbs := HB.out.size
        clear hbw HRP
        go_wp2_with (at_builtin; (with_reducible apply wpList_append_sl elem_str (HS.out.alloc _) [.string X]); (· rfl); (· rfl); (· rfl); (· rfl); (· rfl); (· exact news_at _ [_] _ _ rfl); (· intro u hu; simp at hu; subst hu; rfl); (· unfold maxLen; omega); (· omega); (· rw [World.size_alloc]; omega); intro v' w6 g1 g2 _ g4)
        have HSN : Hid (Sl w6 w0.heap.size 9 1 v' (k + 1) ((B.take (k + 1)).map fun h => .string ⟨(rd h.page).toArray⟩)) := Lib.hid (by rw [HTK.out]; exact g1)
        have HBN : Hid (Below w0.heap.size w0 w6) := Lib.hid ((HB.out.alloc hbs _).grown g2 (by rw [World.size_alloc]; omega) (fun j e => (HS.out.lt j e).1))
        clear g1 g2 g4 HS HB
        go_wp2
        exact ⟨⟨k + 1, by have := HLT.out; omega, by go_num, HSN, HBN⟩, by have := HLT.out; simp [intOf]; omega⟩
      · obtain rfl : k = B.length := by omega
        have i1 : ¬ (B.length : Int) < B.length := by omega
        have HWS : Hid (Ws w wr own0 (.slice pu B.length cu) B.length (B.map fun h => .string ⟨(rd h.page).toArray⟩)) := Lib.hid (by
          have h := HS.out
          rw [List.take_length] at h
          exact ⟨h.base_le HT.out.1.size, Sl.apart HT.out h⟩)
        have HT1 := Lib.hid (HT.out.below HB.out)
        have HPB1 := Lib.hid (HPB.out.below HB.out)
        obtain ⟨R, hR⟩ : ∃ R : Nat, fu % 90 = R := ⟨_, rfl⟩
        have m1 : (fu : Int) % 90 = R := by omega
        have m2 : (fu : Int).tmod 90 = R := by rw [Int.tmod_eq_emod_of_nonneg (by omega)]; exact m1
        have hR90 : R < 90 := by omega
        have w1 : IntKind.u8.wrap (R : Int) = R := by rw [IntKind.wrap_u8]; omega
        have w2 : IntKind.i64.wrap (R : Int) = R := IntWalk.i64_in _ (by omega)
        obtain ⟨R2, hR2⟩ : ∃ R : Nat, ag % 45 = R := ⟨_, rfl⟩
        have m3 : (ag : Int) % 45 = R2 := by omega
        have m4 : (ag : Int).tmod 45 = R2 := by rw [Int.tmod_eq_emod_of_nonneg (by omega)]; exact m3
        have hR45 : R2 < 45 := by omega
        have w3 : IntKind.u8.wrap (R2 : Int) = R2 := by rw [IntKind.wrap_u8]; omega
        have w4 : IntKind.i64.wrap (R2 : Int) = R2 := IntWalk.i64_in _ (by omega)
        clear HS HB HT HPB HRD hlt hk hR hR2
        go_wp2_with fail
        refine (fuse_td HT1.out R (by omega)).mono ?_
        rintro e w5 ⟨rfl, hd, hst⟩
        have HT2 := Lib.hid (HT1.out.step hd hst)
        have HPB2 := Lib.hid (HPB1.out.step hst)
        have HWS2 := Lib.hid (HWS.out.step hst)
        clear hd hst HT1 HPB1 HWS
        have HWR : Hid (Calls Try.prog 18 #[.pointer (some ⟨b, 0, none⟩), .int .i64 0, .int .i64 40, .slice qb B.length db] w5 (StepPost (.int .i64 (PTwin.steps ⟨S0, [], R⟩ (PTwin.writeC 0 40 B)).2) b (PTwin.steps ⟨S0, [], R⟩ (PTwin.writeC 0 40 B)).1 own0 w5)) := Lib.hid (by
          have hl : (⟨S0, [], R⟩ : PDsk.Dsk).sure.length = 90 := HL0.out
          exact tw_write_yes w5 HT2.out.2.1 0 40 (by rw [hl]; omega) (by rw [hl]; omega) B _ HBG.out.page HPB2.out.home (by rw [hl]; exact HBMAY.out) (by simp))
        obtain ⟨S2, hc2, hany, hdone⟩ := PTwin.any_crash HBG.out HOLD.out (R : Int) (by omega) ks
        obtain ⟨T, hT⟩ : ∃ T, PTwin.steps ⟨S0, [], R⟩ (PTwin.writeC 0 40 B) = T := ⟨_, rfl⟩
        rw [hT] at HWR hc2 hdone
        obtain ⟨D2, e2⟩ := T
        dsimp only at HWR hc2 hdone
        have HC2 := Lib.hid hc2
        have HANY := Lib.hid hany
        obtain ⟨dn, hdn⟩ : ∃ dn : Bool, (e2 == 0) = dn := ⟨_, rfl⟩
        have HDONE : Hid (dn = true → PTwin.New 90 0 40 B S0 S2) := Lib.hid (fun h => hdone (by rw [h] at hdn; simpa using hdn))
        clear hc2 hany hdone hT
        go_wp2_with fail
        refine HWR.out.mono ?_
        rintro e w6 ⟨own6, rfl, hd, hst⟩
        have HT3 := Lib.hid (HT2.out.step hd hst)
        have HPB3 := Lib.hid (HPB2.out.step hst)
        have HWS3 := Lib.hid (HWS2.out.step hst)
        clear hd hst HT2 HPB2 HWS2 HWR
        have HCR := Lib.hid (crash_td HRK.out HT3.out)
        rw [HC2.out] at HCR
        go_wp2_with fail
        refine HCR.out.mono ?_
        rintro e w7 ⟨own7, rfl, hd, hst⟩
        have HT4 := Lib.hid (HT3.out.step hd hst)
        have HPB4 := Lib.hid (HPB3.out.step hst)
        have HWS4 := Lib.hid (HWS3.out.step hst)
        clear hd hst HT3 HPB3 HWS3 HCR HC2
        go_wp2_with fail
        refine (fuse_td HT4.out R2 (by omega)).mono ?_
        rintro e w8 ⟨rfl, hd, hst⟩
        have HT5 := Lib.hid (HT4.out.step hd hst)
        have HPB5 := Lib.hid (HPB4.out.step hst)
        have HWS5 := Lib.hid (HWS4.out.step hst)
        clear hd hst HT4 HPB4 HWS4
        have hlen2 : S2.length = 90 := by
          rcases HANY.out with h | h | h
          · exact h.kept.len
          · exact h.kept.len
          · exact h.kept.len
        have HRP : Hid (Calls Try.prog 14 #[.pointer (some ⟨b, 0, none⟩), .int .i64 0, .int .i64 40] w8 (RepPost b ⟨S2, [], R2⟩ 0 40 own7 w8)) := Lib.hid (by
          have hl : (⟨S2, [], R2⟩ : PDsk.Dsk).sure.length = 90 := hlen2
          exact tw_repair_any w8 HT5.out.2.1 0 40 (by rw [hl]; omega) (by rw [hl]; omega) (by simp))
        unfold RepPost at HRP
        rcases PTwin.repair_cases HBG.out HBMAY.out HANY.out (R2 : Int) (by omega) with ⟨S5, f5, kk, h1, h2, h3, h4, _, h5⟩ | ⟨_, h2, h3, h4⟩
        · rw [h1] at HRP
          dsimp only at HRP
          have HON := Lib.hid h2
          have HDN : Hid (dn = true → PTwin.New 90 0 40 B S0 S5) := Lib.hid (fun h => h3 (HDONE.out h))
          clear h1 h2 h3 h4 h5 hlen2
          go_wp2_with fail
          refine HRP.out.mono ?_
          rintro e w9 ⟨own9, rfl, hd, hst⟩
          have HT9 := Lib.hid (HT5.out.step hd hst)
          have HPB9 := Lib.hid (HPB5.out.step hst)
          have HWS9 := Lib.hid (HWS5.out.step hst)
          clear hd hst HT5 HPB5 HWS5 HRP
          go_wp2_with fail
          have HF9 : Hid (Calls Try.prog 20 #[.pointer (some ⟨b, 0, none⟩), .int .i64 1048576] w9 fun e w' => e = .returned (.int .i64 0) ∧ (IsDisk w' b ⟨S5, [], 1048576⟩ own9 ∧ Stepped w9 w' own9 own9)) := Lib.hid (fuse_td HT9.out 1048576 (by omega))
          refine HF9.out.mono ?_
          rintro e w10 ⟨rfl, hd, hst⟩
          have HTa := Lib.hid (HT9.out.step hd hst)
          have HPBa := Lib.hid (HPB9.out.step hst)
          have HWSa := Lib.hid (HWS9.out.step hst)
          clear hd hst HT9 HPB9 HWS9 HF9
          have HL5 : Hid (S5.length = 90) := Lib.hid (by
            rcases HON.out with h | h
            · exact h.kept.len
            · exact h.kept.len)
          have HMK5 : Hid (PTwin.sec S5 0 = PTwin.clear) := Lib.hid (by
            rcases HON.out with h | h
            · exact h.mark
            · exact h.mark)
          have HRD5 : Hid (∀ (W : World) (p : Nat), p < 10 → IsDisk W b ⟨S5, [], 1048576⟩ own9 → Calls Try.prog 19 #[.pointer (some ⟨b, 0, none⟩), .int .i64 40, .int .u32 p] W fun e w' => e = .returned (.tuple #[.string ⟨(PTwin.pageAt ⟨S5, [], 1048576⟩ 40 p).toArray⟩, .int .i64 0]) ∧ Below W.heap.size W w') := Lib.hid (fun W p hp hW => readT_any W hW (by show (1048576 : Int) ≠ 0; omega) 40 p (by show 40 + p * 4 + 4 ≤ S5.length; rw [HL5.out]; omega))
          have HWx := Lib.hid (Below.refl w10.heap.size w10)
          go_wp2
          go_loopw [26, 27, 28] (fun ov nv iv wr => ∃ (k : Nat) (o nw : Bool), k ≤ B.length ∧ ov = .bool o ∧ nv = .bool nw ∧ iv = .int .i64 k ∧ Hid (PTwin.Old 90 0 40 B S0 S5 → o = true) ∧ Hid (PTwin.New 90 0 40 B S0 S5 → nw = true) ∧ Hid (Below w10.heap.size w10 wr)) (fun _ _ iv _ => B.length - (intOf iv).toNat)
          case atStart => exact ⟨0, true, true, by omega, rfl, rfl, rfl, Lib.hid (fun _ => rfl), Lib.hid (fun _ => rfl), HWx⟩
          case round =>
            clear HWx
            obtain ⟨k, o, nw, hk, rfl, rfl, rfl, HO, HNW, HB⟩ := hrel
            by_cases hlt : k < B.length
            · have i1 : (k : Int) < B.length := by omega
              have k0 : (0 : Int) ≤ k := by omega
              have HPBb := Lib.hid (HPBa.out.below HB.out)
              have HWSb := Lib.hid (HWSa.out.below HB.out)
              obtain ⟨g, off, rfl, hg, c0, c1⟩ := home_cells (l := B) (c := db) (p := qb) HPBb.out.home hlt
              obtain ⟨gw, ow, cw, hweq⟩ := Sl.some HWSb.out.1 (by omega)
              simp only [Value.slice.injEq] at hweq
              obtain ⟨rfl, _, rfl⟩ := hweq
              obtain ⟨x, hx⟩ : ∃ x, (B[k]'hlt) = x := ⟨_, rfl⟩
              have hxm : x ∈ B := by rw [← hx]; exact List.getElem_mem hlt
              have hcw := HWSb.out.1.cell (j := k) (by rw [List.length_map]; exact hlt)
              rw [List.getElem_map, hx] at hcw
              rw [hx] at c0 c1
              have hp10 : x.page < 10 := HBOK.out.page x hxm
              obtain ⟨X, hX⟩ : ∃ X : ByteArray, (⟨(PTwin.pageAt ⟨S5, [], 1048576⟩ 40 x.page).toArray⟩ : ByteArray) = X := ⟨_, rfl⟩
              obtain ⟨Wk, hWk⟩ : ∃ X : ByteArray, (⟨(rd x.page).toArray⟩ : ByteArray) = X := ⟨_, rfl⟩
              obtain ⟨Bk, hBk⟩ : ∃ X : ByteArray, (⟨x.bytes.toArray⟩ : ByteArray) = X := ⟨_, rfl⟩
              obtain ⟨q1, hq1⟩ : ∃ q : Bool, (X.toList == Wk.toList) = q := ⟨_, rfl⟩
              obtain ⟨q2, hq2⟩ : ∃ q : Bool, (X.toList == Bk.toList) = q := ⟨_, rfl⟩
              have HQ1 : Hid (PTwin.Old 90 0 40 B S0 S5 → q1 = true) := Lib.hid (fun h => by
                have e := PTwin.pageAt_old h 1048576 (-1) hxm
                rw [HRDF.out] at e
                rw [← hq1, ← hX, ← hWk, e]; simp)
              have HQ2 : Hid (PTwin.New 90 0 40 B S0 S5 → q2 = true) := Lib.hid (fun h => by
                have e := PTwin.pageAt_new HBG.out h 1048576 hxm
                rw [← hq2, ← hX, ← hBk, e]; simp)
              have HRP : Hid (Calls Try.prog 19 #[.pointer (some ⟨b, 0, none⟩), .int .i64 40, .int .u32 x.page] wr fun e w' => e = .returned (.tuple #[.string X, .int .i64 0]) ∧ Below wr.heap.size wr w') := Lib.hid (by
                have := HRD5.out wr x.page hp10 (HTa.out.2.1.below HB.out)
                rw [hX] at this
                exact this)
              rw [hWk] at hcw
              rw [hBk] at c1
              generalize x.page = p at *
              have HLT := Lib.hid hlt
              have HCW := Lib.hid hcw
              have HC1 := Lib.hid c1
              have HGL : Hid (g < wr.heap.size ∧ gw < wr.heap.size) := Lib.hid ⟨hg, (HWSb.out.1.lt gw rfl).2⟩
              clear hX hWk hBk hx hxm hlt hcw c1 hg
              go_wp2_with fail
              refine HRP.out.mono ?_
              rintro e w5 ⟨rfl, hbw⟩
              have hcw : w5.cell? ⟨gw, ow + k, none⟩ = some (.string Wk) := (hbw.cell (p := ⟨gw, ow + k, none⟩) HGL.out.2).trans HCW.out
              have hc1 : w5.cell? ⟨g, off + k * 2 + 1, none⟩ = some (.string Bk) := (hbw.cell (p := ⟨g, off + k * 2 + 1, none⟩) HGL.out.1).trans HC1.out
              replace HB := Lib.hid (HB.out.step hbw)
              clear hbw HRP c0 HCW HC1 HGL HPBb HWSb
              cases o <;> cases nw
              · go_wp2
                exact ⟨⟨k + 1, false, false, by have := HLT.out; omega, rfl, rfl, by go_num, HO, HNW, HB⟩, by have := HLT.out; simp [intOf]; omega⟩
              · go_wp2
                exact ⟨⟨k + 1, false, q2, by have := HLT.out; omega, rfl, rfl, by go_num, HO, HQ2, HB⟩, by have := HLT.out; simp [intOf]; omega⟩
              · go_wp2
                exact ⟨⟨k + 1, q1, false, by have := HLT.out; omega, rfl, rfl, by go_num, HQ1, HNW, HB⟩, by have := HLT.out; simp [intOf]; omega⟩
              · go_wp2
                exact ⟨⟨k + 1, q1, q2, by have := HLT.out; omega, rfl, rfl, by go_num, HQ1, HQ2, HB⟩, by have := HLT.out; simp [intOf]; omega⟩
            · obtain rfl : k = B.length := by omega
              have j1 : ¬ (B.length : Int) < B.length := by omega
              have HTb := Lib.hid (HTa.out.below HB.out)
              have HRL : Hid (Calls Try.prog 14 #[.pointer (some ⟨b, 0, none⟩), .int .i64 0, .int .i64 40] wr fun e w' => ∃ own', e = .returned (.tuple #[.int .i64 0, .int .i64 0]) ∧ IsDisk w' b ⟨S5, [], 1048576⟩ own' ∧ Stepped wr w' own9 own') := Lib.hid (by
                have hl : (⟨S5, [], 1048576⟩ : PDsk.Dsk).sure.length = 90 := HL5.out
                have h1 := tw_repair_any wr HTb.out.2.1 0 40 (by rw [hl]; omega) (by rw [hl]; omega) (by simp)
                have h2 : PTwin.repair ⟨S5, [], 1048576⟩ 0 40 = (⟨S5, [], 1048576⟩, 0, 0) := PTwin.rep_clear (by omega) HMK5.out
                unfold RepPost at h1
                rw [h2] at h1
                exact h1)
              have hfin : nw = true ∨ (nw = false ∧ o = true ∧ dn = false) := by
                cases hnw : nw
                · right
                  have hnn : ¬ PTwin.New 90 0 40 B S0 S5 := fun h => by have := HNW.out h; rw [hnw] at this; cases this
                  refine ⟨rfl, ?_, ?_⟩
                  · rcases HON.out with h | h
                    · exact HO.out h
                    · exact absurd h hnn
                  · cases hd : dn
                    · rfl
                    · exact absurd (HDN.out hd) hnn
                · left; rfl
              clear hlt hk HO HNW HON HDN
              rcases hfin with rfl | ⟨rfl, rfl, rfl⟩
              · cases o <;> cases dn
                all_goals (
                  go_wp2_with fail
                  refine HRL.out.mono ?_
                  rintro e w12 ⟨own12, rfl, hd, hst⟩
                  have HTc := Lib.hid (HTb.out.step hd hst)
                  clear hd hst
                  go_wp2_with fail
                  refine (works14_any _).mono ?_
                  rintro e w13 ⟨rfl, hbw⟩
                  have HTd := Lib.hid (HTc.out.below hbw)
                  clear hbw
                  go_wp2
                  go_ret
                  exact ⟨rfl, HTd.out.1⟩)
              · go_wp2_with fail
                refine HRL.out.mono ?_
                rintro e w12 ⟨own12, rfl, hd, hst⟩
                have HTc := Lib.hid (HTb.out.step hd hst)
                clear hd hst
                go_wp2_with fail
                refine (works14_any _).mono ?_
                rintro e w13 ⟨rfl, hbw⟩
                have HTd := Lib.hid (HTc.out.below hbw)
                clear hbw
                go_wp2
                go_ret
                exact ⟨rfl, HTd.out.1⟩
        · obtain ⟨S4, hc4, hany4, hnew4⟩ := h4 ss
          obtain ⟨Q, hQ⟩ : ∃ Q, PTwin.repair ⟨S2, [], R2⟩ 0 40 = Q := ⟨_, rfl⟩
          rw [hQ] at HRP h2 h3 hc4
          obtain ⟨D3, k3, e3⟩ := Q
          dsimp only at HRP h2 h3 hc4
          subst h2
          subst h3
          have HC4 := Lib.hid hc4
          have HANY4 := Lib.hid hany4
          have HNEW4 := Lib.hid hnew4
          clear hQ hc4 hany4 hnew4 h4 hlen2
          go_wp2_with fail
          refine HRP.out.mono ?_
          rintro e wa ⟨owna, rfl, hd, hst⟩
          have HT6 := Lib.hid (HT5.out.step hd hst)
          have HPB6 := Lib.hid (HPB5.out.step hst)
          have HWS6 := Lib.hid (HWS5.out.step hst)
          clear hd hst HT5 HPB5 HWS5 HRP
          have HCR := Lib.hid (crash_td HRS.out HT6.out)
          rw [HC4.out] at HCR
          go_wp2_with fail
          refine HCR.out.mono ?_
          rintro e wb ⟨ownb, rfl, hd, hst⟩
          have HT7 := Lib.hid (HT6.out.step hd hst)
          have HPB7 := Lib.hid (HPB6.out.step hst)
          have HWS7 := Lib.hid (HWS6.out.step hst)
          clear hd hst HT6 HPB6 HWS6 HCR HC4
          have hlen4 : S4.length = 90 := by
            rcases HANY4.out with h | h | h
            · exact h.kept.len
            · exact h.kept.len
            · exact h.kept.len
          have HRP : Hid (Calls Try.prog 14 #[.pointer (some ⟨b, 0, none⟩), .int .i64 0, .int .i64 40] wb (RepPost b ⟨S4, [], -1⟩ 0 40 ownb wb)) := Lib.hid (by
            have hl : (⟨S4, [], -1⟩ : PDsk.Dsk).sure.length = 90 := hlen4
            exact tw_repair_any wb HT7.out.2.1 0 40 (by rw [hl]; omega) (by rw [hl]; omega) (by simp))
          unfold RepPost at HRP
          obtain ⟨S5, f5, kk, h1, h2, h3⟩ : ∃ S5 f5 kk, PTwin.repair ⟨S4, [], -1⟩ 0 40 = (⟨S5, [], f5⟩, kk, 0) ∧ (PTwin.Old 90 0 40 B S0 S5 ∨ PTwin.New 90 0 40 B S0 S5) ∧ (PTwin.New 90 0 40 B S0 S4 → PTwin.New 90 0 40 B S0 S5) := by
            rcases PTwin.repair_cases HBG.out HBMAY.out HANY4.out (-1) (by omega) with ⟨S5, f5, kk, h1, h2, h3, _⟩ | ⟨h, _⟩
            · exact ⟨S5, f5, kk, h1, h2, h3⟩
            · exact absurd rfl h
          rw [h1] at HRP
          dsimp only at HRP
          have HON := Lib.hid h2
          have HDN : Hid (dn = true → PTwin.New 90 0 40 B S0 S5) := Lib.hid (fun h => h3 (HNEW4.out (HDONE.out h)))
          clear h1 h2 h3 hlen4
          go_wp2_with fail
          refine HRP.out.mono ?_
          rintro e w9 ⟨own9, rfl, hd, hst⟩
          have HT9 := Lib.hid (HT7.out.step hd hst)
          have HPB9 := Lib.hid (HPB7.out.step hst)
          have HWS9 := Lib.hid (HWS7.out.step hst)
          clear hd hst HT7 HPB7 HWS7 HRP
          go_wp2_with fail
          have HF9 : Hid (Calls Try.prog 20 #[.pointer (some ⟨b, 0, none⟩), .int .i64 1048576] w9 fun e w' => e = .returned (.int .i64 0) ∧ (IsDisk w' b ⟨S5, [], 1048576⟩ own9 ∧ Stepped w9 w' own9 own9)) := Lib.hid (fuse_td HT9.out 1048576 (by omega))
          refine HF9.out.mono ?_
          rintro e w10 ⟨rfl, hd, hst⟩
          have HTa := Lib.hid (HT9.out.step hd hst)
          have HPBa := Lib.hid (HPB9.out.step hst)
          have HWSa := Lib.hid (HWS9.out.step hst)
          clear hd hst HT9 HPB9 HWS9 HF9
          have HL5 : Hid (S5.length = 90) := Lib.hid (by
            rcases HON.out with h | h
            · exact h.kept.len
            · exact h.kept.len)
          have HMK5 : Hid (PTwin.sec S5 0 = PTwin.clear) := Lib.hid (by
            rcases HON.out with h | h
            · exact h.mark
            · exact h.mark)
          have HRD5 : Hid (∀ (W : World) (p : Nat), p < 10 → IsDisk W b ⟨S5, [], 1048576⟩ own9 → Calls Try.prog 19 #[.pointer (some ⟨b, 0, none⟩), .int .i64 40, .int .u32 p] W fun e w' => e = .returned (.tuple #[.string ⟨(PTwin.pageAt ⟨S5, [], 1048576⟩ 40 p).toArray⟩, .int .i64 0]) ∧ Below W.heap.size W w') := Lib.hid (fun W p hp hW => readT_any W hW (by show (1048576 : Int) ≠ 0; omega) 40 p (by show 40 + p * 4 + 4 ≤ S5.length; rw [HL5.out]; omega))
          have HWx := Lib.hid (Below.refl w10.heap.size w10)
          go_wp2
          go_loopw [26, 27, 28] (fun ov nv iv wr => ∃ (k : Nat) (o nw : Bool), k ≤ B.length ∧ ov = .bool o ∧ nv = .bool nw ∧ iv = .int .i64 k ∧ Hid (PTwin.Old 90 0 40 B S0 S5 → o = true) ∧ Hid (PTwin.New 90 0 40 B S0 S5 → nw = true) ∧ Hid (Below w10.heap.size w10 wr)) (fun _ _ iv _ => B.length - (intOf iv).toNat)
          case atStart => exact ⟨0, true, true, by omega, rfl, rfl, rfl, Lib.hid (fun _ => rfl), Lib.hid (fun _ => rfl), HWx⟩
          case round =>
            clear HWx
            obtain ⟨k, o, nw, hk, rfl, rfl, rfl, HO, HNW, HB⟩ := hrel
            by_cases hlt : k < B.length
            · have i1 : (k : Int) < B.length := by omega
              have k0 : (0 : Int) ≤ k := by omega
              have HPBb := Lib.hid (HPBa.out.below HB.out)
              have HWSb := Lib.hid (HWSa.out.below HB.out)
              obtain ⟨g, off, rfl, hg, c0, c1⟩ := home_cells (l := B) (c := db) (p := qb) HPBb.out.home hlt
              obtain ⟨gw, ow, cw, hweq⟩ := Sl.some HWSb.out.1 (by omega)
              simp only [Value.slice.injEq] at hweq
              obtain ⟨rfl, _, rfl⟩ := hweq
              obtain ⟨x, hx⟩ : ∃ x, (B[k]'hlt) = x := ⟨_, rfl⟩
              have hxm : x ∈ B := by rw [← hx]; exact List.getElem_mem hlt
              have hcw := HWSb.out.1.cell (j := k) (by rw [List.length_map]; exact hlt)
              rw [List.getElem_map, hx] at hcw
              rw [hx] at c0 c1
              have hp10 : x.page < 10 := HBOK.out.page x hxm
              obtain ⟨X, hX⟩ : ∃ X : ByteArray, (⟨(PTwin.pageAt ⟨S5, [], 1048576⟩ 40 x.page).toArray⟩ : ByteArray) = X := ⟨_, rfl⟩
              obtain ⟨Wk, hWk⟩ : ∃ X : ByteArray, (⟨(rd x.page).toArray⟩ : ByteArray) = X := ⟨_, rfl⟩
              obtain ⟨Bk, hBk⟩ : ∃ X : ByteArray, (⟨x.bytes.toArray⟩ : ByteArray) = X := ⟨_, rfl⟩
              obtain ⟨q1, hq1⟩ : ∃ q : Bool, (X.toList == Wk.toList) = q := ⟨_, rfl⟩
              obtain ⟨q2, hq2⟩ : ∃ q : Bool, (X.toList == Bk.toList) = q := ⟨_, rfl⟩
              have HQ1 : Hid (PTwin.Old 90 0 40 B S0 S5 → q1 = true) := Lib.hid (fun h => by
                have e := PTwin.pageAt_old h 1048576 (-1) hxm
                rw [HRDF.out] at e
                rw [← hq1, ← hX, ← hWk, e]; simp)
              have HQ2 : Hid (PTwin.New 90 0 40 B S0 S5 → q2 = true) := Lib.hid (fun h => by
                have e := PTwin.pageAt_new HBG.out h 1048576 hxm
                rw [← hq2, ← hX, ← hBk, e]; simp)
              have HRP : Hid (Calls Try.prog 19 #[.pointer (some ⟨b, 0, none⟩), .int .i64 40, .int .u32 x.page] wr fun e w' => e = .returned (.tuple #[.string X, .int .i64 0]) ∧ Below wr.heap.size wr w') := Lib.hid (by
                have := HRD5.out wr x.page hp10 (HTa.out.2.1.below HB.out)
                rw [hX] at this
                exact this)
              rw [hWk] at hcw
              rw [hBk] at c1
              generalize x.page = p at *
              have HLT := Lib.hid hlt
              have HCW := Lib.hid hcw
              have HC1 := Lib.hid c1
              have HGL : Hid (g < wr.heap.size ∧ gw < wr.heap.size) := Lib.hid ⟨hg, (HWSb.out.1.lt gw rfl).2⟩
              clear hX hWk hBk hx hxm hlt hcw c1 hg
              go_wp2_with fail
              refine HRP.out.mono ?_
              rintro e w5 ⟨rfl, hbw⟩
              have hcw : w5.cell? ⟨gw, ow + k, none⟩ = some (.string Wk) := (hbw.cell (p := ⟨gw, ow + k, none⟩) HGL.out.2).trans HCW.out
              have hc1 : w5.cell? ⟨g, off + k * 2 + 1, none⟩ = some (.string Bk) := (hbw.cell (p := ⟨g, off + k * 2 + 1, none⟩) HGL.out.1).trans HC1.out
              replace HB := Lib.hid (HB.out.step hbw)
              clear hbw HRP c0 HCW HC1 HGL HPBb HWSb
              cases o <;> cases nw
              · go_wp2
                exact ⟨⟨k + 1, false, false, by have := HLT.out; omega, rfl, rfl, by go_num, HO, HNW, HB⟩, by have := HLT.out; simp [intOf]; omega⟩
              · go_wp2
                exact ⟨⟨k + 1, false, q2, by have := HLT.out; omega, rfl, rfl, by go_num, HO, HQ2, HB⟩, by have := HLT.out; simp [intOf]; omega⟩
              · go_wp2
                exact ⟨⟨k + 1, q1, false, by have := HLT.out; omega, rfl, rfl, by go_num, HQ1, HNW, HB⟩, by have := HLT.out; simp [intOf]; omega⟩
              · go_wp2
                exact ⟨⟨k + 1, q1, q2, by have := HLT.out; omega, rfl, rfl, by go_num, HQ1, HQ2, HB⟩, by have := HLT.out; simp [intOf]; omega⟩
            · obtain rfl : k = B.length := by omega
              have j1 : ¬ (B.length : Int) < B.length := by omega
              have HTb := Lib.hid (HTa.out.below HB.out)
              have HRL : Hid (Calls Try.prog 14 #[.pointer (some ⟨b, 0, none⟩), .int .i64 0, .int .i64 40] wr fun e w' => ∃ own', e = .returned (.tuple #[.int .i64 0, .int .i64 0]) ∧ IsDisk w' b ⟨S5, [], 1048576⟩ own' ∧ Stepped wr w' own9 own') := Lib.hid (by
                have hl : (⟨S5, [], 1048576⟩ : PDsk.Dsk).sure.length = 90 := HL5.out
                have h1 := tw_repair_any wr HTb.out.2.1 0 40 (by rw [hl]; omega) (by rw [hl]; omega) (by simp)
                have h2 : PTwin.repair ⟨S5, [], 1048576⟩ 0 40 = (⟨S5, [], 1048576⟩, 0, 0) := PTwin.rep_clear (by omega) HMK5.out
                unfold RepPost at h1
                rw [h2] at h1
                exact h1)
              have hfin : nw = true ∨ (nw = false ∧ o = true ∧ dn = false) := by
                cases hnw : nw
                · right
                  have hnn : ¬ PTwin.New 90 0 40 B S0 S5 := fun h => by have := HNW.out h; rw [hnw] at this; cases this
                  refine ⟨rfl, ?_, ?_⟩
                  · rcases HON.out with h | h
                    · exact HO.out h
                    · exact absurd h hnn
                  · cases hd : dn
                    · rfl
                    · exact absurd (HDN.out hd) hnn
                · left; rfl
              clear hlt hk HO HNW HON HDN
              rcases hfin with rfl | ⟨rfl, rfl, rfl⟩
              · cases o <;> cases dn
                all_goals (
                  go_wp2_with fail
                  refine HRL.out.mono ?_
                  rintro e w12 ⟨own12, rfl, hd, hst⟩
                  have HTc := Lib.hid (HTb.out.step hd hst)
                  clear hd hst
                  go_wp2_with fail
                  refine (works14_any _).mono ?_
                  rintro e w13 ⟨rfl, hbw⟩
                  have HTd := Lib.hid (HTc.out.below hbw)
                  clear hbw
                  go_wp2
                  go_ret
                  exact ⟨rfl, HTd.out.1⟩)
              · go_wp2_with fail
                refine HRL.out.mono ?_
                rintro e w12 ⟨own12, rfl, hd, hst⟩
                have HTc := Lib.hid (HTb.out.step hd hst)
                clear hd hst
                go_wp2_with fail
                refine (works14_any _).mono ?_
                rintro e w13 ⟨rfl, hbw⟩
                have HTd := Lib.hid (HTc.out.below hbw)
                clear hbw
                go_wp2
                go_ret
                exact ⟨rfl, HTd.out.1⟩
end Go.Proofs.Ytdkhmhlphhammaa
