/-
  Twin: the walk of TwinRepairs.
-/
import Derived.Test.YtdkhmhlphhammaaTwRl
namespace Go
theorem run_copy_str {P : Program} (w : World) (dT sT ty elem : TypeId) (b o n cap : Nat) (t : ByteArray)
    (hu : P.underlying dT = some (.slice elem)) (hz : (P.info? elem).map (·.size) = some 1) (hth : w.there b o n) :
    (Builtin.copy_ #[dT, sT] ty #[.slice (some ⟨b, o, none⟩) n cap, .string t]).run P w = .ok (goInt (Nat.min t.size n)) (w.setCells b o (bytesV (t.data.toList.take n))) := by
  have hl : (bytesV (t.data.toList.take n)).length ≤ n := by rw [bytesV_length, List.length_take]; omega
  have hst := run_storeCells_cells (P := P) b o (bytesV (t.data.toList.take n)) 0 w (fun j hj => by simpa using (hth j (by omega)).1) (fun j hj => by simpa using (hth j (by omega)).2) (bytesV_one _)
  have hm : List.take (Nat.min t.size n) (t.data.toList.map fun x => Value.int .u8 (x.toNat : Int)) = bytesV (t.data.toList.take n) := by
    unfold bytesV
    rw [← List.map_take]
    congr 1
    have e : t.data.toList.length = t.size := by simp
    by_cases h : t.size ≤ n
    · rw [show Nat.min t.size n = t.size from Nat.min_eq_left h, List.take_of_length_le (by omega), List.take_of_length_le (by omega)]
    · rw [show Nat.min t.size n = n from Nat.min_eq_right (by omega)]
  cases hq : P.info? elem with
  | none => simp [hq] at hz
  | some i =>
    simp [Builtin.copy_, run_underlying hu, Builtin.lenOf, Builtin.firstCells, sizeOf, typeInfo, hq]
    rw [hm, hst]
    simp [Result.andThen]
theorem wpList_copy_str {P : Program} {dT sT elem : TypeId} (hu : P.underlying dT = some (.slice elem)) (hz : (P.info? elem).map (·.size) = some 1) {ops : Array Oper} {rest : List Oper} {o : Oper} {a : Act} {w : World} {Q : Exit → Act → World → Prop} {d x : Operand} {g off n c : Nat} {t : ByteArray}
    (hgd : o.guard = none) (ho : o.op = .call { callee := .builtin .copy, args := #[d, x], argTypes := #[dT, sT] }) (hd : a.eval d = .slice (some ⟨g, off, none⟩) n c) (hx : a.eval x = .string t) (hth : w.there g off n)
    (h : wpList P ops Q rest (a.put o.dst (goInt (Nat.min t.size n))) (w.setCells g off (bytesV (t.data.toList.take n)))) : wpList P ops Q (o :: rest) a w := by
  refine wpList_plain hgd fun K hK => ?_
  have hr := run_copy_str (P := P) w dT sT o.type elem g off n c t hu hz hth
  unfold Oper.wp execOp
  simp only [ho, resolve, invoke, builtin, Sem.run_bind, Sem.run_pure, Result.andThen_ok, List.map_toArray, List.map_cons, List.map_nil, hd, hx, hr]
  exact hK _ _ h
end Go
namespace Go.Proofs.Ytdkhmhlphhammaa
open Go.RowKit
open PTwin (Hm Pt Cal)
theorem size_u8 : (Try.prog.info? 5).map (·.size) = some 1 := by kernel_rfl
theorem sec_sl (w1 : World) (base : Nat) (hb : base ≤ w1.heap.size) (t : ByteArray) : ∃ l : List UInt8, l.length = 128 ∧ Sl ((w1.alloc (.cells (madeB 128) 5)).setCells w1.heap.size 0 (bytesV (t.data.toList.take 128))) base 5 1 (.slice (some ⟨w1.heap.size, 0, none⟩) 128 128) 128 (bytesV l) := by
  have hS := Sl.of_made w1 base hb 5 128 (by unfold maxLen; omega)
  have hlen : (bytesV (t.data.toList.take 128)).length ≤ 128 := by rw [bytesV_length, List.length_take]; omega
  have h := Sl.setCells (bytesV (t.data.toList.take 128)) 0 _ _ hS (by omega)
  rw [List.take_zero, List.nil_append, Nat.zero_add, Nat.zero_add] at h
  refine ⟨t.data.toList.take 128 ++ (List.replicate 128 0).drop (t.data.toList.take 128).length, by simp; omega, ?_⟩
  rw [bytesV_append]
  have e : bytesV ((List.replicate 128 (0 : UInt8)).drop (t.data.toList.take 128).length) = (bytesV (List.replicate 128 0)).drop (bytesV (t.data.toList.take 128)).length := by
    rw [bytesV_length]; unfold bytesV; rw [List.map_drop]
  rw [e]
  exact h
theorem sec_there (w1 : World) : (w1.alloc (.cells (madeB 128) 5)).there w1.heap.size 0 128 := by
  have hS := Sl.of_made w1 w1.heap.size (Nat.le_refl _) 5 128 (by unfold maxLen; omega)
  exact Sl.there hS (a := 0) (m := 128) (by omega)
theorem below_setCells {B : Nat} {w0 w : World} {g : Nat} (h : Below B w0 w) (hg : B ≤ g) : ∀ (vs : List Value) (o : Nat), Below B w0 (w.setCells g o vs) := by
  intro vs
  induction vs generalizing w with
  | nil => intro o; exact h
  | cons v vs ih => intro o; exact ih (h.setCell (p := ⟨g, o, none⟩) hg v) (o + 1)
theorem ring_td {w W : World} {b : Nat} {S : List (List UInt8)} {own : List Nat} (ht : Td w W b ⟨S, [], -1⟩ own) (hl : S.length = 90) :
    Calls Try.prog 12 #[.pointer (some ⟨b, 0, none⟩)] W fun e w' => ∃ v, e = .returned v ∧ Sl w' W.heap.size 9 1 v 90 (secV S) ∧ Below W.heap.size W w' := by
  have h := ring_any W ht.2.1 (by show (-1 : Int) ≠ 0; omega) (by show S.length ≤ 16384; omega)
  have e : rows ⟨S, [], -1⟩ S.length = S := PTwin.rows_sec S (-1)
  rw [show (⟨S, [], -1⟩ : PDsk.Dsk).sure.length = S.length from rfl, e, hl] at h
  exact h
theorem write_td {w W : World} {b : Nat} {D : PDsk.Dsk} {own : List Nat} (ht : Td w W b D own) (hf : D.fuse = -1) (hn : D.sure.length = 90) (hl : D.loose.length ≤ 1000) (k : Nat) (hk : k < 90) (t : ByteArray) (hs : t.size = 128) :
    Calls Try.prog 9 #[.pointer (some ⟨b, 0, none⟩), .int .i64 k, .string t] W fun e w' => ∃ own' D', e = .returned (.int .i64 0) ∧ IsDisk w' b D' own' ∧ Stepped W w' own own' ∧ (D'.fuse = -1 ∧ D'.sure.length = 90 ∧ D'.loose.length = D.loose.length + 1) := by
  obtain ⟨D', h1, h2⟩ := PTwin.write_done hf hn hk (s := t.data.toList) (by rw [Array.length_toList]; exact hs)
  have h := write_any W ht.2.1 (k : Int) t (by rw [hs]; unfold maxLen; omega) (by omega) (by omega) (by omega)
  rw [h1] at h
  refine h.mono ?_
  rintro e w' ⟨own', he, hd, hst⟩
  exact ⟨own', D', he, hd, hst, h2⟩
theorem sync_td {w W : World} {b : Nat} {D : PDsk.Dsk} {own : List Nat} (ht : Td w W b D own) (hf : D.fuse = -1) (hn : D.sure.length = 90) :
    Calls Try.prog 11 #[.pointer (some ⟨b, 0, none⟩)] W fun e w' => ∃ own' S, e = .returned (.int .i64 0) ∧ IsDisk w' b ⟨S, [], -1⟩ own' ∧ Stepped W w' own own' ∧ S.length = 90 := by
  obtain ⟨S, h1, h2⟩ := PTwin.sync_done hf hn
  have h := sync_any W ht.2.1
  rw [h1] at h
  refine h.mono ?_
  rintro e w' ⟨own', he, hd, hst⟩
  exact ⟨own', S, he, hd, hst, h2⟩
theorem rmark_length (ps : List Nat) (h : ps.length ≤ 8) : (PTwin.rmark ps).length = 128 := by
  unfold PTwin.rmark
  split
  · exact List.length_replicate
  · exact PTwin.mark_length h
theorem loose_td {w W : World} {b : Nat} {S : List (List UInt8)} {own : List Nat} (ht : Td w W b ⟨S, [], -1⟩ own) : Calls Try.prog 17 #[.pointer (some ⟨b, 0, none⟩)] W fun e w' => e = .returned (.int .i64 0) ∧ W = w' := loose_any W ht.2.1
set_option maxRecDepth 20000 in
set_option maxHeartbeats 16000000 in
theorem twinRepairs_ok (w : World) (mk : ByteArray) (vn vl : Value) (ps : List Nat) (ow : Bool) (lb : List Pt) (hmk : mk.size ≤ 200) (hps : ps.length ≤ 12) (hpp : ∀ p ∈ ps, p < 4294967296) (hvn : Rd w vn (u32V ps)) (hlb : lb.length ≤ 12) (hb : PutIn w vl lb) (hkb : ∀ x ∈ lb, x.Ok) :
    Calls Try.prog 3 #[.string mk, vn, .bool ow, vl] w fun e w' => e = .returned (.bool true) ∧ Below w.heap.size w w' := by
  have HVN := Lib.hid hvn
  have HLB := Lib.hid hb
  have HKB := Lib.hid hkb
  have HPP := Lib.hid hpp
  have hlu : (u32V ps).length = ps.length := by simp [u32V]
  obtain ⟨pb, cb, rfl, hcb, hcbm⟩ := RdS.form hb
  obtain ⟨pn, cn, rfl, k2, k3, _⟩ := hvn
  rw [hlu] at HVN k2 ⊢
  have t1 : ¬ (200 : Int) < mk.size := by omega
  have t2 : ¬ (12 : Int) < ps.length := by omega
  have t3 : ¬ (12 : Int) < lb.length := by omega
  have HN := Lib.hid (show Calls Try.prog 7 #[.int .i64 90] w fun e w' => ∃ b own, e = .returned (.tuple #[.pointer (some ⟨b, 0, none⟩), .int .i64 0]) ∧ Td w w' b (PDsk.new 90) own from new_pos 90 (by omega) (by omega) w)
  unfold maxLen at hcbm k3
  clear hb hkb hpp hlu
  go_enter Try.func3, Try.ntmps3
  go_wp2_with fail
  refine HN.out.mono ?_
  rintro e w1 ⟨b, own, rfl, ht⟩
  have HT1 := Lib.hid ht
  clear ht HN
  go_wp2_with fail
  refine (pages_any _ lb _ (by omega) HKB.out (RdS.step HLB.out HT1.out.1)).mono ?_
  rintro e w2 ⟨ub, rfl, hsl, hbw⟩
  have HPB : Hid (Pg w w2 own ub (PTwin.pagesL lb)) := Lib.hid ⟨hsl.base_le HT1.out.1.size, Sl.apart HT1.out hsl⟩
  have HT2 := Lib.hid (HT1.out.below hbw)
  clear hsl hbw HT1
  have HBOK := Lib.hid (PTwin.pagesL_ok lb)
  generalize PTwin.pagesL lb = H at *
  obtain ⟨qb, db, rfl⟩ := Sl.form HPB.out.1
  have hb8 := HBOK.out.len
  have HD0 : Hid ((PDsk.new 90).fuse = -1 ∧ (PDsk.new 90).sure.length = 90 ∧ (PDsk.new 90).loose.length = 4 * 0) := Lib.hid ⟨rfl, by simp [PDsk.new], rfl⟩
  generalize PDsk.new 90 = DN at *
  clear HLB HKB
  go_wp2
  go_loopw [12] (fun iv wr => ∃ (i : Nat) (own' : List Nat) (D : PDsk.Dsk), i ≤ H.length ∧ iv = .int .i64 i ∧ Hid (Td w wr b D own') ∧ Hid (D.fuse = -1 ∧ D.sure.length = 90 ∧ D.loose.length = 4 * i) ∧ Hid (Pg w wr own' (.slice qb H.length db) H)) (fun iv _ => H.length - (intOf iv).toNat)
  case atStart => exact ⟨0, own, DN, by omega, rfl, HT2, HD0, HPB⟩
  case round =>
    clear HT2 HD0 HPB
    obtain ⟨i, own2, D, hi, rfl, HT, HD, HPG⟩ := hrel
    by_cases hlt : i < H.length
    · have i1 : (i : Int) < H.length := by omega
      have HLT := Lib.hid hlt
      clear hi hlt
      go_wp2
      go_loopw [13] (fun kv wr => ∃ (k : Nat) (own' : List Nat) (D : PDsk.Dsk), k ≤ 4 ∧ kv = .int .i64 k ∧ Hid (Td w wr b D own') ∧ Hid (D.fuse = -1 ∧ D.sure.length = 90 ∧ D.loose.length = 4 * i + k) ∧ Hid (Pg w wr own' (.slice qb H.length db) H)) (fun kv _ => 4 - (intOf kv).toNat)
      case atStart => exact ⟨0, own2, D, by omega, rfl, HT, HD, HPG⟩
      case round =>
        clear HT HD HPG D own2
        obtain ⟨k, own2, D, hk, rfl, HT, HD, HPG⟩ := hrel
        by_cases hk4 : k < 4
        · have j1 : (k : Int) < 4 := by omega
          have j0 : (0 : Int) ≤ k := by omega
          have i0 : (0 : Int) ≤ i := by omega
          obtain ⟨g, off, hqb, hg, d0, d1⟩ := home_cells (l := H) (c := db) (p := qb) HPG.out.home HLT.out
          subst hqb
          obtain ⟨Bt, hBt⟩ : ∃ Bt : ByteArray, (⟨(H[i]'HLT.out).bytes.toArray⟩ : ByteArray) = Bt := ⟨_, rfl⟩
          have hbs : Bt.size = 512 := by rw [← hBt, size_mk]; exact HBOK.out.bytes _ (List.getElem_mem HLT.out)
          rw [hBt] at d1
          obtain ⟨Q, hQ⟩ : ∃ Q : Nat, i * 4 = Q := ⟨_, rfl⟩
          obtain ⟨A, hA⟩ : ∃ A : Nat, 4 + Q = A := ⟨_, rfl⟩
          obtain ⟨K, hK⟩ : ∃ K : Nat, A + k = K := ⟨_, rfl⟩
          obtain ⟨X, hX⟩ : ∃ X : Nat, k * 128 = X := ⟨_, rfl⟩
          obtain ⟨J, hJ⟩ : ∃ J : Nat, k + 1 = J := ⟨_, rfl⟩
          obtain ⟨Y, hY⟩ : ∃ Y : Nat, J * 128 = Y := ⟨_, rfl⟩
          have hlen := HLT.out
          have w1 : IntKind.i64.wrap ((i : Int) * 4) = Q := by rw [IntWalk.i64_in _ (by omega)]; omega
          have w2 : IntKind.i64.wrap (4 + (Q : Int)) = A := by rw [IntWalk.i64_in _ (by omega)]; omega
          have w3 : IntKind.i64.wrap ((A : Int) + k) = K := by rw [IntWalk.i64_in _ (by omega)]; omega
          have w4 : IntKind.i64.wrap ((k : Int) * 128) = X := by rw [IntWalk.i64_in _ (by omega)]; omega
          have w5 : IntKind.i64.wrap ((k : Int) + 1) = J := by rw [IntWalk.i64_in _ (by omega)]; omega
          have w6 : IntKind.i64.wrap ((J : Int) * 128) = Y := by rw [IntWalk.i64_in _ (by omega)]; omega
          have s0 : (0 : Int) ≤ X := by omega
          have s1 : (X : Int) ≤ Y := by omega
          have s2 : (Y : Int) ≤ Bt.size := by omega
          have s3 : (0 : Int) ≤ Y := by omega
          have n1 : X ≤ Y := by omega
          have n2 : Y ≤ Bt.size := by omega
          have HWR := Lib.hid (write_td HT.out HD.out.1 HD.out.2.1 (by have := HD.out.2.2; omega) K (by omega) (Bt.extract X Y) (by rw [ByteArray.size_extract]; omega))
          have HJ : Hid (J = k + 1 ∧ k < 4) := Lib.hid ⟨by omega, hk4⟩
          clear hlen hQ hA hK hX hJ hY hk4 hk hbs hBt d0 hg
          go_wp2_with fail
          refine HWR.out.mono ?_
          rintro e w3 ⟨own3, D3, rfl, hd, hst, hd3⟩
          have HT3 := Lib.hid (HT.out.step hd hst)
          have HP3 := Lib.hid (HPG.out.step hst)
          have HD3 : Hid (D3.fuse = -1 ∧ D3.sure.length = 90 ∧ D3.loose.length = 4 * i + J) := Lib.hid ⟨hd3.1, hd3.2.1, by have := HD.out.2.2; have := HJ.out.1; omega⟩
          clear hd hst hd3 HT HPG HWR HD
          go_wp2
          exact ⟨⟨J, own3, D3, by have := HJ.out; omega, rfl, HT3, HD3, HP3⟩, by have := HJ.out; simp [intOf]; omega⟩
        · have j1 : ¬ (k : Int) < 4 := by omega
          have HDN : Hid (D.fuse = -1 ∧ D.sure.length = 90 ∧ D.loose.length = 4 * (i + 1)) := Lib.hid (by have := HD.out; refine ⟨this.1, this.2.1, ?_⟩; omega)
          clear hk4 hk HD
          go_wp2
          exact ⟨⟨i + 1, own2, D, by have := HLT.out; omega, by go_num, HT, HDN, HPG⟩, by have := HLT.out; simp [intOf]; omega⟩
    · have i1 : ¬ (i : Int) < H.length := by omega
      have HDL : Hid (D.loose.length ≤ 1000) := Lib.hid (by have := HD.out.2.2; omega)
      have hmkb : ∀ w, (Instr.makeSlice 35 (.int .i64 128) (.int .i64 128)).run Try.prog w = .ok (.slice (some ⟨w.heap.size, 0, none⟩) 128 128) (w.alloc (.cells (madeB 128) 5)) := fun w => make_bytes 128 (by omega) w
      have HTH := Lib.hid (sec_there wr)
      obtain ⟨l, hl, hS⟩ := sec_sl wr w.heap.size HT.out.1.size mk
      have hcv := conv_sl hS
      have HBB := Lib.hid (below_setCells ((Below.refl wr.heap.size wr).alloc (Nat.le_refl _) (.cells (madeB 128) 5)) (Nat.le_refl _) (bytesV ((mk).data.toList.take 128)) 0)
      obtain ⟨T, hT⟩ : ∃ T : ByteArray, (⟨l.toArray⟩ : ByteArray) = T := ⟨_, rfl⟩
      have HTS : Hid (T.size = 128) := Lib.hid (by rw [← hT, size_mk]; exact hl)
      rw [hT] at hcv
      have HT2 := Lib.hid (HT.out.below HBB.out)
      clear hl hS hT hlt hi HPG HBOK HT HBB
      go_wp2_with (with_reducible refine wpList_copy_str Try.underlying35 size_u8 rfl rfl rfl rfl HTH.out ?_)
      rotate_left 1
      rotate_right 1
      (refine (rmark_any _ ps _ (by omega) HPP.out (Rd.below HVN.out HT2.out.1)).mono ?_
       rintro e w3 ⟨rfl, hbw⟩
       replace HT2 := Lib.hid (HT2.out.below hbw)
       replace HTS : Hid ((⟨(PTwin.rmark ps).toArray⟩ : ByteArray).size = 128) := Lib.hid (by rw [size_mk]; exact rmark_length ps (by omega))
       clear hbw hcv
       generalize (⟨(PTwin.rmark ps).toArray⟩ : ByteArray) = T2 at *
       go_wp2_with fail)
      all_goals (
        have HWR := Lib.hid (write_td HT2.out HD.out.1 HD.out.2.1 HDL.out 3 (by omega) _ HTS.out)
        refine HWR.out.mono ?_
        rintro e w4 ⟨own3, D3, rfl, hd, hst, hd3⟩
        have HT3 := Lib.hid (HT2.out.step hd hst)
        have HD3 := Lib.hid hd3
        clear hd hst hd3 HT2 HWR HD HDL HTS
        go_wp2_with fail
        refine (sync_td HT3.out HD3.out.1 HD3.out.2.1).mono ?_
        rintro e w5 ⟨own4, S, rfl, hd, hst, hS⟩
        have HT4 := Lib.hid (HT3.out.step hd hst)
        have HSL := Lib.hid hS
        clear hd hst hS HT3 HD3
        go_wp2_with fail
        refine (ring_td HT4.out HSL.out).mono ?_
        rintro e w6 ⟨v1, rfl, hsl, hbw⟩
        have HW1 : Hid (Ws w w6 own4 v1 90 (secV S)) := Lib.hid ⟨hsl.base_le HT4.out.1.size, Sl.apart HT4.out hsl⟩
        have HT5 := Lib.hid (HT4.out.below hbw)
        clear hsl hbw HT4
        have HRR := Lib.hid (rrepair_any w6 S 3 40 v1 (by rw [HSL.out]; omega) HT5.out.2.1.1.2.2.1 (by rw [HSL.out]; omega) (by rw [HSL.out]; omega) (Rd.of_sl HW1.out.1))
        have HPR := Lib.hid (PTwin.repair_rrep S 3 40 (by rw [HSL.out]; omega) (by rw [HSL.out]; omega))
        have HRO := Lib.hid (PTwin.rrep_ok S 3 40 (by rw [HSL.out]; omega) (by rw [HSL.out]; omega))
        have HRP := Lib.hid (fun (W : World) (own : List Nat) (h : IsDisk W b ⟨S, [], -1⟩ own) => tw_repair_any W h 3 40 (by show 3 + 33 ≤ S.length; rw [HSL.out]; omega) (by show 40 ≤ S.length; rw [HSL.out]; omega) (by simp))
        unfold RRPost at HRR
        unfold RepPost at HRP
        rw [HPR.out] at HRP
        clear HPR
        generalize PTwin.rrep S 3 40 = R at *
        obtain ⟨cs, nn, ce⟩ := R
        dsimp only at HRR HRO HRP
        have HS2L : Hid ((PTwin.playsC S cs).length = 90) := Lib.hid (by rw [PTwin.playsC_length]; exact HSL.out)
        have HPL := Lib.hid (fun (W : World) (u v : Value) (hu : Rd W u (secV S)) (hv : RdS W 2 v cs.length (callsV cs)) => plays_any W S cs u v (by rw [HSL.out]; omega) (by rw [HSL.out]; omega) HRO.out.2 HRO.out.1 hu hv)
        rw [HSL.out] at HPL
        generalize PTwin.playsC S cs = S2 at *
        go_wp2_with fail
        refine HRR.out.mono ?_
        rintro e w7 ⟨u, rfl, hsl, hbw⟩
        have HCS : Hid (Sl w7 w.heap.size 79 2 u cs.length (callsV cs) ∧ Ap own4 u) := Lib.hid ⟨hsl.base_le HT5.out.1.size, Sl.apart HT5.out hsl⟩
        have HT6 := Lib.hid (HT5.out.below hbw)
        have HW2 := Lib.hid (HW1.out.below hbw)
        clear hsl hbw HT5 HW1 HRR
        go_wp2_with fail
        refine (HRP.out _ _ HT6.out.2.1).mono ?_
        rintro e w8 ⟨own5, rfl, hd, hst⟩
        have HT7 := Lib.hid (HT6.out.step hd hst)
        have HW3 := Lib.hid (HW2.out.step hst)
        have HCS2 : Hid (Sl w8 w.heap.size 79 2 u cs.length (callsV cs) ∧ Ap own5 u) := Lib.hid (Sl.stepped HCS.out.1 HCS.out.2 hst)
        clear hd hst HT6 HW2 HCS HRP
        go_wp2_with fail
        refine (tw_repair_no _ HT7.out.2.1 80 40 (by omega) (by show S2.length < 80 + 33; rw [HS2L.out]; omega)).mono ?_
        rintro e w9 ⟨rfl, rfl⟩
        go_wp2_with fail
        refine (tw_repair_nil 3 40 _).mono ?_
        rintro e w9 ⟨rfl, rfl⟩
        go_wp2_with fail
        refine (ring_td HT7.out HS2L.out).mono ?_
        rintro e w10 ⟨v2, rfl, hsl, hbw⟩
        have HR2 := Lib.hid (Rd.of_sl hsl)
        have HT8 := Lib.hid (HT7.out.below hbw)
        have HPP2 := Lib.hid (HPL.out w10 v1 u (Rd.of_sl (HW3.out.below hbw).1) (RdS.of_sl (HCS2.out.1.keep (fun j e => hbw.block j (HCS2.out.1.lt j e).2))))
        clear hsl hbw HT7 HW3 HCS2 HPL
        go_wp2_with fail
        refine HPP2.out.mono ?_
        rintro e w11 ⟨x, rfl, hsl, hbw⟩
        have HSM := Lib.hid (same_any14 w11 S2 v2 x (Rd.below HR2.out hbw) (Rd.of_sl hsl))
        have HT9 := Lib.hid (HT8.out.below hbw)
        clear hsl hbw HT8 HR2 HPP2
        go_wp2_with fail
        refine HSM.out.mono ?_
        rintro e w12 ⟨rfl, hbw⟩
        have HT10 := Lib.hid (HT9.out.below hbw)
        clear hbw HT9 HSM
        go_wp2_with fail
        refine (loose_td HT10.out).mono ?_
        rintro e w13 ⟨rfl, rfl⟩
        go_wp2_with fail
        refine (works14_any _).mono ?_
        rintro e w14 ⟨rfl, hbw⟩
        have HTZ := Lib.hid (HT10.out.below hbw)
        clear hbw HT10
        go_wp2
        go_ret
        exact ⟨rfl, HTZ.out.1⟩)
end Go.Proofs.Ytdkhmhlphhammaa
