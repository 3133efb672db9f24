/-
  Log: what a stretch's sector has.
-/
import Derived.Test.YtjnggldalggfnaaLog9
namespace PDsk
theorem now_length {D : Dsk} (h : D.Ok) {k : Nat} (hk : k < D.sure.length) : (now D k).length = 128 := by
  unfold now
  split
  · rename_i p hp
    have := List.mem_of_find?_eq_some hp
    exact (h.2.2.2.1 p (List.mem_reverse.1 this)).2
  · rw [List.getD_eq_getElem?_getD, List.getElem?_eq_getElem hk]
    exact h.2.2.1 _ (List.getElem_mem hk)
theorem read_now {D : Dsk} (hf : D.fuse ≠ 0) {k : Nat} (hk : k < D.sure.length) : read D k = (now D k, 0) := by
  unfold read
  rw [if_neg hf, if_neg (by omega), Int.toNat_natCast]
end PDsk
namespace PLog
theorem get_lt (s : List UInt8) (p : Int) (k : Nat) (hk : k ≤ 8) : (PWord.get s p k).1 < 256 ^ k := by
  unfold PWord.get
  split
  · rename_i h
    simp only [Bool.and_eq_true, decide_eq_true_eq] at h
    unfold PWord.inside at h
    simp only [Bool.and_eq_true, decide_eq_true_eq] at h
    have := PWord.val_lt k (List.take (k : Int).toNat (List.drop p.toNat s)) (by rw [List.length_take, List.length_drop]; omega)
    simpa using this
  · exact Nat.pow_pos (by decide)
end PLog
namespace Go.Proofs.Ytjnggldalggfnaa
open Go.RowKit
theorem sector_cells {g pl n : Nat} (w : World) (c1 : w.cell? ⟨g, 1, none⟩ = some (.int .i64 pl)) (c2 : w.cell? ⟨g, 2, none⟩ = some (.int .i64 n)) (hn : 4 ≤ n) (hn5 : n ≤ 4096) (hp : pl + n ≤ 16384) (x : Nat) (hx : x ≤ 9000000000000000000) :
    Calls Try.prog 61 #[.pointer (some ⟨g, 0, none⟩), .int .u64 x] w fun e w' => e = .returned (.int .i64 (PLog.sec pl n x : Nat)) ∧ Below w.heap.size w w' := by
  have hs := PLog.sec_lt (pl := pl) (x := x) (show 0 < n by omega)
  have e : ((PLog.sec pl n x : Nat) : Int) = (pl : Int) + (x : Int) / 110 % n := by unfold PLog.sec; simp
  obtain ⟨S, hS⟩ : ∃ S, PLog.sec pl n x = S := ⟨_, rfl⟩
  rw [hS] at e
  rw [hS] at hs
  rw [hS]
  have w1 : IntKind.u64.wrap (n : Int) = n := IntWalk.u64_in _ (by omega)
  have z : ¬ (n : Int) = 0 := by omega
  obtain ⟨Q, hQ⟩ : ∃ Q : Nat, (x : Int) / 110 = Q := ⟨x / 110, by omega⟩
  obtain ⟨R, hR⟩ : ∃ R : Nat, (Q : Int) % n = R := ⟨Q % n, by omega⟩
  have hRn : (R : Int) < n := by rw [← hR]; exact Int.emod_lt_of_pos _ (by omega)
  have t1 : (x : Int).tdiv 110 = Q := by rw [Int.tdiv_eq_ediv_of_nonneg (by omega)]; exact hQ
  have t2 : (Q : Int).tmod n = R := by rw [Int.tmod_eq_emod_of_nonneg (by omega)]; exact hR
  have w2 : IntKind.i64.wrap (R : Int) = R := IntWalk.i64_in _ (by omega)
  have w4 : IntKind.u64.wrap (Q : Int) = Q := IntWalk.u64_in _ (by omega)
  have w3 : IntKind.i64.wrap ((pl : Int) + R) = S := by rw [IntWalk.i64_in _ (by omega), e, hQ, hR]
  clear e hQ hS hR
  go_enter Try.func61, Try.ntmps61
  go_wp2_with fail
  go_quiet (fail)
  go_wp2
  go_ret
  exact ⟨rfl, lowN _ _⟩
/-- what stretch needs of a log -/
structure StrC (w : World) (g b pl n life : Nat) : Prop where
  c0 : w.cell? ⟨g, 0, none⟩ = some (.pointer (some ⟨b, 0, none⟩))
  c1 : w.cell? ⟨g, 1, none⟩ = some (.int .i64 pl)
  c2 : w.cell? ⟨g, 2, none⟩ = some (.int .i64 n)
  c3 : w.cell? ⟨g, 3, none⟩ = some (.int .u64 life)
theorem StrC.below {w w' : World} {g b pl n life : Nat} (h : StrC w g b pl n life) (hb : Below w.heap.size w w') : StrC w' g b pl n life :=
  ⟨(hb.cell (p := ⟨g, 0, none⟩) (cell_lt h.c0)).trans h.c0, (hb.cell (p := ⟨g, 1, none⟩) (cell_lt h.c0)).trans h.c1, (hb.cell (p := ⟨g, 2, none⟩) (cell_lt h.c0)).trans h.c2, (hb.cell (p := ⟨g, 3, none⟩) (cell_lt h.c0)).trans h.c3⟩
theorem extract_two (s : ByteArray) (a n : Nat) (_ : a + n ≤ s.size) : s.extract a (a + n) = ⟨((s.data.toList.drop a).take n).toArray⟩ := by
  have := ByteArray.extract_mk s.data.toList a (a + n)
  rw [Array.toArray_toList] at this
  rw [this]
  congr 2
  rw [Nat.add_sub_cancel_left]
theorem ret_stt {a b : ByteArray} {k : IntKind} {c d : Int} (h : a = b) : Ending.returned (.tuple #[.string a, .int k c, .int .i64 d]) = Ending.returned (.tuple #[.string b, .int k c, .int .i64 d]) := by rw [h]
def StrPost (st : List UInt8 × Nat) (w : World) (e : Ending) (w' : World) : Prop := e = .returned (.tuple #[.string ⟨st.1.toArray⟩, .int .u64 (st.2 : Int), .int .i64 0]) ∧ Below w.heap.size w w'
set_option maxRecDepth 20000 in
set_option maxHeartbeats 4000000 in
theorem stretch_any {g b pl n life : Nat} {D : PDsk.Dsk} {down : List Nat} (w : World) (hc : StrC w g b pl n life) (hd : IsDisk w b D down) (hf : D.fuse ≠ 0) (hn : 4 ≤ n) (hn5 : n ≤ 4096) (hp : pl + n ≤ D.sure.length) (x : Nat) (hx : x ≤ 9000000000000000000) :
    Calls Try.prog 34 #[.pointer (some ⟨g, 0, none⟩), .int .u64 x] w (StrPost (PLog.stretch D pl n life x) w) := by
  have h16 := hd.1.2.1
  have hsl := PLog.sec_lt (pl := pl) (x := x) (show 0 < n by omega)
  obtain ⟨S, hS⟩ : ∃ S, PLog.sec pl n x = S := ⟨_, rfl⟩
  rw [hS] at hsl
  have HSC : Hid (∀ W, StrC W g b pl n life → Calls Try.prog 61 #[.pointer (some ⟨g, 0, none⟩), .int .u64 x] W fun e w' => e = .returned (.int .i64 (S : Nat)) ∧ Below W.heap.size W w') := Lib.hid (fun W hW => by
    rw [← hS]; exact sector_cells W hW.c1 hW.c2 hn hn5 (by omega) x hx)
  have hnl : (PDsk.now D S).length = 128 := PDsk.now_length hd.1 (by omega)
  obtain ⟨s, hs⟩ : ∃ s : ByteArray, (⟨(PDsk.now D S).toArray⟩ : ByteArray) = s := ⟨_, rfl⟩
  have hsd : s.data.toList = PDsk.now D S := by rw [← hs]
  have hss : s.size = 128 := by rw [← hs, size_mk, hnl]
  have HRD : Hid (∀ W, IsDisk W b D down → Calls Try.prog 23 #[.pointer (some ⟨b, 0, none⟩), .int .i64 S] W fun e w' => e = .returned (.tuple #[.string s, .int .i64 0]) ∧ Below W.heap.size W w') := Lib.hid (fun W hW => by
    have := read_any W hW (S : Int) (by omega)
    rw [PDsk.read_now hf (by omega)] at this
    unfold ReadPost at this
    rw [← hs]
    exact this)
  obtain ⟨g0, hg0⟩ : ∃ q, (PWord.get (PDsk.now D S) 0 8).1 = q := ⟨_, rfl⟩
  obtain ⟨g1, hg1⟩ : ∃ q, (PWord.get (PDsk.now D S) 8 8).1 = q := ⟨_, rfl⟩
  obtain ⟨g2, hg2⟩ : ∃ q, (PWord.get (PDsk.now D S) 16 2).1 = q := ⟨_, rfl⟩
  have hq2 : g2 < 65536 := by rw [← hg2]; exact PLog.get_lt (PDsk.now D S) 16 2 (by omega)
  have HG0 : Hid (∀ W, Calls Try.prog 62 #[.string s, .int .i64 0, .int .i64 8] W fun e w' => ∃ ok : Bool, e = .returned (.tuple #[.int .u64 (g0 : Nat), .bool ok]) ∧ Below W.heap.size W w') := Lib.hid (fun W => by
    refine (get_any s 0 8 (by rw [hss]; unfold maxLen; omega) W).mono ?_
    rintro e w' ⟨he, hb⟩
    rw [hsd] at he
    exact ⟨_, by rw [he, ← hg0], hb⟩)
  have HG1 : Hid (∀ W, Calls Try.prog 62 #[.string s, .int .i64 8, .int .i64 8] W fun e w' => ∃ ok : Bool, e = .returned (.tuple #[.int .u64 (g1 : Nat), .bool ok]) ∧ Below W.heap.size W w') := Lib.hid (fun W => by
    refine (get_any s 8 8 (by rw [hss]; unfold maxLen; omega) W).mono ?_
    rintro e w' ⟨he, hb⟩
    rw [hsd] at he
    exact ⟨_, by rw [he, ← hg1], hb⟩)
  have HG2 : Hid (∀ W, Calls Try.prog 62 #[.string s, .int .i64 16, .int .i64 2] W fun e w' => ∃ ok : Bool, e = .returned (.tuple #[.int .u64 (g2 : Nat), .bool ok]) ∧ Below W.heap.size W w') := Lib.hid (fun W => by
    refine (get_any s 16 2 (by rw [hss]; unfold maxLen; omega) W).mono ?_
    rintro e w' ⟨he, hb⟩
    rw [hsd] at he
    exact ⟨_, by rw [he, ← hg2], hb⟩)
  obtain ⟨bx, hbx⟩ : ∃ bx, PLog.begin x = bx := ⟨_, rfl⟩
  have HBG : Hid (∀ W, Calls Try.prog 32 #[.int .u64 x] W fun e w' => e = .returned (.int .u64 (bx : Nat)) ∧ W = w') := Lib.hid (fun W => by rw [← hbx]; exact begin_any x hx W)
  have HQ : Hid (PLog.stretch D pl n life x = if g0 ≠ bx ∨ 110 < g2 ∨ life < g1 then ([], 0) else (((PDsk.now D S).drop 18).take g2, g1)) := Lib.hid (by
    unfold PLog.stretch
    rw [hS, hg0, hg1, hg2, hbx])
  have HC := Lib.hid hc
  have HD := Lib.hid hd
  have c0 := hc.c0
  have HSD := Lib.hid hsd
  have w0 : IntKind.i64.wrap (g2 : Int) = g2 := IntWalk.i64_in _ (by omega)
  obtain ⟨Z, hZ⟩ : ∃ Z : Nat, Z = 18 + g2 := ⟨_, rfl⟩
  have w1 : IntKind.i64.wrap (18 + (g2 : Int)) = Z := by rw [IntWalk.i64_in _ (by omega)]; omega
  have HZ := Lib.hid hZ
  have hss' : (s.size : Int) = 128 := by omega
  have HSS := Lib.hid hss
  have hcases : (((g0 : Int) == bx) = false ∧ g0 ≠ bx) ∨ (((g0 : Int) == bx) = true ∧ g0 = bx ∧ (110 : Int) < g2) ∨ (((g0 : Int) == bx) = true ∧ g0 = bx ∧ ¬ (110 : Int) < g2 ∧ (life : Int) < g1) ∨ (((g0 : Int) == bx) = true ∧ g0 = bx ∧ ¬ (110 : Int) < g2 ∧ ¬ (life : Int) < g1) := by
    by_cases e : g0 = bx
    · have e' : ((g0 : Int) == bx) = true := by simp [e]
      by_cases e2 : (110 : Int) < g2
      · exact .inr (.inl ⟨e', e, e2⟩)
      · by_cases e3 : (life : Int) < g1
        · exact .inr (.inr (.inl ⟨e', e, e2, e3⟩))
        · exact .inr (.inr (.inr ⟨e', e, e2, e3⟩))
    · exact .inl ⟨by rw [beq_eq_false_iff_ne]; omega, e⟩
  have HN1 : Hid (((g0 : Int) == bx) = false → ((g0 : Int) != bx) = true) := Lib.hid (fun h => by rw [bne, h]; rfl)
  clear hc hd hZ hS hs hsd hg0 hg1 hg2 hbx hf h16 hnl hss' hss
  have HSP : Hid (∀ e W, PLog.stretch D pl n life x = ([], 0) → e = Ending.returned (.tuple #[.string ⟨#[]⟩, .int .u64 0, .int .i64 0]) → Below w.heap.size w W → StrPost (PLog.stretch D pl n life x) w e W) := Lib.hid (fun e W h1 h2 h3 => by rw [h1]; exact ⟨h2, h3⟩)
  rcases hcases with ⟨e1, e2⟩ | ⟨e1, e2, e3⟩ | ⟨e1, e2, e3, e4⟩ | ⟨e1, e2, e3, e4⟩
  · have HQ1 : Hid (PLog.stretch D pl n life x = ([], 0)) := Lib.hid (by rw [HQ.out, if_pos (.inl e2)])
    have e1n := HN1.out e1
    clear e2
    go_enter Try.func34, Try.ntmps34
    go_wp2_with fail
    have hc1 : StrC w.drew g b pl n life := HC.out.below (Below.refl _ w).drew
    have hc2 : StrC w.drew.drew g b pl n life := HC.out.below (Below.refl _ w).drew.drew
    go_region_with (first
      | ((with_reducible refine (HSC.out _ HC.out).mono ?_); rintro e w2 ⟨rfl, hb⟩; have HB2 := Lib.hid hb; have c02 := (HC.out.below hb).c0; clear hb)
      | ((with_reducible refine (HSC.out _ hc1).mono ?_); rintro e w2 ⟨rfl, hb⟩; have HB2 := Lib.hid (((Below.refl w.heap.size w).drew).step hb); have c02 := (HC.out.below HB2.out).c0; clear hb)
      | ((with_reducible refine (HSC.out _ hc2).mono ?_); rintro e w2 ⟨rfl, hb⟩; have HB2 := Lib.hid (((Below.refl w.heap.size w).drew.drew).step hb); have c02 := (HC.out.below HB2.out).c0; clear hb)
      | ((with_reducible refine (HRD.out _ (HD.out.below HB2.out)).mono ?_); rintro e w3 ⟨rfl, hb⟩; have HB3 := Lib.hid (HB2.out.step hb); clear hb))
    all_goals (
      go_wp2_with fail
      refine (HG0.out _).mono ?_; rintro e w4 ⟨ok4, rfl, hb⟩
      have HB4 := Lib.hid (HB3.out.step hb)
      clear hb
      go_wp2_with fail
      refine (HG1.out _).mono ?_; rintro e w5 ⟨ok5, rfl, hb⟩
      have HB5 := Lib.hid (HB4.out.step hb)
      clear hb
      go_wp2_with fail
      refine (HG2.out _).mono ?_; rintro e w6 ⟨ok6, rfl, hb⟩
      have HB6 := Lib.hid (HB5.out.step hb)
      have c36 := (HC.out.below HB6.out).c3
      clear hb
      go_wp2_with fail
      refine (HBG.out _).mono ?_; rintro e w7 ⟨rfl, rfl⟩
      go_wp2
      go_ret3
      exact HSP.out _ _ HQ1.out rfl HB6.out)
  · have HQ1 : Hid (PLog.stretch D pl n life x = ([], 0)) := Lib.hid (by rw [HQ.out, if_pos (.inr (.inl (by omega)))])
    have e1n : ((g0 : Int) != bx) = false := by rw [bne, e1]; rfl
    clear e2
    go_enter Try.func34, Try.ntmps34
    go_wp2_with fail
    have hc1 : StrC w.drew g b pl n life := HC.out.below (Below.refl _ w).drew
    have hc2 : StrC w.drew.drew g b pl n life := HC.out.below (Below.refl _ w).drew.drew
    go_region_with (first
      | ((with_reducible refine (HSC.out _ HC.out).mono ?_); rintro e w2 ⟨rfl, hb⟩; have HB2 := Lib.hid hb; have c02 := (HC.out.below hb).c0; clear hb)
      | ((with_reducible refine (HSC.out _ hc1).mono ?_); rintro e w2 ⟨rfl, hb⟩; have HB2 := Lib.hid (((Below.refl w.heap.size w).drew).step hb); have c02 := (HC.out.below HB2.out).c0; clear hb)
      | ((with_reducible refine (HSC.out _ hc2).mono ?_); rintro e w2 ⟨rfl, hb⟩; have HB2 := Lib.hid (((Below.refl w.heap.size w).drew.drew).step hb); have c02 := (HC.out.below HB2.out).c0; clear hb)
      | ((with_reducible refine (HRD.out _ (HD.out.below HB2.out)).mono ?_); rintro e w3 ⟨rfl, hb⟩; have HB3 := Lib.hid (HB2.out.step hb); clear hb))
    all_goals (
      go_wp2_with fail
      refine (HG0.out _).mono ?_; rintro e w4 ⟨ok4, rfl, hb⟩
      have HB4 := Lib.hid (HB3.out.step hb)
      clear hb
      go_wp2_with fail
      refine (HG1.out _).mono ?_; rintro e w5 ⟨ok5, rfl, hb⟩
      have HB5 := Lib.hid (HB4.out.step hb)
      clear hb
      go_wp2_with fail
      refine (HG2.out _).mono ?_; rintro e w6 ⟨ok6, rfl, hb⟩
      have HB6 := Lib.hid (HB5.out.step hb)
      have c36 := (HC.out.below HB6.out).c3
      clear hb
      go_wp2_with fail
      refine (HBG.out _).mono ?_; rintro e w7 ⟨rfl, rfl⟩
      go_wp2
      go_ret3
      exact HSP.out _ _ HQ1.out rfl HB6.out)
  · have HQ1 : Hid (PLog.stretch D pl n life x = ([], 0)) := Lib.hid (by rw [HQ.out, if_pos (.inr (.inr (by omega)))])
    have e1n : ((g0 : Int) != bx) = false := by rw [bne, e1]; rfl
    clear e2
    go_enter Try.func34, Try.ntmps34
    go_wp2_with fail
    have hc1 : StrC w.drew g b pl n life := HC.out.below (Below.refl _ w).drew
    have hc2 : StrC w.drew.drew g b pl n life := HC.out.below (Below.refl _ w).drew.drew
    go_region_with (first
      | ((with_reducible refine (HSC.out _ HC.out).mono ?_); rintro e w2 ⟨rfl, hb⟩; have HB2 := Lib.hid hb; have c02 := (HC.out.below hb).c0; clear hb)
      | ((with_reducible refine (HSC.out _ hc1).mono ?_); rintro e w2 ⟨rfl, hb⟩; have HB2 := Lib.hid (((Below.refl w.heap.size w).drew).step hb); have c02 := (HC.out.below HB2.out).c0; clear hb)
      | ((with_reducible refine (HSC.out _ hc2).mono ?_); rintro e w2 ⟨rfl, hb⟩; have HB2 := Lib.hid (((Below.refl w.heap.size w).drew.drew).step hb); have c02 := (HC.out.below HB2.out).c0; clear hb)
      | ((with_reducible refine (HRD.out _ (HD.out.below HB2.out)).mono ?_); rintro e w3 ⟨rfl, hb⟩; have HB3 := Lib.hid (HB2.out.step hb); clear hb))
    all_goals (
      go_wp2_with fail
      refine (HG0.out _).mono ?_; rintro e w4 ⟨ok4, rfl, hb⟩
      have HB4 := Lib.hid (HB3.out.step hb)
      clear hb
      go_wp2_with fail
      refine (HG1.out _).mono ?_; rintro e w5 ⟨ok5, rfl, hb⟩
      have HB5 := Lib.hid (HB4.out.step hb)
      clear hb
      go_wp2_with fail
      refine (HG2.out _).mono ?_; rintro e w6 ⟨ok6, rfl, hb⟩
      have HB6 := Lib.hid (HB5.out.step hb)
      have c36 := (HC.out.below HB6.out).c3
      clear hb
      go_wp2_with fail
      refine (HBG.out _).mono ?_; rintro e w7 ⟨rfl, rfl⟩
      go_wp2
      go_ret3
      exact HSP.out _ _ HQ1.out rfl HB6.out)
  · have HQ1 : Hid (PLog.stretch D pl n life x = (((PDsk.now D S).drop 18).take g2, g1)) := Lib.hid (by rw [HQ.out, if_neg (by omega)])
    have e1n : ((g0 : Int) != bx) = false := by rw [bne, e1]; rfl
    have y0 : (Z : Int) ≤ s.size := by have := HSS.out; have := HZ.out; omega
    have y1 : (18 : Int) ≤ Z := by have := HZ.out; omega
    clear e2
    go_enter Try.func34, Try.ntmps34
    go_wp2_with fail
    have hc1 : StrC w.drew g b pl n life := HC.out.below (Below.refl _ w).drew
    have hc2 : StrC w.drew.drew g b pl n life := HC.out.below (Below.refl _ w).drew.drew
    go_region_with (first
      | ((with_reducible refine (HSC.out _ HC.out).mono ?_); rintro e w2 ⟨rfl, hb⟩; have HB2 := Lib.hid hb; have c02 := (HC.out.below hb).c0; clear hb)
      | ((with_reducible refine (HSC.out _ hc1).mono ?_); rintro e w2 ⟨rfl, hb⟩; have HB2 := Lib.hid (((Below.refl w.heap.size w).drew).step hb); have c02 := (HC.out.below HB2.out).c0; clear hb)
      | ((with_reducible refine (HSC.out _ hc2).mono ?_); rintro e w2 ⟨rfl, hb⟩; have HB2 := Lib.hid (((Below.refl w.heap.size w).drew.drew).step hb); have c02 := (HC.out.below HB2.out).c0; clear hb)
      | ((with_reducible refine (HRD.out _ (HD.out.below HB2.out)).mono ?_); rintro e w3 ⟨rfl, hb⟩; have HB3 := Lib.hid (HB2.out.step hb); clear hb))
    all_goals (
      go_wp2_with fail
      refine (HG0.out _).mono ?_; rintro e w4 ⟨ok4, rfl, hb⟩
      have HB4 := Lib.hid (HB3.out.step hb)
      clear hb
      go_wp2_with fail
      refine (HG1.out _).mono ?_; rintro e w5 ⟨ok5, rfl, hb⟩
      have HB5 := Lib.hid (HB4.out.step hb)
      clear hb
      go_wp2_with fail
      refine (HG2.out _).mono ?_; rintro e w6 ⟨ok6, rfl, hb⟩
      have HB6 := Lib.hid (HB5.out.step hb)
      have c36 := (HC.out.below HB6.out).c3
      clear hb
      go_wp2_with fail
      refine (HBG.out _).mono ?_; rintro e w7 ⟨rfl, rfl⟩
      go_wp2
      go_ret3
      unfold StrPost
      rw [HQ1.out]
      refine ⟨?_, HB6.out⟩
      rw [← HSD.out, HZ.out]
      exact ret_stt (extract_two s 18 g2 (by rw [HSS.out]; omega)))
end Go.Proofs.Ytjnggldalggfnaa
