/-
  Twin: Write.
-/
import Derived.Test.YtdkhmhlphhammaaTwY
namespace Go.Proofs.Ytdkhmhlphhammaa
open Go.RowKit
open PTwin (Hm)
theorem elem_home : ElemT Try.prog 29 34 2 24 := ElemT.mk' (z := .agg #[.int .u32 0, .string ByteArray.empty]) Try.underlying29 (by kernel_rfl) rfl (by decide)
/-- a list of calls, of which all is new *)-/
def Cl (w W : World) (b m : Nat) (u : Value) (cs : List PTwin.Cal) : Prop := ∃ xs, Sl W w.heap.size 37 1 u m xs ∧ Clos W b (okIn w W u) xs cs ∧ Below w.heap.size w W
theorem Cl.form {w W : World} {b m : Nat} {u : Value} {cs : List PTwin.Cal} (h : Cl w W b m u cs) : ∃ p c, u = .slice p m c := by
  obtain ⟨xs, h1, _⟩ := h
  exact Sl.form h1
theorem Cl.below {w W W' : World} {b m : Nat} {u : Value} {cs : List PTwin.Cal} (h : Cl w W b m u cs) (hb : Below W.heap.size W W') : Cl w W' b m u cs := by
  obtain ⟨xs, h1, h2, h3⟩ := h
  exact ⟨xs, h1.keep (fun k e => hb.block k (h1.lt k e).2), h2.keep (fun _ hg => ⟨hg.1, by have := hg.2.1; have := hb.size; omega, hg.2.2⟩) (fun _ hg => hb.block _ hg.2.1), h3.step hb⟩
/-- the second list, made later -/
def Cn (W0 W : World) (b m : Nat) (u : Value) (xs : List Value) (cs : List PTwin.Cal) : Prop := Sl W W0.heap.size 37 1 u m xs ∧ Clos W b (fun g => W0.heap.size ≤ g ∧ g < W.heap.size ∧ u.ownBlock ≠ some g) xs cs ∧ Below W0.heap.size W0 W
theorem Cn.cl {w W0 W : World} {b m : Nat} {u : Value} {xs : List Value} {cs : List PTwin.Cal} (h : Cn W0 W b m u xs cs) (hb : Below w.heap.size w W0) : Cl w W b m u cs :=
  ⟨xs, h.1.base_le hb.size, h.2.1.keep (fun g hg => ⟨Nat.le_trans hb.size hg.1, hg.2⟩) (fun _ _ => rfl), hb.step h.2.2⟩
theorem Cl.push {w W1 W0 W2 W3 : World} {b m1 m2 : Nat} {u1 u2 u3 : Value} {cs1 cs2 : List PTwin.Cal} {xs1 xs2 : List Value} (h1 : Sl W2 w.heap.size 37 1 u1 m1 xs1) (h2 : Clos W2 b (okIn w W2 u1) xs1 cs1) (h3 : Below w.heap.size w W2) (hu : ∀ k, u1.ownBlock = some k → k < W1.heap.size) (h10 : W1.heap.size ≤ W0.heap.size)
    (k2 : Cn W0 W2 b m2 u2 xs2 cs2) (hw : w.heap.size ≤ W0.heap.size) (hsl : Sl W3 w.heap.size 37 1 u3 (m1 + m2) (xs1 ++ xs2)) (hg : W2.grownBy W3 u1.ownBlock) (ho : ∀ k, u3.ownBlock = some k → u1.ownBlock = some k ∨ W2.heap.size ≤ k) : Cl w W3 b (m1 + m2) u3 (cs1 ++ cs2) := by
  refine ⟨xs1 ++ xs2, hsl, ?_, h3.grown hg h3.size (fun k e => (h1.lt k e).1)⟩
  have k3 : Clos W2 b (okIn w W2 u1) xs2 cs2 := k2.2.1.keep (fun g hg => ⟨Nat.le_trans hw hg.1, hg.2.1, fun e => by have := hu _ e; have := hg.1; omega⟩) (fun _ _ => rfl)
  exact (h2.append k3).keep (fun g hgk => (hgk.cell hg ho).1) (fun g hgk => (hgk.cell hg ho).2)
theorem Sl.some {w : World} {base n : Nat} {v : Value} {xs : List Value} {e : TypeId} (h : Sl w base e 1 v n xs) (hn : n ≠ 0) : ∃ g off c, v = .slice (some ⟨g, off, none⟩) n c := by
  rcases h.shape with ⟨_, h0, _⟩ | ⟨g, off, c, e1, _⟩
  · exact absurd h0 hn
  · exact ⟨g, off, c, e1⟩
theorem homeC_len (base : Nat) (l : List Hm) : (PTwin.homes base l).length = 4 * l.length + 1 := PTwin.homes_length base l
set_option maxRecDepth 20000 in
set_option maxHeartbeats 8000000 in
theorem tw_write_yes {b : Nat} {D : PDsk.Dsk} {own : List Nat} (w : World) (h : IsDisk w b D own) (a base : Nat) (ha : a + 33 ≤ D.sure.length) (hb : base ≤ D.sure.length) (l : List Hm) (v : Value) (hp : ∀ h ∈ l, h.page < 4294967296) (hi : HomeIn w v l) (hmay : PTwin.may D.sure.length a base l = true) (hll : D.loose.length ≤ 1000) :
    Calls Try.prog 18 #[.pointer (some ⟨b, 0, none⟩), .int .i64 a, .int .i64 base, v] w (StepPost (.int .i64 (PTwin.steps D (PTwin.writeC a base l)).2) b (PTwin.steps D (PTwin.writeC a base l)).1 own w) := by
  have hs16 := h.1.2.1
  have hm1 : PTwin.fit D.sure.length a base [] l = true ∧ 1 ≤ l.length ∧ l.length ≤ 8 := by
    unfold PTwin.may at hmay
    simpa using hmay
  have hl8 := hm1.2.2
  have hl1 := hm1.2.1
  have HBY : Hid (∀ x ∈ l, x.bytes.length = 512) := Lib.hid (fun x hx => (PTwin.fit_bytes l [] hm1.1 x hx).1)
  obtain ⟨pv, cv, rfl, hcv, hcm⟩ := RdS.form hi
  have HIN := Lib.hid hi
  have HP := Lib.hid hp
  have HD := Lib.hid h
  have HPL : Hid (∀ W, IsDisk W b D own → Calls Try.prog 33 #[.pointer (some ⟨b, 0, none⟩), .int .i64 a, .int .i64 base] W fun e w' => e = .returned (.int .i64 0) ∧ W = w') := Lib.hid (fun W hW => by
    have := placed_any W hW a base (by omega) (by omega)
    unfold placedE at this
    rw [if_neg (by omega)] at this
    exact this)
  have HMY : Hid (∀ W, IsDisk W b D own → HomeIn W (.slice pv l.length cv) l → Calls Try.prog 37 #[.pointer (some ⟨b, 0, none⟩), .int .i64 a, .int .i64 base, .slice pv l.length cv] W fun e w' => e = .returned (.bool true) ∧ Below W.heap.size W w') := Lib.hid (fun W hW hI => by
    have := may_any' W hW a base (by omega) (by omega) l (.slice pv l.length cv) (by omega) hp hI
    rw [hmay] at this
    exact this)
  have HLL := Lib.hid hll
  have ha5 : a ≤ 16384 := by omega
  have hb5 : base ≤ 16384 := by omega
  have HMS : Hid (∀ (W : World) (s : ByteArray), s.size = 128 → Calls Try.prog 40 #[.pointer (some ⟨b, 0, none⟩), .int .i64 a, .string s] W fun e w' => ∃ u xs, e = .returned u ∧ Cn W w' b 2 u xs (PTwin.marks a s.data.toList)) := Lib.hid (fun W s hs => (marks_any W b a s hs (by omega)).mono (fun e w' ⟨u, xs, h0, h1, h2, h3⟩ => ⟨u, xs, h0, h1, h2, h3⟩))
  have HH1 : Hid (∀ (W : World) (u : Value) (A : Nat), A = a + 1 → HomeIn W u (PTwin.area 0 l) → Calls Try.prog 39 #[.pointer (some ⟨b, 0, none⟩), .int .i64 A, u] W fun e w' => ∃ u xs, e = .returned u ∧ Cn W w' b (4 * l.length + 1) u xs (PTwin.homes (a + 1) (PTwin.area 0 l))) := Lib.hid (fun W u A hA hI => by
    subst hA
    have hal := PTwin.area_length l 0
    have := homes_any W b (a + 1) (PTwin.area 0 l) u (by omega) (by omega) (fun x hx => ⟨by have := (PTwin.area_pages l 0 x hx).2; omega, PTwin.area_bytes l 512 HBY.out 0 x hx⟩) hI
    rw [hal] at this
    exact this.mono (fun e w' ⟨u, xs, h0, h1, h2, h3⟩ => ⟨u, xs, h0, h1, h2, h3⟩))
  have HH2 : Hid (∀ (W : World), HomeIn W (.slice pv l.length cv) l → Calls Try.prog 39 #[.pointer (some ⟨b, 0, none⟩), .int .i64 base, .slice pv l.length cv] W fun e w' => ∃ u xs, e = .returned u ∧ Cn W w' b (4 * l.length + 1) u xs (PTwin.homes base l)) := Lib.hid (fun W hI =>
    (homes_any W b base l _ (by omega) (by omega) (fun x hx => ⟨HP.out x hx, HBY.out x hx⟩) hI).mono (fun e w' ⟨u, xs, h0, h1, h2, h3⟩ => ⟨u, xs, h0, h1, h2, h3⟩))
  have HMK : Hid (∀ (W : World), HomeIn W (.slice pv l.length cv) l → Calls Try.prog 36 #[.slice pv l.length cv] W fun e w' => e = .returned (.string ⟨(PTwin.mark (l.map (·.page))).toArray⟩) ∧ Below W.heap.size W w') := Lib.hid (fun W hI => mark_any W l _ hl8 HP.out hI)
  have HML : Hid ((PTwin.mark (l.map (·.page))).length = 128) := Lib.hid (PTwin.mark_length (by simpa using hl8))
  unfold maxLen at hcm
  clear h hi hmay hm1 hp hll ha hb hs16
  go_enter Try.func18, Try.ntmps18
  go_wp2_with fail
  refine (HPL.out _ HD.out).mono ?_; rintro e w1 ⟨rfl, rfl⟩
  go_wp2_with fail
  refine (HMY.out _ HD.out HIN.out).mono ?_; rintro e w1 ⟨rfl, hbw⟩
  have HB1 := Lib.hid hbw
  clear hbw HPL HMY
  go_wp2
  go_loopw [10, 29] (fun uv iv wr => ∃ k : Nat, k ≤ l.length ∧ iv = .int .i64 k ∧ Hid (Sl wr w.heap.size 34 2 uv k (homesV (PTwin.area 0 (l.take k)))) ∧ Hid (Below w.heap.size w wr)) (fun _ iv _ => l.length - (intOf iv).toNat)
  case atStart => exact ⟨0, by omega, rfl, Lib.hid (Sl.nil _ _ _ _), HB1⟩
  case round =>
    clear HB1
    obtain ⟨k, hk, rfl, HS, HB⟩ := hrel
    obtain ⟨pu, cu, rfl⟩ := Sl.form HS.out
    by_cases hlt : k < l.length
    · have i1 : (k : Int) < l.length := by omega
      have k0 : (0 : Int) ≤ k := by omega
      obtain ⟨g, off, rfl, hg, c0, c1⟩ := home_cells (l := l) (c := cv) (p := pv) (show HomeIn wr _ l from RdS.step HIN.out HB.out) hlt
      obtain ⟨p, hpp⟩ : ∃ p, l[k].page = p := ⟨_, rfl⟩
      obtain ⟨B, hBB⟩ : ∃ B : ByteArray, (⟨l[k].bytes.toArray⟩ : ByteArray) = B := ⟨_, rfl⟩
      have HAS : Hid (homesV (PTwin.area 0 (l.take (k + 1))) = homesV (PTwin.area 0 (l.take k)) ++ [.int .u32 k, .string B]) := Lib.hid (by
        rw [List.take_succ_eq_append_getElem hlt, PTwin.area_snoc, homesV_snoc, List.length_take, ← hBB, Nat.min_eq_left (by omega), Nat.zero_add])
      rw [hpp] at c0
      rw [hBB] at c1
      have hw : IntKind.u32.wrap (k : Int) = k := by rw [IntKind.wrap_u32]; omega
      have HLT := Lib.hid hlt
      have hbs := HB.out.size
      clear hpp hBB hlt
      go_wp2_with (at_builtin; (with_reducible apply wpList_append_sl elem_home ((HS.out.alloc _).alloc _) [.int .u32 k, .string B]); (· rfl); (· rfl); (· rfl); (· rfl); (· rfl); (· exact news_at _ [_, _] _ _ (by simp only [World.size_alloc])); (· intro u hu; simp at hu; rcases hu with rfl | rfl <;> rfl); (· unfold maxLen; omega); (· omega); (· rw [World.size_alloc, World.size_alloc]; omega); intro v' w5 g1 g2 _ g4)
      have HSN : Hid (Sl w5 w.heap.size 34 2 v' (k + 1) (homesV (PTwin.area 0 (l.take (k + 1))))) := Lib.hid (by rw [HAS.out]; exact g1)
      have HBN : Hid (Below w.heap.size w w5) := Lib.hid (((HB.out.alloc hbs _).alloc (by rw [World.size_alloc]; omega) _).grown g2 (by rw [World.size_alloc, World.size_alloc]; omega) (fun j e => (HS.out.lt j e).1))
      clear g1 g2 g4 HS HB
      go_wp2
      exact ⟨⟨k + 1, by have := HLT.out; omega, by go_num, HSN, HBN⟩, by have := HLT.out; simp [intOf]; omega⟩
    · obtain rfl : k = l.length := by omega
      have i1 : ¬ (l.length : Int) < l.length := by omega
      have HAI : Hid (HomeIn wr (.slice pu l.length cu) (PTwin.area 0 l)) := Lib.hid (by
        have h := RdS.of_sl HS.out
        rw [List.take_length] at h
        unfold HomeIn
        rw [PTwin.area_length]
        exact h)
      obtain ⟨A, hA⟩ : ∃ A : Nat, A = a + 1 := ⟨_, rfl⟩
      have HA := Lib.hid hA
      have hwa : IntKind.i64.wrap ((a : Int) + 1) = A := by rw [IntWalk.i64_in _ (by omega)]; omega
      clear hA hlt hk HS
      go_wp2_with fail
      refine (HH1.out _ _ A HA.out HAI.out).mono ?_
      rintro e w1 ⟨u1, xs1, rfl, hq⟩
      have C1 := Lib.hid (hq.cl HB.out)
      have HIN1 := Lib.hid (RdS.step HIN.out C1.out.choose_spec.2.2)
      obtain ⟨p1, q1, rfl⟩ := Sl.form hq.1
      have HU1 : Hid (∀ k, (Value.slice p1 (4 * l.length + 1) q1).ownBlock = some k → k < w1.heap.size) := Lib.hid (fun k e => (hq.1.lt k e).2)
      clear hq HAI HA
      go_wp2_with fail
      refine (HMK.out _ HIN1.out).mono ?_
      rintro e w2 ⟨rfl, hb2⟩
      have HB2 := Lib.hid hb2
      obtain ⟨m, hm⟩ : ∃ m : ByteArray, (⟨(PTwin.mark (l.map (·.page))).toArray⟩ : ByteArray) = m := ⟨_, rfl⟩
      have HM : Hid (m.size = 128 ∧ m.data.toList = PTwin.mark (l.map (·.page))) := Lib.hid (by subst hm; exact ⟨HML.out, rfl⟩)
      rw [hm]
      clear hb2 hm
      go_wp2_with fail
      refine (HMS.out _ m HM.out.1).mono ?_
      rintro e w3 ⟨u2, xs2, rfl, hq⟩
      have HQ := Lib.hid hq
      obtain ⟨g2, o2, c2, rfl⟩ := Sl.some hq.1 (by omega)
      obtain ⟨ys, s1, s2, s3⟩ := (C1.out.below HB2.out).below hq.2.2
      have hsz := s3.size
      have hl2 : xs2.length = 2 * 1 := hq.2.1.1
      go_wp2_with (at_builtin; (with_reducible apply wpList_append_sl elem_fn s1 xs2); (· rfl); (· rfl); (· rfl); (· rfl); (· exact hl2); (· exact HQ.out.1.cells rfl); (· exact HQ.out.2.1.oneCell); (· unfold maxLen; omega); (· omega); (· exact hsz); intro v' w4 r1 r2 _ r4)
      have C2 : Hid (Cl w w4 b (4 * l.length + 1 + 2) v' (PTwin.homes (a + 1) (PTwin.area 0 l) ++ PTwin.marks a (PTwin.mark (l.map (·.page))))) := Lib.hid (by
        have h := Cl.push s1 s2 s3 HU1.out HB2.out.size HQ.out (Nat.le_trans C1.out.choose_spec.2.2.size HB2.out.size) r1 r2 r4
        rw [HM.out.2] at h
        exact h)
      have HIN2 := Lib.hid (RdS.step HIN.out C2.out.choose_spec.2.2)
      obtain ⟨p3, q3, rfl⟩ := Cl.form C2.out
      have HU2 : Hid (∀ k, (Value.slice p3 (4 * l.length + 1 + 2) q3).ownBlock = some k → k < w4.heap.size) := Lib.hid (fun k e => (C2.out.choose_spec.1.lt k e).2)
      clear hq s1 s2 s3 hsz hl2 r1 r2 r4 C1 HQ HM HB2 HU1 HIN1
      go_wp2_with fail
      refine (HH2.out _ HIN2.out).mono ?_
      rintro e w5 ⟨u4, xs4, rfl, hq⟩
      have HQ := Lib.hid hq
      obtain ⟨g4, o4, c4, rfl⟩ := Sl.some hq.1 (by omega)
      obtain ⟨ys, s1, s2, s3⟩ := C2.out.below hq.2.2
      have hsz := s3.size
      have hl2 : xs4.length = (4 * l.length + 1) * 1 := by rw [hq.2.1.1, PTwin.homes_length]; omega
      go_wp2_with (at_builtin; (with_reducible apply wpList_append_sl elem_fn s1 xs4); (· rfl); (· rfl); (· rfl); (· rfl); (· exact hl2); (· exact HQ.out.1.cells rfl); (· exact HQ.out.2.1.oneCell); (· unfold maxLen; omega); (· omega); (· exact hsz); intro v' w6 r1 r2 _ r4)
      have C3 : Hid (Cl w w6 b (4 * l.length + 1 + 2 + (4 * l.length + 1)) v' (PTwin.homes (a + 1) (PTwin.area 0 l) ++ PTwin.marks a (PTwin.mark (l.map (·.page))) ++ PTwin.homes base l)) := Lib.hid (Cl.push s1 s2 s3 HU2.out (Nat.le_refl _) HQ.out C2.out.choose_spec.2.2.size r1 r2 r4)
      obtain ⟨p5, q5, rfl⟩ := Cl.form C3.out
      have HU3 : Hid (∀ k, (Value.slice p5 (4 * l.length + 1 + 2 + (4 * l.length + 1)) q5).ownBlock = some k → k < w6.heap.size) := Lib.hid (fun k e => (C3.out.choose_spec.1.lt k e).2)
      clear hq s1 s2 s3 hsz hl2 r1 r2 r4 C2 HQ HU2 HIN2
      go_wp2_with fail
      refine (clear_any _).mono ?_
      rintro e w7 ⟨rfl, hb2⟩
      have HB2 := Lib.hid hb2
      obtain ⟨m, hm⟩ : ∃ m : ByteArray, (⟨PTwin.clear.toArray⟩ : ByteArray) = m := ⟨_, rfl⟩
      have HM : Hid (m.size = 128 ∧ m.data.toList = PTwin.clear) := Lib.hid (by subst hm; exact ⟨rfl, rfl⟩)
      rw [hm]
      clear hb2 hm
      go_wp2_with fail
      refine (HMS.out _ m HM.out.1).mono ?_
      rintro e w8 ⟨u6, xs6, rfl, hq⟩
      have HQ := Lib.hid hq
      obtain ⟨g6, o6, c6, rfl⟩ := Sl.some hq.1 (by omega)
      obtain ⟨ys, s1, s2, s3⟩ := (C3.out.below HB2.out).below hq.2.2
      have hsz := s3.size
      have hl2 : xs6.length = 2 * 1 := hq.2.1.1
      go_wp2_with (at_builtin; (with_reducible apply wpList_append_sl elem_fn s1 xs6); (· rfl); (· rfl); (· rfl); (· rfl); (· exact hl2); (· exact HQ.out.1.cells rfl); (· exact HQ.out.2.1.oneCell); (· unfold maxLen; omega); (· omega); (· exact hsz); intro v' w9 r1 r2 _ r4)
      have C4 : Hid (Cl w w9 b (4 * l.length + 1 + 2 + (4 * l.length + 1) + 2) v' (PTwin.writeC a base l)) := Lib.hid (by
        have h := Cl.push s1 s2 s3 HU3.out HB2.out.size HQ.out (Nat.le_trans C3.out.choose_spec.2.2.size HB2.out.size) r1 r2 r4
        rw [HM.out.2] at h
        exact h)
      clear hq s1 s2 s3 hsz hl2 r1 r2 r4 C3 HQ HM HB2 HU3
      obtain ⟨p7, q7, rfl⟩ := Cl.form C4.out
      have HLC : Hid ((PTwin.writeC a base l).length = 4 * l.length + 1 + 2 + (4 * l.length + 1) + 2) := Lib.hid (by
        unfold PTwin.writeC PTwin.marks
        rw [List.length_append, List.length_append, List.length_append, PTwin.homes_length, PTwin.homes_length, PTwin.area_length]
        rfl)
      obtain ⟨ys, s1, s2, s3⟩ := C4.out
      have S1 := Lib.hid s1
      have S2 := Lib.hid s2
      have S3 := Lib.hid s3
      clear s1 s2 s3
      have HFIN : Hid (Calls Try.prog 38 #[.slice p7 (4 * l.length + 1 + 2 + (4 * l.length + 1) + 2) q7] w9 (StepPost (.int .i64 (PTwin.steps D (PTwin.writeC a base l)).2) b (PTwin.steps D (PTwin.writeC a base l)).1 own w9)) := Lib.hid (by
        refine steps_any w9 (HD.out.below S3.out) w.heap.size (fun k hk => .inl (HD.out.lt k hk)) _ ys _ (by rw [HLC.out]; exact S1.out) (S2.out.keep (fun g hg => ⟨hg.1, hg.2.1⟩) (fun _ _ => rfl)) ?_
        have := HLL.out
        rw [HLC.out]
        omega)
      go_wp2_with fail
      refine HFIN.out.mono ?_
      rintro e w10 ⟨own', rfl, hd, hst⟩
      have HST := Lib.hid ((Stepped.of_below S3.out own).trans hst)
      have HDD := Lib.hid hd
      clear hd hst
      go_wp2
      go_ret
      exact ⟨own', rfl, HDD.out, HST.out⟩
theorem tw_write_nil (a base : Int) (v : Value) (w : World) : Calls Try.prog 18 #[.pointer none, .int .i64 a, .int .i64 base, v] w fun e w' => e = .returned (.int .i64 1) ∧ w = w' := by
  go_enter Try.func18, Try.ntmps18
  go_wp2_with fail
  refine (placed_nil a base _).mono ?_; rintro e w1 ⟨rfl, rfl⟩
  go_wp2
  go_ret
  exact ⟨rfl, rfl⟩
theorem tw_write_no {b : Nat} {D : PDsk.Dsk} {own : List Nat} (w : World) (h : IsDisk w b D own) (a base : Nat) (ha : a + 33 ≤ D.sure.length) (hb : base ≤ D.sure.length) (l : List Hm) (v : Value) (hl : l.length ≤ 1000) (hp : ∀ h ∈ l, h.page < 4294967296) (hi : HomeIn w v l) (hmay : PTwin.may D.sure.length a base l = false) :
    Calls Try.prog 18 #[.pointer (some ⟨b, 0, none⟩), .int .i64 a, .int .i64 base, v] w fun e w' => e = .returned (.int .i64 2) ∧ Below w.heap.size w w' := by
  have hs16 := h.1.2.1
  have HPL : Hid (Calls Try.prog 33 #[.pointer (some ⟨b, 0, none⟩), .int .i64 a, .int .i64 base] w fun e w' => e = .returned (.int .i64 0) ∧ w = w') := Lib.hid (by
    have := placed_any w h a base (by omega) (by omega)
    unfold placedE at this
    rw [if_neg (by omega)] at this
    exact this)
  have HMY : Hid (Calls Try.prog 37 #[.pointer (some ⟨b, 0, none⟩), .int .i64 a, .int .i64 base, v] w fun e w' => e = .returned (.bool false) ∧ Below w.heap.size w w') := Lib.hid (by
    have := may_any' w h a base (by omega) (by omega) l v hl hp hi
    rw [hmay] at this
    exact this)
  clear h hi hmay hp ha hb hs16
  go_enter Try.func18, Try.ntmps18
  go_wp2_with fail
  refine HPL.out.mono ?_; rintro e w1 ⟨rfl, rfl⟩
  go_wp2_with fail
  refine HMY.out.mono ?_; rintro e w1 ⟨rfl, hbw⟩
  have HB1 := Lib.hid hbw
  clear hbw HPL HMY
  go_wp2
  go_ret
  exact ⟨rfl, HB1.out⟩
end Go.Proofs.Ytdkhmhlphhammaa
