/-
  Twin: the calls as closures: what each does, and steps.
-/
import Derived.Test.YtdkhmhlphhammaaTwR
import Derived.Test.YtdkhmhlphhammaaWord
import Derived.Test.YtdkhmhlphhammaaSum
import Derived.BigQuiet
import Derived.Deep.QuietTactic
namespace Go.Proofs.Ytdkhmhlphhammaa
open Go.RowKit
def ptr (g : Nat) : Value := .pointer (some ⟨g, 0, none⟩)
/-- the function value x is the call c of the disk bd; what it has captured lies in blocks that are ok -/
def Clo (w : World) (bd : Nat) (ok : Nat → Prop) (x : Value) (c : PTwin.Cal) : Prop :=
  (∃ (g3 g10 g8 g9 k j : Nat) (hb : ByteArray), x = .func (.func 50) #[] #[.pointer (some ⟨g3, 0, none⟩), .pointer (some ⟨g10, 0, none⟩), .pointer (some ⟨g8, 0, none⟩), .pointer (some ⟨g9, 0, none⟩)] ∧
    ok g3 ∧ ok g10 ∧ ok g8 ∧ ok g9 ∧ w.cell? ⟨g3, 0, none⟩ = some (.pointer (some ⟨bd, 0, none⟩)) ∧ w.cell? ⟨g10, 0, none⟩ = some (.int .i64 k) ∧ w.cell? ⟨g8, 1, none⟩ = some (.string hb) ∧ w.cell? ⟨g9, 0, none⟩ = some (.int .i64 j) ∧
    j < 4 ∧ hb.size = 512 ∧ k ≤ 100000000000 ∧ c = .wr k (PTwin.piece hb.data.toList j)) ∨
  (∃ (g3 g4 g5 k : Nat) (s : ByteArray), x = .func (.func 51) #[] #[.pointer (some ⟨g3, 0, none⟩), .pointer (some ⟨g4, 0, none⟩), .pointer (some ⟨g5, 0, none⟩)] ∧
    ok g3 ∧ ok g4 ∧ ok g5 ∧ w.cell? ⟨g3, 0, none⟩ = some (.pointer (some ⟨bd, 0, none⟩)) ∧ w.cell? ⟨g4, 0, none⟩ = some (.int .i64 k) ∧ w.cell? ⟨g5, 0, none⟩ = some (.string s) ∧
    s.size = 128 ∧ k ≤ 100000000000 ∧ c = .wr k s.data.toList) ∨
  (x = .func (.func 11) #[.pointer (some ⟨bd, 0, none⟩)] #[] ∧ c = .sy)
theorem Clo.keep {w w' : World} {bd : Nat} {ok ok' : Nat → Prop} {x : Value} {c : PTwin.Cal} (h : Clo w bd ok x c) (ho : ∀ g, ok g → ok' g) (hk : ∀ g, ok g → w'.heap[g]? = w.heap[g]?) : Clo w' bd ok' x c := by
  have hc : ∀ g j, ok g → w'.cell? ⟨g, j, none⟩ = w.cell? ⟨g, j, none⟩ := fun g j hg => World.cell?_of_block (hk g hg)
  rcases h with ⟨g3, g10, g8, g9, k, j, hb, rfl, a1, a2, a3, a4, c1, c2, c3, c4, h1, h2, h3, rfl⟩ | ⟨g3, g4, g5, k, s, rfl, a1, a2, a3, c1, c2, c3, h1, h2, rfl⟩ | ⟨rfl, rfl⟩
  · exact .inl ⟨g3, g10, g8, g9, k, j, hb, rfl, ho _ a1, ho _ a2, ho _ a3, ho _ a4, (hc _ _ a1).trans c1, (hc _ _ a2).trans c2, (hc _ _ a3).trans c3, (hc _ _ a4).trans c4, h1, h2, h3, rfl⟩
  · exact .inr (.inl ⟨g3, g4, g5, k, s, rfl, ho _ a1, ho _ a2, ho _ a3, (hc _ _ a1).trans c1, (hc _ _ a2).trans c2, (hc _ _ a3).trans c3, h1, h2, rfl⟩)
  · exact .inr (.inr ⟨rfl, rfl⟩)
def Clos (w : World) (bd : Nat) (ok : Nat → Prop) (xs : List Value) (cs : List PTwin.Cal) : Prop := xs.length = cs.length ∧ ∀ i (h1 : i < xs.length) (h2 : i < cs.length), Clo w bd ok xs[i] cs[i]
theorem Clos.nil (w : World) (bd : Nat) (ok : Nat → Prop) : Clos w bd ok [] [] := ⟨rfl, fun i h => absurd h (by simp)⟩
theorem Clos.keep {w w' : World} {bd : Nat} {ok ok' : Nat → Prop} {xs : List Value} {cs : List PTwin.Cal} (h : Clos w bd ok xs cs) (ho : ∀ g, ok g → ok' g) (hk : ∀ g, ok g → w'.heap[g]? = w.heap[g]?) : Clos w' bd ok' xs cs :=
  ⟨h.1, fun i h1 h2 => (h.2 i h1 h2).keep ho hk⟩
theorem Clos.append {w : World} {bd : Nat} {ok : Nat → Prop} {xs ys : List Value} {cs ds : List PTwin.Cal} (h : Clos w bd ok xs cs) (k : Clos w bd ok ys ds) : Clos w bd ok (xs ++ ys) (cs ++ ds) := by
  refine ⟨by rw [List.length_append, List.length_append, h.1, k.1], fun i h1 h2 => ?_⟩
  by_cases hi : i < xs.length
  · rw [List.getElem_append_left hi, List.getElem_append_left (by rw [← h.1]; exact hi)]
    exact h.2 i hi _
  · rw [List.getElem_append_right (by omega), List.getElem_append_right (by rw [← h.1]; omega)]
    have e := h.1
    have := k.2 (i - xs.length) (by rw [List.length_append] at h1; omega) (by rw [List.length_append] at h2; omega)
    simpa [e] using this
theorem Clos.one {w : World} {bd : Nat} {ok : Nat → Prop} {x : Value} {c : PTwin.Cal} (h : Clo w bd ok x c) : Clos w bd ok [x] [c] := ⟨rfl, fun i h1 h2 => by
  obtain rfl : i = 0 := by simp at h1; omega
  exact h⟩
theorem Clo.oneCell {w : World} {bd : Nat} {ok : Nat → Prop} {x : Value} {c : PTwin.Cal} (h : Clo w bd ok x c) : x.oneCell' = true := by
  rcases h with ⟨_, _, _, _, _, _, _, rfl, _⟩ | ⟨_, _, _, _, _, rfl, _⟩ | ⟨rfl, _⟩ <;> rfl
theorem Clos.oneCell {w : World} {bd : Nat} {ok : Nat → Prop} {xs : List Value} {cs : List PTwin.Cal} (h : Clos w bd ok xs cs) : ∀ u ∈ xs, u.oneCell' = true := by
  intro u hu
  obtain ⟨i, hi, rfl⟩ := List.getElem_of_mem hu
  exact (h.2 i hi (by rw [← h.1]; exact hi)).oneCell
theorem Stepped.undrew {A B : World} {o1 o2 : List Nat} (h : Stepped A.drew B o1 o2) : Stepped A B o1 o2 := ⟨⟨h.1.os, h.1.tape, h.1.output, h.1.size, h.1.block⟩, h.2⟩
theorem IsDisk.drew {w : World} {b : Nat} {D : PDsk.Dsk} {own : List Nat} (h : IsDisk w b D own) : IsDisk w.drew b D own := h.below ((Below.refl _ _).drew)
/-! ### what each does -/
set_option maxRecDepth 20000 in
theorem homeC_any {b : Nat} {D : PDsk.Dsk} {own : List Nat} (w : World) (h : IsDisk w b D own) (g3 g10 g8 g9 k j : Nat) (hb : ByteArray) (c3 : w.cell? ⟨g3, 0, none⟩ = some (.pointer (some ⟨b, 0, none⟩))) (c10 : w.cell? ⟨g10, 0, none⟩ = some (.int .i64 k))
    (c8 : w.cell? ⟨g8, 1, none⟩ = some (.string hb)) (c9 : w.cell? ⟨g9, 0, none⟩ = some (.int .i64 j)) (hj : j < 4) (hs : hb.size = 512) (hk : k ≤ 100000000000) (hll : D.loose.length ≤ 1000000) :
    Calls Try.prog 50 #[.pointer (some ⟨g3, 0, none⟩), .pointer (some ⟨g10, 0, none⟩), .pointer (some ⟨g8, 0, none⟩), .pointer (some ⟨g9, 0, none⟩)] w (StepPost (.int .i64 (PTwin.one D (.wr k (PTwin.piece hb.data.toList j))).2) b (PTwin.one D (.wr k (PTwin.piece hb.data.toList j))).1 own w) := by
  obtain ⟨A, hA⟩ : ∃ A : Nat, j * 128 = A := ⟨_, rfl⟩
  obtain ⟨B, hB⟩ : ∃ B : Nat, (j + 1) * 128 = B := ⟨_, rfl⟩
  obtain ⟨J, hJ⟩ : ∃ J : Nat, j + 1 = J := ⟨_, rfl⟩
  have HW : Hid (∀ W, IsDisk W b D own → Calls Try.prog 9 #[.pointer (some ⟨b, 0, none⟩), .int .i64 k, .string (hb.extract A B)] W (StepPost (.int .i64 (PTwin.one D (.wr k (PTwin.piece hb.data.toList j))).2) b (PTwin.one D (.wr k (PTwin.piece hb.data.toList j))).1 own W)) := Lib.hid (fun W hW => by
    have e : (hb.extract A B).data.toList = PTwin.piece hb.data.toList j := by
      rw [extract_mid, ← hA, show B - j * 128 = 128 by omega]
      rfl
    have := write_any W hW (k : Int) (hb.extract A B) (by rw [ByteArray.size_extract]; unfold maxLen; omega) (by omega) (by omega) hll
    rw [e] at this
    exact this)
  have H := Lib.hid h
  have w1 : IntKind.i64.wrap ((j : Int) * 128) = A := by rw [IntWalk.i64_in _ (by omega)]; omega
  have w2 : IntKind.i64.wrap ((j : Int) + 1) = J := by rw [IntWalk.i64_in _ (by omega)]; omega
  have w3 : IntKind.i64.wrap ((J : Int) * 128) = B := by rw [IntWalk.i64_in _ (by omega)]; omega
  have i1 : (A : Int) ≤ B := by omega
  have i2 : (B : Int) ≤ hb.size := by omega
  have i0 : (0 : Int) ≤ A := by omega
  have i3 : (0 : Int) ≤ B := by omega
  have n1 : A ≤ B := by omega
  have n2 : B ≤ hb.size := by omega
  clear hA hB hJ hj hs hk hll h
  go_enter Try.func50, Try.ntmps50
  go_wp2
  refine wp_region_still_tail 10 (by kernel_rfl) (by kernel_rfl) ?_
  simp only [List.take_succ_cons, List.take_zero, List.drop_succ_cons, List.drop_zero]
  refine still_of_quiet _ _ ?_
  repeat (go_big_quiet_step (fail))
  refine wpQuiet_nil ?_
  go_wp2_with fail
  refine (HW.out _ H.out.drew).mono ?_
  rintro e w2 ⟨own', rfl, hd, hst⟩
  go_wp2
  go_ret
  exact ⟨own', rfl, hd, hst.undrew⟩
theorem markC_any {b : Nat} {D : PDsk.Dsk} {own : List Nat} (w : World) (h : IsDisk w b D own) (g3 g4 g5 k : Nat) (s : ByteArray) (c3 : w.cell? ⟨g3, 0, none⟩ = some (.pointer (some ⟨b, 0, none⟩))) (c4 : w.cell? ⟨g4, 0, none⟩ = some (.int .i64 k))
    (c5 : w.cell? ⟨g5, 0, none⟩ = some (.string s)) (hs : s.size = 128) (hk : k ≤ 100000000000) (hll : D.loose.length ≤ 1000000) :
    Calls Try.prog 51 #[.pointer (some ⟨g3, 0, none⟩), .pointer (some ⟨g4, 0, none⟩), .pointer (some ⟨g5, 0, none⟩)] w (StepPost (.int .i64 (PTwin.one D (.wr k s.data.toList)).2) b (PTwin.one D (.wr k s.data.toList)).1 own w) := by
  have HW : Hid (∀ W, IsDisk W b D own → Calls Try.prog 9 #[.pointer (some ⟨b, 0, none⟩), .int .i64 k, .string s] W (StepPost (.int .i64 (PTwin.one D (.wr k s.data.toList)).2) b (PTwin.one D (.wr k s.data.toList)).1 own W)) := Lib.hid (fun W hW => write_any W hW (k : Int) s (by unfold maxLen; omega) (by omega) (by omega) hll)
  have H := Lib.hid h
  clear h hs hk hll
  go_enter Try.func51, Try.ntmps51
  go_wp2_with fail
  refine (HW.out _ H.out).mono ?_
  rintro e w2 ⟨own', rfl, hd, hst⟩
  go_wp2
  go_ret
  exact ⟨own', rfl, hd, hst⟩
/-! ### steps -/
set_option maxRecDepth 20000 in
set_option maxHeartbeats 2000000 in
theorem steps_any {b : Nat} {D : PDsk.Dsk} {own : List Nat} (w : World) (h : IsDisk w b D own) (lo : Nat) (hlo : ∀ k ∈ own, k < lo ∨ w.heap.size ≤ k) (v : Value) (xs : List Value) (cs : List PTwin.Cal)
    (hv : Sl w lo 37 1 v cs.length xs) (hc : Clos w b (fun g => lo ≤ g ∧ g < w.heap.size) xs cs) (hll : D.loose.length + cs.length ≤ 1000000) :
    Calls Try.prog 38 #[v] w (StepPost (.int .i64 (PTwin.steps D cs).2) b (PTwin.steps D cs).1 own w) := by
  have HV := Lib.hid hv
  have HC := Lib.hid hc
  have HLO := Lib.hid hlo
  have H0 := Lib.hid h
  obtain ⟨pv, cv, rfl⟩ := Sl.form hv
  have hlen : cs.length ≤ 1000000 := by omega
  clear hv hc hlo h
  go_enter Try.func38, Try.ntmps38
  go_wp2
  go_loopw [8] (fun iv wr => ∃ (k : Nat) (D' : PDsk.Dsk) (own' : List Nat), k ≤ cs.length ∧ iv = .int .i64 k ∧ Hid (PTwin.steps D cs = PTwin.steps D' (cs.drop k)) ∧ Hid (IsDisk wr b D' own' ∧ Stepped w wr own own') ∧ Hid (D'.loose.length ≤ D.loose.length + k)) (fun iv _ => cs.length - (intOf iv).toNat)
  case atStart => exact ⟨0, D, own, by omega, rfl, Lib.hid rfl, Lib.hid ⟨H0.out, Stepped.refl _ _⟩, Lib.hid (by omega)⟩
  case round =>
    obtain ⟨k, D', own', hk, rfl, HS, HD, HL⟩ := hrel
    by_cases hlt : k < cs.length
    · have i1 : (k : Int) < cs.length := by omega
      have hxl : k < xs.length := by rw [HC.out.1]; exact hlt
      have HCK := Lib.hid (HC.out.2 k hxl hlt)
      have hdrop : cs.drop k = cs[k] :: cs.drop (k + 1) := List.drop_eq_getElem_cons hlt
      have HSS : Hid (PTwin.steps D cs = if (PTwin.one D' cs[k]).2 = 0 then PTwin.steps (PTwin.one D' cs[k]).1 (cs.drop (k + 1)) else PTwin.one D' cs[k]) := Lib.hid (by rw [HS.out, hdrop]; rfl)
      have hL1 : D'.loose.length ≤ 1000000 := by have := HL.out; omega
      have HL2 : Hid ((PTwin.one D' cs[k]).1.loose.length ≤ D.loose.length + (k + 1)) := Lib.hid (by have := PTwin.one_loose D' cs[k]; have := HL.out; omega)
      -- the world of the round keeps the closures
      have HKE : Hid (∀ g, lo ≤ g → g < w.heap.size → wr.heap[g]? = w.heap[g]?) := Lib.hid (fun g h1 h2 => HD.out.2.1.block g h2 (fun hm => by have := HLO.out g hm; omega))
      have HCW := Lib.hid (HCK.out.keep (fun _ h => h) (fun g hg => HKE.out g hg.1 hg.2))
      have HVW := Lib.hid (HV.out.keep (w' := wr) (fun g hg => HKE.out g (HV.out.lt g hg).1 (HV.out.lt g hg).2))
      obtain ⟨g, off, cap, hpv, hcap⟩ : ∃ g off c, Value.slice pv cs.length cv = .slice (some ⟨g, off, none⟩) cs.length c ∧ cs.length ≤ c := by
        rcases HV.out.shape with ⟨_, h0, _⟩ | ⟨g, off, c, e1, e2⟩
        · omega
        · exact ⟨g, off, c, e1, e2⟩
      have hpv' := hpv
      simp only [Value.slice.injEq] at hpv'
      obtain ⟨rfl, _, rfl⟩ := hpv'
      have hcell := HVW.out.cell (j := k) hxl
      have hsz : cs.length ≤ 1000000 := hlen
      generalize hxk : xs[k] = x at *
      generalize hck : cs[k] = c at *
      clear hdrop hlt hxl hxk hck hpv
      have k0 : (0 : Int) ≤ k := by omega
      by_cases he : (PTwin.one D' c).2 = 0
      · have HSE : Hid (PTwin.steps D cs = PTwin.steps (PTwin.one D' c).1 (cs.drop (k + 1))) := Lib.hid (by rw [HSS.out, if_pos he])
        rcases HCW.out with ⟨g3, g10, g8, g9, q, j, hb, rfl, a1, a2, a3, a4, c1, c2, c3, c4, h1, h2, h3, rfl⟩ | ⟨g3, g4, g5, q, s, rfl, a1, a2, a3, c1, c2, c3, h1, h2, rfl⟩ | ⟨rfl, rfl⟩
        · clear HCW HCK HSS
          go_wp2_with fail
          refine (homeC_any _ HD.out.1 g3 g10 g8 g9 q j hb c1 c2 c3 c4 h1 h2 h3 hL1).mono ?_
          rintro e w2 ⟨own2, rfl, hd, hst⟩
          rw [he]
          have HDN := Lib.hid (⟨hd, HD.out.2.trans hst⟩ : _ ∧ _)
          clear hd hst he
          go_wp2
          exact ⟨⟨k + 1, _, own2, by omega, by go_num, HSE, HDN, HL2⟩, by simp [intOf]; omega⟩
        · clear HCW HCK HSS
          go_wp2_with fail
          refine (markC_any _ HD.out.1 g3 g4 g5 q s c1 c2 c3 h1 h2 hL1).mono ?_
          rintro e w2 ⟨own2, rfl, hd, hst⟩
          rw [he]
          have HDN := Lib.hid (⟨hd, HD.out.2.trans hst⟩ : _ ∧ _)
          clear hd hst he
          go_wp2
          exact ⟨⟨k + 1, _, own2, by omega, by go_num, HSE, HDN, HL2⟩, by simp [intOf]; omega⟩
        · clear HCW HCK HSS
          go_wp2_with fail
          refine (sync_any _ HD.out.1).mono ?_
          rintro e w2 ⟨own2, rfl, hd, hst⟩
          rw [show (PDsk.sync D').2 = 0 from he]
          have HDN := Lib.hid (⟨hd, HD.out.2.trans hst⟩ : _ ∧ _)
          clear hd hst he
          go_wp2
          exact ⟨⟨k + 1, (PTwin.one D' .sy).1, own2, by omega, by go_num, HSE, HDN, HL2⟩, by simp [intOf]; omega⟩
      · have HSE : Hid (PTwin.steps D cs = PTwin.one D' c) := Lib.hid (by rw [HSS.out, if_neg he])
        rcases HCW.out with ⟨g3, g10, g8, g9, q, j, hb, rfl, a1, a2, a3, a4, c1, c2, c3, c4, h1, h2, h3, rfl⟩ | ⟨g3, g4, g5, q, s, rfl, a1, a2, a3, c1, c2, c3, h1, h2, rfl⟩ | ⟨rfl, rfl⟩
        · clear HCW HCK HSS
          go_wp2_with fail
          refine (homeC_any _ HD.out.1 g3 g10 g8 g9 q j hb c1 c2 c3 c4 h1 h2 h3 hL1).mono ?_
          rintro e w2 ⟨own2, rfl, hd, hst⟩
          have HDN := Lib.hid (⟨hd, HD.out.2.trans hst⟩ : _ ∧ _)
          obtain ⟨ee, hee⟩ : ∃ ee, (PTwin.one D' (.wr q (PTwin.piece hb.data.toList j))).2 = ee := ⟨_, rfl⟩
          have HEE := Lib.hid hee
          rw [hee] at he ⊢
          have he2 : (ee != 0) = true := by simpa using he
          clear hd hst he hee
          go_wp2
          go_ret
          (rw [HSE.out, HEE.out]; exact ⟨own2, rfl, HDN.out.1, HDN.out.2⟩)
        · clear HCW HCK HSS
          go_wp2_with fail
          refine (markC_any _ HD.out.1 g3 g4 g5 q s c1 c2 c3 h1 h2 hL1).mono ?_
          rintro e w2 ⟨own2, rfl, hd, hst⟩
          have HDN := Lib.hid (⟨hd, HD.out.2.trans hst⟩ : _ ∧ _)
          obtain ⟨ee, hee⟩ : ∃ ee, (PTwin.one D' (.wr q s.data.toList)).2 = ee := ⟨_, rfl⟩
          have HEE := Lib.hid hee
          rw [hee] at he ⊢
          have he2 : (ee != 0) = true := by simpa using he
          clear hd hst he hee
          go_wp2
          go_ret
          (rw [HSE.out, HEE.out]; exact ⟨own2, rfl, HDN.out.1, HDN.out.2⟩)
        · clear HCW HCK HSS
          go_wp2_with fail
          refine (sync_any _ HD.out.1).mono ?_
          rintro e w2 ⟨own2, rfl, hd, hst⟩
          have HDN := Lib.hid (⟨hd, HD.out.2.trans hst⟩ : _ ∧ _)
          obtain ⟨ee, hee⟩ : ∃ ee, (PTwin.one D' .sy).2 = ee := ⟨_, rfl⟩
          have HEE := Lib.hid hee
          change Hid (PTwin.steps D cs = PTwin.one D' .sy) at HSE
          rw [show (PDsk.sync D').2 = ee from hee]
          rw [hee] at he
          have he2 : (ee != 0) = true := by simpa using he
          clear hd hst he hee
          go_wp2
          go_ret
          (rw [HSE.out, HEE.out]; exact ⟨own2, rfl, HDN.out.1, HDN.out.2⟩)
    · obtain rfl : k = cs.length := by omega
      have i1 : ¬ (cs.length : Int) < cs.length := by omega
      have HE : Hid (PTwin.steps D cs = (D', 0)) := Lib.hid (by rw [HS.out, List.drop_length]; rfl)
      go_wp2
      go_ret
      (rw [HE.out]; exact ⟨own', rfl, HD.out.1, HD.out.2⟩)
end Go.Proofs.Ytdkhmhlphhammaa
