/-
  A list of acts on a log that came in.
-/
import Derived.Test.YtjnggldalggfnaaRd
import Derived.Test.YtjnggldalggfnaaBase
import Derived.Deep.Slices
import Derived.ChangeArms
import Derived.SizedLaws
import Derived.Deep.QuietTactic
import Derived.BigQuiet
namespace Go.Proofs.Ytjnggldalggfnaa
open Go.RowKit Go.ChangeShapes Go.WideShapes Go.Deep
theorem list6 {α : Type} {l : List α} (h : l.length = 6) : ∃ a b c d e f, l = [a, b, c, d, e, f] := by
  match l, h with
  | [a, b, c, d, e, f], _ => exact ⟨a, b, c, d, e, f, rfl⟩
structure ActM where
  dO : Nat
  s : ByteArray
  lsn : Nat
  which : Nat
  n : Int
  kv : Value
  keep : List Bool
def ActAt (w : World) (g o : Nat) (x : ActM) : Prop := w.cell? ⟨g, o, none⟩ = some (.int .u8 x.dO) ∧ w.cell? ⟨g, o + 1, none⟩ = some (.string x.s) ∧ w.cell? ⟨g, o + 2, none⟩ = some (.int .u64 x.lsn) ∧ w.cell? ⟨g, o + 3, none⟩ = some (.int .u8 x.which) ∧
  w.cell? ⟨g, o + 4, none⟩ = some (.int .i64 x.n) ∧ w.cell? ⟨g, o + 5, none⟩ = some x.kv ∧ Rd w x.kv (x.keep.map Value.bool)
def ActM.Ok (x : ActM) : Prop := x.dO < 256 ∧ x.s.size ≤ 140737488351232 ∧ x.lsn < 18446744073709551616 ∧ x.which < 256 ∧ -9223372036854775808 ≤ x.n ∧ x.n ≤ 9223372036854775807 ∧ x.keep.length ≤ 140737488351232
def RdActs (w : World) (v : Value) (cs : List ActM) : Prop := ∃ p c, v = .slice p cs.length c ∧ cs.length ≤ c ∧ c ≤ maxLen ∧ (cs ≠ [] → ∃ g off, p = some ⟨g, off, none⟩ ∧ g < w.heap.size ∧ ∀ i (h : i < cs.length), ActAt w g (off + i * 6) cs[i])
theorem ActAt.below {w w' : World} {g o : Nat} {x : ActM} (h : ActAt w g o x) (hg : g < w.heap.size) (hb : Below w.heap.size w w') : ActAt w' g o x := by
  obtain ⟨h0, h1, h2, h3, h4, h5, h6⟩ := h
  exact ⟨(hb.cell (p := ⟨g, o, none⟩) hg).trans h0, (hb.cell (p := ⟨g, o + 1, none⟩) hg).trans h1, (hb.cell (p := ⟨g, o + 2, none⟩) hg).trans h2, (hb.cell (p := ⟨g, o + 3, none⟩) hg).trans h3,
    (hb.cell (p := ⟨g, o + 4, none⟩) hg).trans h4, (hb.cell (p := ⟨g, o + 5, none⟩) hg).trans h5, h6.below hb⟩
section
variable {H : Type} {enc : TypeId × Value → H}
theorem mem_weightsAll {P : Program} {e : TypeId} : ∀ {l : List (DataW H)} {d : DataW H} {n : Nat}, d ∈ l → n ∈ d.weights P e → n ∈ DataW.weightsAll P e l
  | d0 :: l, d, n, hd, hn => by
    simp only [DataW.weightsAll, List.mem_append]
    rcases List.mem_cons.1 hd with rfl | hd
    · exact .inl hn
    · exact .inr (mem_weightsAll hd hn)
theorem strct : ∃ f0 f1 f2 f3 f4 f5 : Field, Try.prog.underlying 46 = some (.struct #[f0, f1, f2, f3, f4, f5]) ∧ (f0.offset = 0 ∧ f1.offset = 1 ∧ f2.offset = 2 ∧ f3.offset = 3 ∧ f4.offset = 4 ∧ f5.offset = 5) ∧
    (f0.type = 5 ∧ f1.type = 9 ∧ f2.type = 22 ∧ f3.type = 5 ∧ f4.type = 3 ∧ f5.type = 44) :=
  ⟨_, _, _, _, _, _, Try.underlying46, ⟨rfl, rfl, rfl, rfl, rfl, rfl⟩, ⟨rfl, rfl, rfl, rfl, rfl, rfl⟩⟩
theorem c_u8 : Try.prog.cellsOf 5 = 1 := by kernel_rfl
theorem c_u64 : Try.prog.cellsOf 22 = 1 := by kernel_rfl
theorem c_int : Try.prog.cellsOf 3 = 1 := by kernel_rfl
theorem c_bool : Try.prog.cellsOf 4 = 1 := by kernel_rfl
theorem c_str : Try.prog.cellsOf 9 = 1 := by kernel_rfl
theorem c_bools : Try.prog.cellsOf 44 = 1 := by kernel_rfl
theorem c_act : Try.prog.cellsOf 46 = 6 := by kernel_rfl
theorem b_bool : Try.prog.bytesOf 4 = 1 := by kernel_rfl
set_option maxRecDepth 20000 in
theorem rd_acts {W : World} {base : Nat} {v : Value} {d : DataW H} {p : List MemPlace} (hval : Value.okWide Try.prog W .any base 38 v) (h : DataW.Trod enc Try.prog W 0 (fun _ => true) true 38 v d p)
    (hsz : ∀ n ∈ d.weights Try.prog 38, n ≤ reachBytes) : ∃ cs : List ActM, RdActs W v cs ∧ ∀ x ∈ cs, x.Ok := by
  obtain ⟨a0, len, cap, rfl⟩ := okWide_slice Try.underlying38 hval
  obtain ⟨fuel, hf⟩ := h
  rcases open_slice Try.underlying38 hf with ⟨hcs, hx⟩ | ⟨a, len', cap', m, n, D, Pl, hcs, _, hl, hm, hmm, hx, hel⟩
  · simp [Value.cells] at hcs
    obtain ⟨rfl, rfl, rfl⟩ := hcs
    exact ⟨[], ⟨none, 0, rfl, by simp, by unfold maxLen; omega, fun h => absurd rfl h⟩, by simp⟩
  simp [Value.cells] at hcs
  obtain ⟨rfl, rfl, rfl⟩ := hcs
  simp only [if_true] at hmm
  subst hmm
  simp only [Prod.mk.injEq] at hx
  obtain ⟨rfl, _⟩ := hx
  obtain ⟨f0, f1, f2, f3, f4, f5, hst, ⟨o0, o1, o2, o3, o4, o5⟩, ⟨t0, t1, t2, t3, t4, t5⟩⟩ := strct
  have each : ∀ i, i < len → ∃ x : ActM, x.Ok ∧ (∀ ab ao, a = ⟨ab, ao, none⟩ → ActAt W ab (ao + i * 6) x) ∧ W.cell? (a.add (i * 6)) = some (.int .u8 x.dO) := by
    intro i hi
    obtain ⟨cs', h1, h2⟩ := hel i (by omega)
    rw [c_act] at h1
    obtain ⟨_, hlen, hcell⟩ := World.cells?_some h1
    obtain ⟨xs, k, hk, hxy, _, hxl, hfd⟩ := DataW.trod_struct hst h2
    simp only [Prod.mk.injEq] at hxy
    have hw : ∀ n ∈ DataW.weightsEach Try.prog [f0.type, f1.type, f2.type, f3.type, f4.type, f5.type] (xs.map (·.1)), n ≤ reachBytes := by
      intro n hn
      refine hsz n ?_
      simp only [DataW.weights, Try.underlying38]
      refine List.mem_cons_of_mem _ (List.mem_append_left _ (mem_weightsAll (d := D i) (List.mem_map.2 ⟨i, List.mem_range.2 hi, rfl⟩) ?_))
      rw [hxy.1]
      simp only [DataW.weights, hst]
      exact hn
    obtain ⟨y0, y1, y2, y3, y4, y5, rfl⟩ := list6 (show xs.length = 6 from hxl)
    obtain ⟨v0, v1, v2, v3, v4, v5, rfl⟩ := list6 hlen
    · skip
      have g0 := hfd 0 f0 rfl
      have g1 := hfd 1 f1 rfl
      have g2 := hfd 2 f2 rfl
      have g3 := hfd 3 f3 rfl
      have g4 := hfd 4 f4 rfl
      have g5 := hfd 5 f5 rfl
      simp [o0, o1, o2, o3, o4, o5, t0, t1, t2, t3, t4, t5, c_u8, c_int, c_u64, c_str, c_bools] at g0 g1 g2 g3 g4 g5
      obtain ⟨z0, e0, _, w0⟩ := DataW.trod_int Try.underlying5 g0
      obtain ⟨z1, e1, x1, w1⟩ := DataW.trod_string Try.underlying9 g1
      obtain ⟨z2, e2, _, w2⟩ := DataW.trod_int Try.underlying22 g2
      obtain ⟨z3, e3, _, w3⟩ := DataW.trod_int Try.underlying5 g3
      obtain ⟨z4, e4, _, w4⟩ := DataW.trod_int Try.underlying3 g4
      simp at e0 e1 e2 e3 e4
      subst e0; subst e1; subst e2; subst e3; subst e4
      have b0 := bounds_u8 w0
      have b2 := bounds_u64 w2
      have b3 := bounds_u8 w3
      have b4 := bounds_i64 w4
      obtain ⟨z0, rfl⟩ := Int.eq_ofNat_of_zero_le b0.1
      obtain ⟨z2, rfl⟩ := Int.eq_ofNat_of_zero_le b2.1
      obtain ⟨z3, rfl⟩ := Int.eq_ofNat_of_zero_le b3.1
      have s1 : z1.size ≤ 140737488351232 := by
        have := hw z1.data.toList.length (DataW.weights_mem_each (j := 1) (t := f1.type) (d := y1.1) rfl rfl _ (by rw [x1]; simp [DataW.weights]))
        exact size_reach this
      have hkeep : ∃ bs : List Bool, Rd W v5 (bs.map Value.bool) ∧ bs.length ≤ 140737488351232 := by
        rcases open_bools Try.underlying44 Try.underlying4 c_bool g5 with ⟨hcs, hx⟩ | ⟨a6, len6, cap6, B, hcs, _, hl6, hm6, hx6, hcell6⟩
        · simp at hcs
          subst hcs
          exact ⟨[], ⟨none, 0, rfl, by simp, by unfold maxLen; omega, fun h => absurd rfl h⟩, by simp⟩
        · simp at hcs
          subst hcs
          refine ⟨(List.range len6).map B, ?_, ?_⟩
          · rw [List.map_map]
            exact Rd.of_cells hl6 hm6 (fun i hi => hcell6 i (by omega))
          · have h6 : y5.1 = boolRow (some a6) len6 cap6 B := by rw [hx6]
            have := hw ((len6 + (cap6 - len6)) * 1) (DataW.weights_mem_each (j := 5) (t := f5.type) (d := y5.1) rfl rfl _ (by
              rw [h6, t5]
              simp [boolRow, DataW.weights, Try.underlying44, b_bool]))
            have h47 : reachBytes = 140737488351232 := by decide
            rw [List.length_map, List.length_range]
            omega
      obtain ⟨bs, hb6, hbl⟩ := hkeep
      have hc := fun j (hj : j < 6) => hcell j hj
      have d0 := hc 0 (by omega)
      refine ⟨⟨z0, z1, z2, z3, z4, v5, bs⟩, ⟨by show z0 < 256; omega, s1, by show z2 < _; omega, by show z3 < 256; omega, b4.1, b4.2, hbl⟩, ?_, by simpa [Addr.add] using d0⟩
      rintro ab ao rfl
      have dd : ∀ j (hj : j < 6), W.cell? ⟨ab, ao + i * 6 + j, none⟩ = [Value.int .u8 (z0 : Int), .string z1, .int .u64 (z2 : Int), .int .u8 (z3 : Int), .int .i64 z4, v5][j]? := by
        intro j hj
        have := hc j hj
        rw [Addr.add_mid, Addr.add_mid] at this
        exact this
      exact ⟨dd 0 (by omega), dd 1 (by omega), dd 2 (by omega), dd 3 (by omega), dd 4 (by omega), dd 5 (by omega), hb6⟩
  obtain ⟨f, hf'⟩ : ∃ f : Nat → ActM, ∀ i, i < len → (f i).Ok ∧ (∀ ab ao, a = ⟨ab, ao, none⟩ → ActAt W ab (ao + i * 6) (f i)) ∧ W.cell? (a.add (i * 6)) = some (.int .u8 (f i).dO) := by
    obtain ⟨f, hf'⟩ := Classical.axiomOfChoice (r := fun (i : Nat) (x : ActM) => i < len → x.Ok ∧ (∀ ab ao, a = ⟨ab, ao, none⟩ → ActAt W ab (ao + i * 6) x) ∧ W.cell? (a.add (i * 6)) = some (.int .u8 x.dO)) (fun i => by
      by_cases hi : i < len
      · obtain ⟨x, hx⟩ := each i hi; exact ⟨x, fun _ => hx⟩
      · exact ⟨⟨0, ByteArray.empty, 0, 0, 0, .bool false, []⟩, fun h => absurd h hi⟩)
    exact ⟨f, hf'⟩
  refine ⟨(List.range len).map f, ⟨some a, m, by simp, by simpa using hl, hm, fun hx => ?_⟩, ?_⟩
  · have h0 : 0 < len := by
      rcases Nat.eq_zero_or_pos len with e | e
      · subst e; simp at hx
      · exact e
    obtain ⟨ab, ao, spot⟩ := a
    have hspot : spot = none := by simpa [Addr.add] using World.cell?_spot (hf' 0 h0).2.2
    subst hspot
    have hc0 := ((hf' 0 h0).2.1 ab ao rfl).1
    exact ⟨ab, ao, rfl, cell_lt hc0, fun i hi => by
      have hi' : i < len := by simpa using hi
      simpa using (hf' i hi').2.1 ab ao rfl⟩
  · intro x hx
    obtain ⟨i, hi, rfl⟩ := List.mem_map.1 hx
    exact (hf' i (List.mem_range.1 hi)).1
end
end Go.Proofs.Ytjnggldalggfnaa
