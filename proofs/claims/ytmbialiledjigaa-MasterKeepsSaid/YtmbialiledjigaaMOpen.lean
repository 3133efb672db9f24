/-
  Masters that came in: one by value, a list of them.
-/
import Derived.Test.YtmbialiledjigaaRd
import Derived.Test.YtmbialiledjigaaMst
import Derived.Deep.Slices
import Derived.ChangeArms
import Derived.SizedLaws
namespace Go.Proofs.Ytmbialiledjigaa
open Go.RowKit Go.ChangeShapes Go.WideShapes Go.Deep
open PMst (Mst)
def fiveL (m : Mst) : List Value := [.int .u64 m.count, .int .u64 m.life, .int .u64 m.check, .int .u64 m.first, .bool m.clean]
theorem list5 {α : Type} {l : List α} (h : l.length = 5) : ∃ a b c d e, l = [a, b, c, d, e] := by
  match l, h with
  | [a, b, c, d, e], _ => exact ⟨a, b, c, d, e, rfl⟩
section
variable {H : Type} {enc : TypeId × Value → H}
theorem strctM : ∃ f0 f1 f2 f3 f4 : Field, Try.prog.underlying 24 = some (.struct #[f0, f1, f2, f3, f4]) ∧ (f0.offset = 0 ∧ f1.offset = 1 ∧ f2.offset = 2 ∧ f3.offset = 3 ∧ f4.offset = 4) ∧
    (f0.type = 22 ∧ f1.type = 22 ∧ f2.type = 22 ∧ f3.type = 22 ∧ f4.type = 4) :=
  ⟨_, _, _, _, _, Try.underlying24, ⟨rfl, rfl, rfl, rfl, rfl⟩, ⟨rfl, rfl, rfl, rfl, rfl⟩⟩
theorem cM_u64 : Try.prog.cellsOf 22 = 1 := by kernel_rfl
theorem cM_bool : Try.prog.cellsOf 4 = 1 := by kernel_rfl
theorem cM_mst : Try.prog.cellsOf 24 = 5 := by kernel_rfl
/-- five cells that read as a master -/
theorem cells_mst {W : World} {k : Nat} {cs : List Value} {x : DataW H × List MemPlace} (hlen : cs.length = 5) (h : DataW.trod enc Try.prog W 0 (fun _ => true) true k 24 cs = some x) : ∃ m : Mst, m.Ok ∧ cs = (fiveL m) := by
  obtain ⟨f0, f1, f2, f3, f4, hst, ⟨o0, o1, o2, o3, o4⟩, ⟨t0, t1, t2, t3, t4⟩⟩ := strctM
  obtain ⟨xs, k', hk, hxy, _, hxl, hfd⟩ := DataW.trod_struct hst h
  obtain ⟨y0, y1, y2, y3, y4, rfl⟩ := list5 (show xs.length = 5 from hxl)
  obtain ⟨v0, v1, v2, v3, v4, rfl⟩ := list5 hlen
  have g0 := hfd 0 f0 rfl
  have g1 := hfd 1 f1 rfl
  have g2 := hfd 2 f2 rfl
  have g3 := hfd 3 f3 rfl
  have g4 := hfd 4 f4 rfl
  simp [o0, o1, o2, o3, o4, t0, t1, t2, t3, t4, cM_u64, cM_bool] at g0 g1 g2 g3 g4
  obtain ⟨z0, e0, _, w0⟩ := DataW.trod_int Try.underlying22 g0
  obtain ⟨z1, e1, _, w1⟩ := DataW.trod_int Try.underlying22 g1
  obtain ⟨z2, e2, _, w2⟩ := DataW.trod_int Try.underlying22 g2
  obtain ⟨z3, e3, _, w3⟩ := DataW.trod_int Try.underlying22 g3
  obtain ⟨z4, e4, _⟩ := DataW.trod_bool Try.underlying4 g4
  simp at e0 e1 e2 e3 e4
  subst e0; subst e1; subst e2; subst e3; subst e4
  have b0 := bounds_u64 w0
  have b1 := bounds_u64 w1
  have b2 := bounds_u64 w2
  have b3 := bounds_u64 w3
  obtain ⟨z0, rfl⟩ := Int.eq_ofNat_of_zero_le b0.1
  obtain ⟨z1, rfl⟩ := Int.eq_ofNat_of_zero_le b1.1
  obtain ⟨z2, rfl⟩ := Int.eq_ofNat_of_zero_le b2.1
  obtain ⟨z3, rfl⟩ := Int.eq_ofNat_of_zero_le b3.1
  exact ⟨⟨z0, z1, z2, z3, z4⟩, ⟨by show z0 < _; omega, by show z1 < _; omega, by show z2 < _; omega, by show z3 < _; omega⟩, rfl⟩
theorem open_mst {W : World} {base : Nat} {v : Value} {d : DataW H} {p : List MemPlace} (hval : Value.okWide Try.prog W .any base 24 v) (h : DataW.Trod enc Try.prog W 0 (fun _ => true) true 24 v d p) : ∃ m : Mst, v = mv m ∧ m.Ok := by
  obtain ⟨f0, f1, f2, f3, f4, hst, _⟩ := strctM
  obtain ⟨cs, rfl, hsz⟩ := okWide_struct hst hval
  obtain ⟨fuel, hf⟩ := h
  obtain ⟨m, hm, hcs⟩ := cells_mst (by have := hsz.trans cM_mst; simpa [Value.cells] using this) hf
  refine ⟨m, ?_, hm⟩
  have : cs.toList = fiveL m := by simpa [Value.cells] using hcs
  show Value.agg cs = .agg (fiveL m).toArray
  rw [← this]
def MstAt (w : World) (g o : Nat) (x : Mst) : Prop := w.cell? ⟨g, o, none⟩ = some (.int .u64 x.count) ∧ w.cell? ⟨g, o + 1, none⟩ = some (.int .u64 x.life) ∧ w.cell? ⟨g, o + 2, none⟩ = some (.int .u64 x.check) ∧ w.cell? ⟨g, o + 3, none⟩ = some (.int .u64 x.first) ∧ w.cell? ⟨g, o + 4, none⟩ = some (.bool x.clean)
def RdMsts (w : World) (v : Value) (cs : List Mst) : Prop := ∃ p c, v = .slice p cs.length c ∧ cs.length ≤ c ∧ c ≤ maxLen ∧ (cs ≠ [] → ∃ g off, p = some ⟨g, off, none⟩ ∧ g < w.heap.size ∧ ∀ i (h : i < cs.length), MstAt w g (off + i * 5) cs[i])
theorem MstAt.below {w w' : World} {g o : Nat} {x : Mst} (h : MstAt w g o x) {B : Nat} (hg : g < B) (hb : Below B w w') : MstAt w' g o x := by
  obtain ⟨h0, h1, h2, h3, h4⟩ := h
  exact ⟨(hb.cell (p := ⟨g, o, none⟩) hg).trans h0, (hb.cell (p := ⟨g, o + 1, none⟩) hg).trans h1, (hb.cell (p := ⟨g, o + 2, none⟩) hg).trans h2, (hb.cell (p := ⟨g, o + 3, none⟩) hg).trans h3, (hb.cell (p := ⟨g, o + 4, none⟩) hg).trans h4⟩
theorem rd_msts {W : World} {base : Nat} {v : Value} {d : DataW H} {p : List MemPlace} (hval : Value.okWide Try.prog W .any base 43 v) (h : DataW.Trod enc Try.prog W 0 (fun _ => true) true 43 v d p) : ∃ cs : List Mst, RdMsts W v cs ∧ ∀ x ∈ cs, x.Ok := by
  obtain ⟨a0, len, cap, rfl⟩ := okWide_slice Try.underlying43 hval
  obtain ⟨fuel, hf⟩ := h
  rcases open_slice Try.underlying43 hf with ⟨hcs, hx⟩ | ⟨a, len', cap', m, n, D, Pl, hcs, _, hl, hm, hmm, hx, hel⟩
  · simp [Value.cells] at hcs
    obtain ⟨rfl, rfl, rfl⟩ := hcs
    exact ⟨[], ⟨none, 0, rfl, by simp, by unfold maxLen; omega, fun h => absurd rfl h⟩, by simp⟩
  simp [Value.cells] at hcs
  obtain ⟨rfl, rfl, rfl⟩ := hcs
  simp only [if_true] at hmm
  subst hmm
  have each : ∀ i, i < len → ∃ x : Mst, x.Ok ∧ (∀ ab ao, a = ⟨ab, ao, none⟩ → MstAt W ab (ao + i * 5) x) ∧ W.cell? (a.add (i * 5)) = some (.int .u64 x.count) := by
    intro i hi
    obtain ⟨cs', h1, h2⟩ := hel i (by omega)
    rw [cM_mst] at h1
    obtain ⟨_, hlen, hcell⟩ := World.cells?_some h1
    obtain ⟨m, hm, rfl⟩ := cells_mst hlen h2
    have hc := fun j (hj : j < 5) => hcell j hj
    have d0 := hc 0 (by omega)
    refine ⟨m, hm, ?_, by simpa [Addr.add, fiveL] using d0⟩
    rintro ab ao rfl
    have dd : ∀ j (hj : j < 5), W.cell? ⟨ab, ao + i * 5 + j, none⟩ = (fiveL m)[j]? := by
      intro j hj
      have := hc j hj
      rw [Addr.add_mid, Addr.add_mid] at this
      exact this
    exact ⟨dd 0 (by omega), dd 1 (by omega), dd 2 (by omega), dd 3 (by omega), dd 4 (by omega)⟩
  obtain ⟨f, hf'⟩ : ∃ f : Nat → Mst, ∀ i, i < len → (f i).Ok ∧ (∀ ab ao, a = ⟨ab, ao, none⟩ → MstAt W ab (ao + i * 5) (f i)) ∧ W.cell? (a.add (i * 5)) = some (.int .u64 (f i).count) := by
    obtain ⟨f, hf'⟩ := Classical.axiomOfChoice (r := fun (i : Nat) (x : Mst) => i < len → x.Ok ∧ (∀ ab ao, a = ⟨ab, ao, none⟩ → MstAt W ab (ao + i * 5) x) ∧ W.cell? (a.add (i * 5)) = some (.int .u64 x.count)) (fun i => by
      by_cases hi : i < len
      · obtain ⟨x, hx⟩ := each i hi; exact ⟨x, fun _ => hx⟩
      · exact ⟨PMst.zero, fun h => absurd h hi⟩)
    exact ⟨f, hf'⟩
  refine ⟨(List.range len).map f, ⟨some a, m, by simp, by simpa using hl, hm, fun hx => ?_⟩, ?_⟩
  · have h0 : 0 < len := by
      rcases Nat.eq_zero_or_pos len with e | e
      · subst e; simp at hx
      · exact e
    obtain ⟨ab, ao, spot⟩ := a
    have hspot : spot = none := by simpa [Addr.add] using World.cell?_spot (hf' 0 h0).2.2
    subst hspot
    have hc0 := ((hf' 0 h0).2.1 ab ao rfl).1
    exact ⟨ab, ao, rfl, cell_lt hc0, fun i hi => by
      have hi' : i < len := by simpa using hi
      simpa using (hf' i hi').2.1 ab ao rfl⟩
  · intro x hx
    obtain ⟨i, hi, rfl⟩ := List.mem_map.1 hx
    exact (hf' i (List.mem_range.1 hi)).1
end
end Go.Proofs.Ytmbialiledjigaa
