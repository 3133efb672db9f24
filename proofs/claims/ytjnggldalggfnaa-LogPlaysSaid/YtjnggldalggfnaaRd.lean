/-
  Slices of one-cell elements that came in or were made, as they are read; small laws for the step to a law's row.
-/
import Derived.Test.YtjnggldalggfnaaKit
import Derived.Test.YtjnggldalggfnaaFrame
import Derived.SliceStrings
import Derived.ChangeSlices
import Derived.Deep.Grids
import Derived.OpenShut
namespace Go.Proofs.Ytjnggldalggfnaa
open Go.RowKit Go.ChangeShapes Go.WideShapes Go.Deep
/-- A slice value whose elements, a cell each, are known; nil too. -/
def Rd (w : World) (v : Value) (xs : List Value) : Prop := ∃ p c, v = .slice p xs.length c ∧ xs.length ≤ c ∧ c ≤ maxLen ∧ (xs ≠ [] → ∃ g off, p = some ⟨g, off, none⟩ ∧ g < w.heap.size ∧ ∀ j (h : j < xs.length), w.cell? ⟨g, off + j, none⟩ = some xs[j])
theorem Rd.below {w w' : World} {v : Value} {xs : List Value} (h : Rd w v xs) (hb : Below w.heap.size w w') : Rd w' v xs := by
  obtain ⟨p, c, h1, h2, h3, h4⟩ := h
  refine ⟨p, c, h1, h2, h3, fun hx => ?_⟩
  obtain ⟨g, off, e1, e2, e3⟩ := h4 hx
  exact ⟨g, off, e1, Nat.lt_of_lt_of_le e2 hb.size, fun j hj => (hb.cell (p := ⟨g, off + j, none⟩) e2).trans (e3 j hj)⟩
theorem Rd.of_sl {w : World} {base : Nat} {e : TypeId} {v : Value} {n : Nat} {xs : List Value} (h : Sl w base e 1 v n xs) : Rd w v xs := by
  have hl := h.1
  rw [Nat.mul_one] at hl
  subst hl
  rcases h.2 with ⟨rfl, h0⟩ | ⟨g, off, cap, cur, fz, rfl, hb, hgg, hf, hn, hc, hs, ht⟩
  · exact ⟨none, 0, by rw [h0], by omega, by unfold maxLen; omega, fun hx => absurd (List.length_eq_zero_iff.1 h0) hx⟩
  · exact ⟨_, cap, rfl, hn, hc, fun _ => ⟨g, off, rfl, (Array.getElem?_eq_some_iff.1 hgg).1, fun j hj => Sl.cell h hj⟩⟩
theorem Rd.take {w : World} {p : Option Addr} {n c : Nat} {xs : List Value} (h : Rd w (.slice p n c) xs) {k : Nat} (hk : k ≤ n) : Rd w (.slice p k c) (xs.take k) := by
  obtain ⟨p', c', h1, h2, h3, h4⟩ := h
  simp at h1
  obtain ⟨rfl, rfl, rfl⟩ := h1
  have hl : (xs.take k).length = k := by simp; omega
  refine ⟨p, c, by rw [hl], by omega, h3, fun hx => ?_⟩
  obtain ⟨g, off, e1, e2, e3⟩ := h4 (fun e => hx (by rw [e]; simp))
  exact ⟨g, off, e1, e2, fun j hj => by rw [e3 j (by omega)]; simp⟩
theorem cell_lt {w : World} {g o : Nat} {v : Value} (h : w.cell? ⟨g, o, none⟩ = some v) : g < w.heap.size := by
  unfold World.cell? at h
  by_cases hg : g < w.heap.size
  · exact hg
  · simp [Array.getElem?_eq_none (show w.heap.size ≤ g by omega)] at h
/-- Cells that stand at an address, one by one. -/
theorem Rd.of_cells {w : World} {a : Addr} {len cap : Nat} {f : Nat → Value} (hl : len ≤ cap) (hm : cap ≤ maxLen) (h : ∀ i, i < len → w.cell? (a.add i) = some (f i)) : Rd w (.slice (some a) len cap) ((List.range len).map f) := by
  refine ⟨some a, cap, by simp, by simpa using hl, hm, fun hx => ?_⟩
  have h0 : 0 < len := by
    rcases Nat.eq_zero_or_pos len with e | e
    · subst e; simp at hx
    · exact e
  obtain ⟨ab, ao, spot⟩ := a
  have hspot : spot = none := by simpa [Addr.add] using World.cell?_spot (h 0 h0)
  subst hspot
  refine ⟨ab, ao, rfl, ?_, fun j hj => ?_⟩
  · have := h 0 h0
    rw [Addr.add_mid] at this
    exact cell_lt this
  · have := h j (by simpa using hj)
    rw [Addr.add_mid] at this
    rw [this]; simp
theorem map_range_getD {α β : Type} (l : List α) (n : Nat) (hn : n ≤ l.length) (d : α) (f : α → β) : (List.range n).map (fun i => f (l.getD i d)) = (l.take n).map f := by
  apply List.ext_getElem
  · simp; omega
  · intro i h1 h2
    simp at h1
    simp [List.getD, List.getElem?_eq_getElem (show i < l.length by omega)]
section
variable {H : Type} {enc : TypeId × Value → H}
set_option maxRecDepth 20000 in
theorem rd_ints {W : World} {base : Nat} {t e : TypeId} {k : IntKind} {v : Value} {d : DataW H} {p : List MemPlace} (ht : Try.prog.underlying t = some (.slice e)) (he : Try.prog.underlying e = some (.int k)) (hc : Try.prog.cellsOf e = 1)
    (hval : Value.okWide Try.prog W .any base t v) (h : DataW.Trod enc Try.prog W 0 (fun _ => true) true t v d p) : ∃ zs : List Int, Rd W v (zs.map (Value.int k)) ∧ ∀ z ∈ zs, (Lit.int k z).wf = true := by
  obtain ⟨a0, len, cap, rfl⟩ := okWide_slice ht hval
  obtain ⟨fuel, hf⟩ := h
  rcases open_ints ht he hc hf with ⟨hcs, hx⟩ | ⟨a, len', cap', zs, hcs, _, hl, hm, hz, hx, hcell, hwz⟩
  · simp [Value.cells] at hcs
    obtain ⟨rfl, rfl, rfl⟩ := hcs
    exact ⟨[], ⟨none, 0, rfl, by simp, by unfold maxLen; omega, fun h => absurd rfl h⟩, by simp⟩
  · simp [Value.cells] at hcs
    obtain ⟨rfl, rfl, rfl⟩ := hcs
    simp only [if_true] at hz
    refine ⟨zs.take len, ?_, fun z hz' => hwz z (List.mem_of_mem_take hz')⟩
    rw [← map_range_getD zs len (by omega) 0]
    exact Rd.of_cells hl hm (fun i hi => hcell i (by omega))
set_option maxRecDepth 20000 in
theorem rd_strings {W : World} {base : Nat} {t e : TypeId} {v : Value} {d : DataW H} {p : List MemPlace} (ht : Try.prog.underlying t = some (.slice e)) (he : Try.prog.underlying e = some .string) (hc : Try.prog.cellsOf e = 1)
    (hval : Value.okWide Try.prog W .any base t v) (h : DataW.Trod enc Try.prog W 0 (fun _ => true) true t v d p) : ∃ ss : List ByteArray, Rd W v (ss.map Value.string) ∧ ∀ s ∈ ss, s.size ≤ maxLen := by
  obtain ⟨a0, len, cap, rfl⟩ := okWide_slice ht hval
  obtain ⟨fuel, hf⟩ := h
  rcases open_strings ht he hc hf with ⟨hcs, hx⟩ | ⟨a, len', cap', ss, hcs, _, hl, hm, hz, hx, hcell, hwz⟩
  · simp [Value.cells] at hcs
    obtain ⟨rfl, rfl, rfl⟩ := hcs
    exact ⟨[], ⟨none, 0, rfl, by simp, by unfold maxLen; omega, fun h => absurd rfl h⟩, by simp⟩
  · simp [Value.cells] at hcs
    obtain ⟨rfl, rfl, rfl⟩ := hcs
    simp only [if_true] at hz
    refine ⟨ss.take len, ?_, fun z hz' => hwz z (List.mem_of_mem_take hz')⟩
    rw [← map_range_getD ss len (by omega) ByteArray.empty]
    exact Rd.of_cells hl hm (fun i hi => hcell i (by omega))
set_option maxRecDepth 20000 in
theorem rd_bools {W : World} {base : Nat} {t e : TypeId} {v : Value} {d : DataW H} {p : List MemPlace} (ht : Try.prog.underlying t = some (.slice e)) (he : Try.prog.underlying e = some .bool) (hc : Try.prog.cellsOf e = 1)
    (hval : Value.okWide Try.prog W .any base t v) (h : DataW.Trod enc Try.prog W 0 (fun _ => true) true t v d p) : ∃ bs : List Bool, Rd W v (bs.map Value.bool) := by
  obtain ⟨a0, len, cap, rfl⟩ := okWide_slice ht hval
  obtain ⟨fuel, hf⟩ := h
  rcases open_bools ht he hc hf with ⟨hcs, hx⟩ | ⟨a, len', cap', B, hcs, _, hl, hm, hx, hcell⟩
  · simp [Value.cells] at hcs
    obtain ⟨rfl, rfl, rfl⟩ := hcs
    exact ⟨[], ⟨none, 0, rfl, by simp, by unfold maxLen; omega, fun h => absurd rfl h⟩⟩
  · simp [Value.cells] at hcs
    obtain ⟨rfl, rfl, rfl⟩ := hcs
    refine ⟨(List.range len).map B, ?_⟩
    rw [List.map_map]
    exact Rd.of_cells hl hm (fun i hi => hcell i (by omega))
end
end Go.Proofs.Ytjnggldalggfnaa
