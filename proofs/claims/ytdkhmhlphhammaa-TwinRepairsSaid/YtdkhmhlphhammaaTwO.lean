/-
  Twin: a row of puts that came in.
-/
import Derived.Test.YtdkhmhlphhammaaTwG
import Derived.Test.YtdkhmhlphhammaaRd
import Derived.Test.YtdkhmhlphhammaaFrame
import Derived.Deep.Slices
import Derived.ChangeArms
import Derived.SizedLaws
import Derived.OpenShut
namespace Go.Proofs.Ytdkhmhlphhammaa
open Go.RowKit Go.ChangeShapes Go.WideShapes Go.Deep
open PTwin (Pt)
theorem lst3 {α : Type} {l : List α} (h : l.length = 3) : ∃ a b c, l = [a, b, c] := by
  match l, h with
  | [a, b, c], _ => exact ⟨a, b, c, rfl⟩
section
variable {H : Type} {enc : TypeId × Value → H}
theorem cR_u8 : Try.prog.cellsOf 5 = 1 := by kernel_rfl
theorem cR_put : Try.prog.cellsOf 64 = 3 := by kernel_rfl
theorem nat_u8 {z : Int} (h : (Lit.int .u8 z).wf = true) : ∃ n : Nat, z = n ∧ n < 256 := by
  have e1 : IntKind.u8.min = 0 := by decide
  have e2 : IntKind.u8.max = 255 := by decide
  simp [Lit.wf, e1, e2] at h
  obtain ⟨n, rfl⟩ := Int.eq_ofNat_of_zero_le (show 0 ≤ z by omega)
  exact ⟨n, rfl, by omega⟩
theorem put_cells_in {W : World} {k : Nat} {cs : List Value} {x : DataW H × List MemPlace} (hlen : cs.length = 3) (h : DataW.trod enc Try.prog W 0 (fun _ => true) true k 64 cs = some x) : ∃ d : Pt, d.Ok ∧ cs = [.int .u8 d.page, .int .u8 d.c, .int .u8 d.n] := by
  obtain ⟨f0, f1, f2, hst, ⟨o0, o1, o2⟩, ⟨t0, t1, t2⟩⟩ : ∃ f0 f1 f2 : Field, Try.prog.underlying 64 = some (.struct #[f0, f1, f2]) ∧ (f0.offset = 0 ∧ f1.offset = 1 ∧ f2.offset = 2) ∧ (f0.type = 5 ∧ f1.type = 5 ∧ f2.type = 5) := ⟨_, _, _, Try.underlying64, ⟨rfl, rfl, rfl⟩, ⟨rfl, rfl, rfl⟩⟩
  obtain ⟨xs, k', hk, hxy, _, hxl, hfd⟩ := DataW.trod_struct hst h
  obtain ⟨y0, y1, y2, rfl⟩ := lst3 (show xs.length = 3 from hxl)
  obtain ⟨v0, v1, v2, rfl⟩ := lst3 hlen
  have g0 := hfd 0 f0 rfl
  have g1 := hfd 1 f1 rfl
  have g2 := hfd 2 f2 rfl
  simp [o0, o1, o2, t0, t1, t2, cR_u8] at g0 g1 g2
  obtain ⟨z0, e0, _, w0⟩ := DataW.trod_int Try.underlying5 g0
  obtain ⟨z1, e1, _, w1⟩ := DataW.trod_int Try.underlying5 g1
  obtain ⟨z2, e2, _, w2⟩ := DataW.trod_int Try.underlying5 g2
  simp at e0 e1 e2
  subst e0; subst e1; subst e2
  obtain ⟨n0, rfl, b0⟩ := nat_u8 w0
  obtain ⟨n1, rfl, b1⟩ := nat_u8 w1
  obtain ⟨n2, rfl, b2⟩ := nat_u8 w2
  exact ⟨⟨n0, n1, n2⟩, ⟨b0, b1, b2⟩, rfl⟩
/-- a list of elements of m cells each, opened -/
theorem list_cells {α : Type} {W : World} {t e : TypeId} {m fuel : Nat} {cs : List Value} {x : DataW H × List MemPlace} (f : α → List Value) (P : α → Prop) (hm0 : 0 < m) (hf : ∀ a, (f a).length = m) (d0 : α) (ht : Try.prog.underlying t = some (.slice e)) (hc : Try.prog.cellsOf e = m)
    (hel : ∀ {k : Nat} {cs : List Value} {x : DataW H × List MemPlace}, cs.length = m → DataW.trod enc Try.prog W 0 (fun _ => true) true k e cs = some x → ∃ a, P a ∧ cs = f a)
    (h : DataW.trod enc Try.prog W 0 (fun _ => true) true fuel t cs = some x) : ∃ (l : List α) (v : Value), cs = [v] ∧ (∀ a ∈ l, P a) ∧ RdS W m v l.length (l.flatMap f) := by
  have hfl : ∀ l : List α, (l.flatMap f).length = l.length * m := fun l => by
    induction l with
    | nil => simp
    | cons a l ih => rw [List.flatMap_cons, List.length_append, ih, hf, List.length_cons, Nat.succ_mul, Nat.add_comm]
  rcases open_slice ht h with ⟨hcs, hx⟩ | ⟨a, len, cap, mm, n, D, Pl, hcs, _, hl, hm, hmm, hx, hall⟩
  · exact ⟨[], _, hcs, (fun _ h => by cases h), by simpa using RdS.nil W m⟩
  simp only [if_true] at hmm
  subst hmm
  have each : ∀ i, i < len → ∃ y : α, P y ∧ W.cells? 0 (a.add (i * m)) m = some (f y) := by
    intro i hi
    obtain ⟨cs', h1, h2⟩ := hall i (by omega)
    rw [hc] at h1
    obtain ⟨_, hlen, _⟩ := World.cells?_some h1
    obtain ⟨y, hy, rfl⟩ := hel hlen h2
    exact ⟨y, hy, h1⟩
  obtain ⟨g, hg⟩ : ∃ g : Nat → α, ∀ i, i < len → P (g i) ∧ W.cells? 0 (a.add (i * m)) m = some (f (g i)) := by
    obtain ⟨g, hg⟩ := Classical.axiomOfChoice (r := fun (i : Nat) (y : α) => i < len → P y ∧ W.cells? 0 (a.add (i * m)) m = some (f y)) (fun i => by
      by_cases hi : i < len
      · obtain ⟨y, hy⟩ := each i hi; exact ⟨y, fun _ => hy⟩
      · exact ⟨d0, fun h => absurd h hi⟩)
    exact ⟨g, hg⟩
  refine ⟨(List.range len).map g, _, hcs, ?_, ?_⟩
  · intro y hy
    obtain ⟨i, hi, rfl⟩ := List.mem_map.1 hy
    exact (hg i (List.mem_range.1 hi)).1
  · rw [List.length_map, List.length_range]
    refine ⟨by rw [hfl]; simp, some a, _, rfl, hl, hm, fun hx => ?_⟩
    have h0 : 0 < len := by omega
    have hat : ∀ i, i < len → ∀ j, j < m → W.cell? ((a.add (i * m)).add j) = (f (g i))[j]? := fun i hi j hj => by
      obtain ⟨_, _, hcell⟩ := World.cells?_some (hg i hi).2
      exact hcell j hj
    obtain ⟨ab, ao, spot⟩ := a
    have h00 := hat 0 h0 0 hm0
    obtain ⟨u, hu⟩ : ∃ u, (f (g 0))[0]? = some u := ⟨_, List.getElem?_eq_getElem (by rw [hf]; exact hm0)⟩
    have hspot : spot = none := by
      rw [hu] at h00
      have := World.cell?_spot h00
      simpa [Addr.add] using this
    subst hspot
    have hlt : ab < W.heap.size := by
      rw [hu] at h00
      have := World.block_lt_of_cell? _ _ h00
      simpa [Addr.add] using this
    refine ⟨ab, ao, rfl, hlt, fun j hj => ?_⟩
    rw [hfl] at hj
    simp at hj
    have hq : j / m < len := Nat.div_lt_of_lt_mul (by rw [Nat.mul_comm]; exact hj)
    have hr : j % m < m := Nat.mod_lt _ hm0
    have := hat (j / m) hq (j % m) hr
    rw [Addr.add_mid, Addr.add_mid] at this
    have hj' : ao + j / m * m + j % m = ao + j := by have := Nat.div_add_mod j m; rw [Nat.mul_comm] at this; omega
    rw [hj'] at this
    rw [this]
    have key : ∀ (l : List α) (i r : Nat) (hi : i < l.length), r < m → (l.flatMap f)[i * m + r]? = (f l[i])[r]? := by
      intro l
      induction l with
      | nil => intro i r hi; simp at hi
      | cons y l ih =>
        intro i r hi hr
        cases i with
        | zero => rw [Nat.zero_mul, Nat.zero_add, List.flatMap_cons, List.getElem?_append_left (by rw [hf]; exact hr)]; rfl
        | succ i =>
          rw [List.flatMap_cons, List.getElem?_append_right (by rw [hf, Nat.succ_mul]; omega), hf, show (i + 1) * m + r - m = i * m + r by rw [Nat.succ_mul]; omega]
          exact ih i r (by simpa using hi) hr
    have hk := key ((List.range len).map g) (j / m) (j % m) (by simpa using hq) hr
    rw [show j / m * m + j % m = j by have := Nat.div_add_mod j m; rw [Nat.mul_comm] at this; omega] at hk
    rw [← List.getElem?_eq_getElem, hk]
    simp
theorem rd_puts {W : World} {base : Nat} {v : Value} {d : DataW H} {p : List MemPlace} (hval : Value.okWide Try.prog W .any base 23 v) (h : DataW.Trod enc Try.prog W 0 (fun _ => true) true 23 v d p) : ∃ l : List Pt, PutIn W v l ∧ ∀ x ∈ l, x.Ok := by
  obtain ⟨a0, len, cap, rfl⟩ := okWide_slice Try.underlying23 hval
  obtain ⟨fuel, hf⟩ := h
  obtain ⟨l, v, hv, hP, hR⟩ := list_cells (fun d : Pt => [.int .u8 d.page, .int .u8 d.c, .int .u8 d.n]) Pt.Ok (by omega) (fun _ => rfl) ⟨0, 0, 0⟩ Try.underlying23 cR_put (fun h1 h2 => put_cells_in h1 h2) hf
  have e : Value.slice a0 len cap = v := by simpa [Value.cells] using hv
  subst e
  exact ⟨l, hR, hP⟩
end
end Go.Proofs.Ytdkhmhlphhammaa
