/-
  A record that came in.
-/
import Derived.Test.YtpkmnihiepbmcaaRecV
import Derived.Test.YtpkmnihiepbmcaaFrame
import Derived.Deep.Slices
import Derived.ChangeArms
import Derived.SizedLaws
import Derived.OpenShut
namespace Go.Proofs.Ytpkmnihiepbmcaa
open Go.RowKit Go.ChangeShapes Go.WideShapes Go.Deep
open PRec (Rec Drt Atx)
theorem lst2 {α : Type} {l : List α} (h : l.length = 2) : ∃ a b, l = [a, b] := by
  match l, h with
  | [a, b], _ => exact ⟨a, b, rfl⟩
theorem lst4 {α : Type} {l : List α} (h : l.length = 4) : ∃ a b c d, l = [a, b, c, d] := by
  match l, h with
  | [a, b, c, d], _ => exact ⟨a, b, c, d, rfl⟩
theorem lst8 {α : Type} {l : List α} (h : l.length = 8) : ∃ a b c d e f g i, l = [a, b, c, d, e, f, g, i] := by
  match l, h with
  | [a, b, c, d, e, f, g, i], _ => exact ⟨a, b, c, d, e, f, g, i, rfl⟩
theorem lst12 {α : Type} {l : List α} (h : l.length = 12) : ∃ a b c d e f g i j k m n, l = [a, b, c, d, e, f, g, i, j, k, m, n] := by
  match l, h with
  | [a, b, c, d, e, f, g, i, j, k, m, n], _ => exact ⟨a, b, c, d, e, f, g, i, j, k, m, n, rfl⟩
section
variable {H : Type} {enc : TypeId × Value → H}
theorem cR_u8 : Try.prog.cellsOf 5 = 1 := by kernel_rfl
theorem cR_u16 : Try.prog.cellsOf 24 = 1 := by kernel_rfl
theorem cR_u32 : Try.prog.cellsOf 23 = 1 := by kernel_rfl
theorem cR_u64 : Try.prog.cellsOf 22 = 1 := by kernel_rfl
theorem cR_str : Try.prog.cellsOf 9 = 1 := by kernel_rfl
theorem cR_roll : Try.prog.cellsOf 26 = 2 := by kernel_rfl
theorem cR_tabs : Try.prog.cellsOf 30 = 4 := by kernel_rfl
theorem cR_sd : Try.prog.cellsOf 27 = 1 := by kernel_rfl
theorem cR_st : Try.prog.cellsOf 28 = 1 := by kernel_rfl
theorem cR_drt : Try.prog.cellsOf 52 = 2 := by kernel_rfl
theorem cR_act : Try.prog.cellsOf 54 = 4 := by kernel_rfl
theorem cR_rec : Try.prog.cellsOf 32 = 12 := by kernel_rfl
theorem nat_u64 {z : Int} (h : (Lit.int .u64 z).wf = true) : ∃ n : Nat, z = n ∧ n < 18446744073709551616 := by
  have b := bounds_u64 h
  obtain ⟨n, rfl⟩ := Int.eq_ofNat_of_zero_le b.1
  exact ⟨n, rfl, by omega⟩
theorem nat_u32 {z : Int} (h : (Lit.int .u32 z).wf = true) : ∃ n : Nat, z = n ∧ n < 4294967296 := by
  have e1 : IntKind.u32.min = 0 := by decide
  have e2 : IntKind.u32.max = 4294967295 := by decide
  simp [Lit.wf, e1, e2] at h
  obtain ⟨n, rfl⟩ := Int.eq_ofNat_of_zero_le (show 0 ≤ z by omega)
  exact ⟨n, rfl, by omega⟩
theorem nat_u16 {z : Int} (h : (Lit.int .u16 z).wf = true) : ∃ n : Nat, z = n ∧ n < 65536 := by
  have e1 : IntKind.u16.min = 0 := by decide
  have e2 : IntKind.u16.max = 65535 := by decide
  simp [Lit.wf, e1, e2] at h
  obtain ⟨n, rfl⟩ := Int.eq_ofNat_of_zero_le (show 0 ≤ z by omega)
  exact ⟨n, rfl, by omega⟩
theorem nat_u8 {z : Int} (h : (Lit.int .u8 z).wf = true) : ∃ n : Nat, z = n ∧ n < 256 := by
  have e1 : IntKind.u8.min = 0 := by decide
  have e2 : IntKind.u8.max = 255 := by decide
  simp [Lit.wf, e1, e2] at h
  obtain ⟨n, rfl⟩ := Int.eq_ofNat_of_zero_le (show 0 ≤ z by omega)
  exact ⟨n, rfl, by omega⟩
theorem drt_cells {W : World} {k : Nat} {cs : List Value} {x : DataW H × List MemPlace} (hlen : cs.length = 2) (h : DataW.trod enc Try.prog W 0 (fun _ => true) true k 52 cs = some x) : ∃ d : Drt, d.Ok ∧ cs = drtV d := by
  obtain ⟨f0, f1, hst, ⟨o0, o1⟩, ⟨t0, t1⟩⟩ : ∃ f0 f1 : Field, Try.prog.underlying 52 = some (.struct #[f0, f1]) ∧ (f0.offset = 0 ∧ f1.offset = 1) ∧ (f0.type = 23 ∧ f1.type = 22) := ⟨_, _, Try.underlying52, ⟨rfl, rfl⟩, ⟨rfl, rfl⟩⟩
  obtain ⟨xs, k', hk, hxy, _, hxl, hfd⟩ := DataW.trod_struct hst h
  obtain ⟨y0, y1, rfl⟩ := lst2 (show xs.length = 2 from hxl)
  obtain ⟨v0, v1, rfl⟩ := lst2 hlen
  have g0 := hfd 0 f0 rfl
  have g1 := hfd 1 f1 rfl
  simp [o0, o1, t0, t1, cR_u32, cR_u64] at g0 g1
  obtain ⟨z0, e0, _, w0⟩ := DataW.trod_int Try.underlying23 g0
  obtain ⟨z1, e1, _, w1⟩ := DataW.trod_int Try.underlying22 g1
  simp at e0 e1
  subst e0; subst e1
  obtain ⟨n0, rfl, b0⟩ := nat_u32 w0
  obtain ⟨n1, rfl, b1⟩ := nat_u64 w1
  exact ⟨⟨n0, n1⟩, ⟨b0, b1⟩, rfl⟩
theorem act_cells {W : World} {k : Nat} {cs : List Value} {x : DataW H × List MemPlace} (hlen : cs.length = 4) (h : DataW.trod enc Try.prog W 0 (fun _ => true) true k 54 cs = some x) : ∃ d : Atx, d.Ok ∧ cs = actV d := by
  obtain ⟨f0, f1, f2, f3, hst, ⟨o0, o1, o2, o3⟩, ⟨t0, t1, t2, t3⟩⟩ : ∃ f0 f1 f2 f3 : Field, Try.prog.underlying 54 = some (.struct #[f0, f1, f2, f3]) ∧ (f0.offset = 0 ∧ f1.offset = 1 ∧ f2.offset = 2 ∧ f3.offset = 3) ∧ (f0.type = 22 ∧ f1.type = 22 ∧ f2.type = 22 ∧ f3.type = 22) := ⟨_, _, _, _, Try.underlying54, ⟨rfl, rfl, rfl, rfl⟩, ⟨rfl, rfl, rfl, rfl⟩⟩
  obtain ⟨xs, k', hk, hxy, _, hxl, hfd⟩ := DataW.trod_struct hst h
  obtain ⟨y0, y1, y2, y3, rfl⟩ := lst4 (show xs.length = 4 from hxl)
  obtain ⟨v0, v1, v2, v3, rfl⟩ := lst4 hlen
  have g0 := hfd 0 f0 rfl
  have g1 := hfd 1 f1 rfl
  have g2 := hfd 2 f2 rfl
  have g3 := hfd 3 f3 rfl
  simp [o0, o1, o2, o3, t0, t1, t2, t3, cR_u64] at g0 g1 g2 g3
  obtain ⟨z0, e0, _, w0⟩ := DataW.trod_int Try.underlying22 g0
  obtain ⟨z1, e1, _, w1⟩ := DataW.trod_int Try.underlying22 g1
  obtain ⟨z2, e2, _, w2⟩ := DataW.trod_int Try.underlying22 g2
  obtain ⟨z3, e3, _, w3⟩ := DataW.trod_int Try.underlying22 g3
  simp at e0 e1 e2 e3
  subst e0; subst e1; subst e2; subst e3
  obtain ⟨n0, rfl, b0⟩ := nat_u64 w0
  obtain ⟨n1, rfl, b1⟩ := nat_u64 w1
  obtain ⟨n2, rfl, b2⟩ := nat_u64 w2
  obtain ⟨n3, rfl, b3⟩ := nat_u64 w3
  exact ⟨⟨n0, n1, n2, n3⟩, ⟨b0, b1, b2, b3⟩, rfl⟩
/-- a list of elements of m cells each, opened -/
theorem list_cells {α : Type} {W : World} {t e : TypeId} {m fuel : Nat} {cs : List Value} {x : DataW H × List MemPlace} (f : α → List Value) (P : α → Prop) (hm0 : 0 < m) (hf : ∀ a, (f a).length = m) (d0 : α) (ht : Try.prog.underlying t = some (.slice e)) (hc : Try.prog.cellsOf e = m)
    (hel : ∀ {k : Nat} {cs : List Value} {x : DataW H × List MemPlace}, cs.length = m → DataW.trod enc Try.prog W 0 (fun _ => true) true k e cs = some x → ∃ a, P a ∧ cs = f a)
    (h : DataW.trod enc Try.prog W 0 (fun _ => true) true fuel t cs = some x) : ∃ (l : List α) (v : Value), cs = [v] ∧ (∀ a ∈ l, P a) ∧ RdS W m v l.length (l.flatMap f) := by
  have hfl : ∀ l : List α, (l.flatMap f).length = l.length * m := fun l => by
    induction l with
    | nil => simp
    | cons a l ih => rw [List.flatMap_cons, List.length_append, ih, hf, List.length_cons, Nat.succ_mul, Nat.add_comm]
  rcases open_slice ht h with ⟨hcs, hx⟩ | ⟨a, len, cap, mm, n, D, Pl, hcs, _, hl, hm, hmm, hx, hall⟩
  · exact ⟨[], _, hcs, (fun _ h => by cases h), by simpa using RdS.nil W m⟩
  simp only [if_true] at hmm
  subst hmm
  have each : ∀ i, i < len → ∃ y : α, P y ∧ W.cells? 0 (a.add (i * m)) m = some (f y) := by
    intro i hi
    obtain ⟨cs', h1, h2⟩ := hall i (by omega)
    rw [hc] at h1
    obtain ⟨_, hlen, _⟩ := World.cells?_some h1
    obtain ⟨y, hy, rfl⟩ := hel hlen h2
    exact ⟨y, hy, h1⟩
  obtain ⟨g, hg⟩ : ∃ g : Nat → α, ∀ i, i < len → P (g i) ∧ W.cells? 0 (a.add (i * m)) m = some (f (g i)) := by
    obtain ⟨g, hg⟩ := Classical.axiomOfChoice (r := fun (i : Nat) (y : α) => i < len → P y ∧ W.cells? 0 (a.add (i * m)) m = some (f y)) (fun i => by
      by_cases hi : i < len
      · obtain ⟨y, hy⟩ := each i hi; exact ⟨y, fun _ => hy⟩
      · exact ⟨d0, fun h => absurd h hi⟩)
    exact ⟨g, hg⟩
  refine ⟨(List.range len).map g, _, hcs, ?_, ?_⟩
  · intro y hy
    obtain ⟨i, hi, rfl⟩ := List.mem_map.1 hy
    exact (hg i (List.mem_range.1 hi)).1
  · rw [List.length_map, List.length_range]
    refine ⟨by rw [hfl]; simp, some a, _, rfl, hl, hm, fun hx => ?_⟩
    have h0 : 0 < len := by omega
    have hat : ∀ i, i < len → ∀ j, j < m → W.cell? ((a.add (i * m)).add j) = (f (g i))[j]? := fun i hi j hj => by
      obtain ⟨_, _, hcell⟩ := World.cells?_some (hg i hi).2
      exact hcell j hj
    obtain ⟨ab, ao, spot⟩ := a
    have h00 := hat 0 h0 0 hm0
    obtain ⟨u, hu⟩ : ∃ u, (f (g 0))[0]? = some u := ⟨_, List.getElem?_eq_getElem (by rw [hf]; exact hm0)⟩
    have hspot : spot = none := by
      rw [hu] at h00
      have := World.cell?_spot h00
      simpa [Addr.add] using this
    subst hspot
    have hlt : ab < W.heap.size := by
      rw [hu] at h00
      have := World.block_lt_of_cell? _ _ h00
      simpa [Addr.add] using this
    refine ⟨ab, ao, rfl, hlt, fun j hj => ?_⟩
    rw [hfl] at hj
    simp at hj
    have hq : j / m < len := Nat.div_lt_of_lt_mul (by rw [Nat.mul_comm]; exact hj)
    have hr : j % m < m := Nat.mod_lt _ hm0
    have := hat (j / m) hq (j % m) hr
    rw [Addr.add_mid, Addr.add_mid] at this
    have hj' : ao + j / m * m + j % m = ao + j := by have := Nat.div_add_mod j m; rw [Nat.mul_comm] at this; omega
    rw [hj'] at this
    rw [this]
    have key : ∀ (l : List α) (i r : Nat) (hi : i < l.length), r < m → (l.flatMap f)[i * m + r]? = (f l[i])[r]? := by
      intro l
      induction l with
      | nil => intro i r hi; simp at hi
      | cons y l ih =>
        intro i r hi hr
        cases i with
        | zero => rw [Nat.zero_mul, Nat.zero_add, List.flatMap_cons, List.getElem?_append_left (by rw [hf]; exact hr)]; rfl
        | succ i =>
          rw [List.flatMap_cons, List.getElem?_append_right (by rw [hf, Nat.succ_mul]; omega), hf, show (i + 1) * m + r - m = i * m + r by rw [Nat.succ_mul]; omega]
          exact ih i r (by simpa using hi) hr
    have hk := key ((List.range len).map g) (j / m) (j % m) (by simpa using hq) hr
    rw [show j / m * m + j % m = j by have := Nat.div_add_mod j m; rw [Nat.mul_comm] at this; omega] at hk
    rw [← List.getElem?_eq_getElem, hk]
    simp
theorem open_rec {W : World} {base : Nat} {v : Value} {d : DataW H} {p : List MemPlace} (hval : Value.okWide Try.prog W .any base 32 v) (h : DataW.Trod enc Try.prog W 0 (fun _ => true) true 32 v d p) :
    ∃ (r : Rec) (vd vt : Value), v = rv r vd vt ∧ r.Ok ∧ RecIn W r vd vt := by
  obtain ⟨f0, f1, f2, f3, f4, f5, f6, f7, hst, ⟨o0, o1, o2, o3, o4, o5, o6, o7⟩, ⟨t0, t1, t2, t3, t4, t5, t6, t7⟩⟩ : ∃ f0 f1 f2 f3 f4 f5 f6 f7 : Field, Try.prog.underlying 32 = some (.struct #[f0, f1, f2, f3, f4, f5, f6, f7]) ∧ (f0.offset = 0 ∧ f1.offset = 1 ∧ f2.offset = 2 ∧ f3.offset = 3 ∧ f4.offset = 5 ∧ f5.offset = 6 ∧ f6.offset = 7 ∧ f7.offset = 8) ∧
    (f0.type = 5 ∧ f1.type = 22 ∧ f2.type = 22 ∧ f3.type = 26 ∧ f4.type = 22 ∧ f5.type = 22 ∧ f6.type = 9 ∧ f7.type = 30) := ⟨_, _, _, _, _, _, _, _, Try.underlying32, ⟨rfl, rfl, rfl, rfl, rfl, rfl, rfl, rfl⟩, ⟨rfl, rfl, rfl, rfl, rfl, rfl, rfl, rfl⟩⟩
  obtain ⟨q0, q1, hsr, ⟨r0, r1⟩, ⟨s0, s1⟩⟩ : ∃ f0 f1 : Field, Try.prog.underlying 26 = some (.struct #[f0, f1]) ∧ (f0.offset = 0 ∧ f1.offset = 1) ∧ (f0.type = 23 ∧ f1.type = 24) := ⟨_, _, Try.underlying26, ⟨rfl, rfl⟩, ⟨rfl, rfl⟩⟩
  obtain ⟨m0, m1, m2, m3, hsm, ⟨l0, l1, l2, l3⟩, ⟨u0, u1, u2, u3⟩⟩ : ∃ f0 f1 f2 f3 : Field, Try.prog.underlying 30 = some (.struct #[f0, f1, f2, f3]) ∧ (f0.offset = 0 ∧ f1.offset = 1 ∧ f2.offset = 2 ∧ f3.offset = 3) ∧ (f0.type = 27 ∧ f1.type = 28 ∧ f2.type = 22 ∧ f3.type = 22) := ⟨_, _, _, _, Try.underlying30, ⟨rfl, rfl, rfl, rfl⟩, ⟨rfl, rfl, rfl, rfl⟩⟩
  obtain ⟨cs, rfl, hsz⟩ := okWide_struct hst hval
  obtain ⟨fuel, hf⟩ := h
  have hlen : cs.toList.length = 12 := by have := hsz.trans cR_rec; simpa using this
  obtain ⟨v0, v1, v2, v3, v4, v5, v6, v7, v8, v9, v10, v11, hcs⟩ := lst12 hlen
  have hcl : (Value.agg cs).cells.toList = [v0, v1, v2, v3, v4, v5, v6, v7, v8, v9, v10, v11] := by simpa [Value.cells] using hcs
  rw [hcl] at hf
  obtain ⟨xs, k', hk, hxy, _, hxl, hfd⟩ := DataW.trod_struct hst hf
  obtain ⟨y0, y1, y2, y3, y4, y5, y6, y7, rfl⟩ := lst8 (show xs.length = 8 from hxl)
  have g0 := hfd 0 f0 rfl
  have g1 := hfd 1 f1 rfl
  have g2 := hfd 2 f2 rfl
  have g3 := hfd 3 f3 rfl
  have g4 := hfd 4 f4 rfl
  have g5 := hfd 5 f5 rfl
  have g6 := hfd 6 f6 rfl
  have g7 := hfd 7 f7 rfl
  simp [o0, o1, o2, o3, o4, o5, o6, o7, t0, t1, t2, t3, t4, t5, t6, t7, cR_u8, cR_u64, cR_str, cR_roll, cR_tabs] at g0 g1 g2 g3 g4 g5 g6 g7
  obtain ⟨z0, e0, _, w0⟩ := DataW.trod_int Try.underlying5 g0
  obtain ⟨z1, e1, _, w1⟩ := DataW.trod_int Try.underlying22 g1
  obtain ⟨z2, e2, _, w2⟩ := DataW.trod_int Try.underlying22 g2
  obtain ⟨z4, e4, _, w4⟩ := DataW.trod_int Try.underlying22 g4
  obtain ⟨z5, e5, _, w5⟩ := DataW.trod_int Try.underlying22 g5
  obtain ⟨s, e6, _, w6⟩ := DataW.trod_string Try.underlying9 g6
  obtain ⟨xr, kr, _, _, _, hxr, hfr⟩ := DataW.trod_struct hsr g3
  obtain ⟨yr0, yr1, rfl⟩ := lst2 (show xr.length = 2 from hxr)
  have gr0 := hfr 0 q0 rfl
  have gr1 := hfr 1 q1 rfl
  simp [r0, r1, s0, s1, cR_u32, cR_u16] at gr0 gr1
  obtain ⟨zr0, er0, _, wr0⟩ := DataW.trod_int Try.underlying23 gr0
  obtain ⟨zr1, er1, _, wr1⟩ := DataW.trod_int Try.underlying24 gr1
  obtain ⟨xm, km, _, _, _, hxm, hfm⟩ := DataW.trod_struct hsm g7
  obtain ⟨ym0, ym1, ym2, ym3, rfl⟩ := lst4 (show xm.length = 4 from hxm)
  have gm0 := hfm 0 m0 rfl
  have gm1 := hfm 1 m1 rfl
  have gm2 := hfm 2 m2 rfl
  have gm3 := hfm 3 m3 rfl
  simp [l0, l1, l2, l3, u0, u1, u2, u3, cR_u64, cR_sd, cR_st] at gm0 gm1 gm2 gm3
  obtain ⟨D, vd, ed, hD, RD⟩ := list_cells drtV Drt.Ok (by omega) (fun _ => rfl) ⟨0, 0⟩ Try.underlying27 cR_drt (fun h1 h2 => drt_cells h1 h2) gm0
  obtain ⟨T, vt, et, hT, RT⟩ := list_cells actV Atx.Ok (by omega) (fun _ => rfl) ⟨0, 0, 0, 0⟩ Try.underlying28 cR_act (fun h1 h2 => act_cells h1 h2) gm1
  obtain ⟨zm2, em2, _, wm2⟩ := DataW.trod_int Try.underlying22 gm2
  obtain ⟨zm3, em3, _, wm3⟩ := DataW.trod_int Try.underlying22 gm3
  simp at e0 e1 e2 e4 e5 e6 er0 er1 ed et em2 em3
  subst e0; subst e1; subst e2; subst e4; subst e5; subst e6; subst er0; subst er1; subst ed; subst et; subst em2; subst em3
  obtain ⟨n0, rfl, b0⟩ := nat_u8 w0
  obtain ⟨n1, rfl, b1⟩ := nat_u64 w1
  obtain ⟨n2, rfl, b2⟩ := nat_u64 w2
  obtain ⟨n4, rfl, b4⟩ := nat_u64 w4
  obtain ⟨n5, rfl, b5⟩ := nat_u64 w5
  obtain ⟨a0, rfl, c0⟩ := nat_u32 wr0
  obtain ⟨a1, rfl, c1⟩ := nat_u16 wr1
  obtain ⟨a2, rfl, c2⟩ := nat_u64 wm2
  obtain ⟨a3, rfl, c3⟩ := nat_u64 wm3
  refine ⟨⟨n0, n1, n2, a0, a1, n4, n5, s.data.toList, D, T, a2, a3⟩, _, _, ?_, ⟨b0, b1, b2, c0, c1, b4, b5, hD, hT, c2, c3⟩, RD, RT⟩
  unfold rv
  congr 1
  apply Array.ext'
  rw [hcs]
end
end Go.Proofs.Ytpkmnihiepbmcaa
