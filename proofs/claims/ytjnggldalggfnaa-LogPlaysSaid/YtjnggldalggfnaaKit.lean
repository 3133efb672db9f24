/-
  Small laws on whole rows of cells, for walks: no program in sight.
-/
import Derived.WalkKit
import Derived.Deep.WholeRow
import Derived.Deep.MidRow
import Derived.Lib.Hide
import Derived.StillTailTactics
import Derived.Deep.QuietTactic
import Derived.BigQuiet
namespace Go
variable {P : Program}

/-- A whole row is stored into a block of which it is all. -/
theorem wpList_row_put {ops : Array Oper} {rest : List Oper} {op : Oper} {a : Act} {w : World} {Q : Exit → Act → World → Prop} (hgd : op.guard = none) (ty : TypeId) (x y : Operand) (ho : op.op = .store ty x y)
    (g : Nat) (t : TypeId) (old cells : Array Value) (hx : a.eval x = .pointer (some ⟨g, 0, none⟩)) (hy : a.eval y = .agg cells)
    (hg : w.heap[g]? = some (.cells old t (0, 0))) (hi : (P.info? ty).map (·.size) = some cells.size) (hs : old.size = cells.size) (h1 : cells.all (·.oneCell') = true)
    (h : wpList P ops Q rest (a.put op.dst undef) (w.setRow g cells)) : wpList P ops Q (op :: rest) a w :=
  wpList_plain hgd fun _ hK => by
    unfold Oper.wp execOp
    simp only [ho, hx, hy, Instr.storeAt, Instr.sureAddr, Sem.run_bind, Sem.run_pure, Result.andThen_ok, run_storeVar_row w g t ty old cells hg hi hs h1]
    exact hK _ _ h

/-- .. and it is what lies there already. -/
theorem wpList_row_same {ops : Array Oper} {rest : List Oper} {op : Oper} {a : Act} {w : World} {Q : Exit → Act → World → Prop} (hgd : op.guard = none) (ty : TypeId) (x y : Operand) (ho : op.op = .store ty x y)
    (g : Nat) (t : TypeId) (cells : Array Value) (hx : a.eval x = .pointer (some ⟨g, 0, none⟩)) (hy : a.eval y = .agg cells)
    (hg : w.heap[g]? = some (.cells cells t (0, 0))) (hi : (P.info? ty).map (·.size) = some cells.size) (h1 : cells.all (·.oneCell') = true)
    (h : wpList P ops Q rest (a.put op.dst undef) w) : wpList P ops Q (op :: rest) a w :=
  wpList_row_put hgd ty x y ho g t cells cells hx hy hg hi rfl h1 (by rw [setRow_self w g cells t (0, 0) hg]; exact h)

/-- .. into the block that was made last. -/
theorem wpList_row_new {ops : Array Oper} {rest : List Oper} {op : Oper} {a : Act} {w : World} {Q : Exit → Act → World → Prop} (hgd : op.guard = none) (ty : TypeId) (x y : Operand) (ho : op.op = .store ty x y)
    (g : Nat) (t : TypeId) (old cells : Array Value) (hx : a.eval x = .pointer (some ⟨g, 0, none⟩)) (hy : a.eval y = .agg cells)
    (hg : g = w.heap.size) (hi : (P.info? ty).map (·.size) = some cells.size) (hs : old.size = cells.size) (h1 : cells.all (·.oneCell') = true)
    (h : wpList P ops Q rest (a.put op.dst undef) (w.alloc (.cells cells t))) : wpList P ops Q (op :: rest) a (w.alloc (.cells old t)) :=
  wpList_row_put hgd ty x y ho g t old cells hx hy (by subst hg; exact heap_alloc_last w _) hi hs h1 (by subst hg; rw [World.setRow_alloc_new]; exact h)

/-- What is below the first world is below all. -/
theorem RowKit.Below.step {w w1 w2 : World} (h : RowKit.Below w.heap.size w w1) (h2 : RowKit.Below w1.heap.size w1 w2) : RowKit.Below w.heap.size w w2 := h.trans (h2.mono h.size)

/-! ### Slices that lie in a block, with a mark behind it or none -/
/-- No cell ahead of n is shut. -/
def Free (fz : Nat × Nat) (n : Nat) : Prop := ∀ j, j < n → (decide (fz.1 ≤ j) && decide (j < fz.2)) = false
theorem Free.none (n : Nat) : Free (0, 0) n := fun j _ => by simp
theorem Free.mark (n : Nat) : Free (n, n + 1) n := fun j h => by simp; omega
theorem Free.mono {fz : Nat × Nat} {n m : Nat} (h : Free fz n) (hm : m ≤ n) : Free fz m := fun j hj => h j (by omega)
theorem frozen_free {w : World} {g j : Nat} {cur : Array Value} {t : TypeId} {fz : Nat × Nat} (hg : w.heap[g]? = some (.cells cur t fz)) (hf : Free fz cur.size) (hj : j < cur.size) : w.frozen? ⟨g, j, none⟩ = false := by
  obtain ⟨lo, hi⟩ := fz
  simpa [World.frozen?, hg] using hf j hj

theorem run_storeCells_free (g o : Nat) (t : TypeId) (fz : Nat × Nat) : ∀ (vs : List Value) (i : Nat) (cur : Array Value) (w : World), w.heap[g]? = some (.cells cur t fz) → Free fz cur.size → o + i + vs.length ≤ cur.size → (∀ v ∈ vs, v.oneCell' = true) →
    (storeCells ⟨g, o, none⟩ vs i).run P w = .ok () (w.setRow g (cur.toList.take (o + i) ++ vs ++ cur.toList.drop (o + i + vs.length)).toArray)
  | [], i, cur, w, hg, _, _, _ => by
    simp only [storeCells, List.append_nil, List.length_nil, Nat.add_zero, List.take_append_drop, Array.toArray_toList]
    rw [setRow_self w g cur t fz hg]
    rfl
  | v :: rest, i, cur, w, hg, hf, hl, h1 => by
    have hi : o + i < cur.size := by simp at hl; omega
    have hadd : (⟨g, o, none⟩ : Addr).add i = ⟨g, o + i, none⟩ := by unfold Addr.add; split <;> simp_all
    have hcell : w.cell? ⟨g, o + i, none⟩ = some cur[o + i] := by simp [World.cell?, hg, hi]
    have hfro : w.frozen? ⟨g, o + i, none⟩ = false := frozen_free hg hf hi
    have hst : (store ((⟨g, o, none⟩ : Addr).add i) v).run P w = .ok () (w.setRow g (cur.setIfInBounds (o + i) v)) := by
      rw [hadd, run_store P w _ v _ (h1 v (by simp)), hcell]
      simp [hfro, setCell_eq_setRow w g (o + i) cur t fz v hg]
    have ih := run_storeCells_free g o t fz rest (i + 1) (cur.setIfInBounds (o + i) v) (w.setRow g (cur.setIfInBounds (o + i) v)) (setRow_heap w g cur _ t _ hg) (by simpa using hf) (by simp at hl ⊢; omega) (fun x hx => h1 x (by simp [hx]))
    simp only [storeCells, Sem.run_bind, hst, Result.andThen_ok, ih, setRow_setRow]
    congr 3
    have e := list_seg_step cur.toList (o + i) v rest (by simp at hl ⊢; omega)
    simpa [Array.toList_setIfInBounds, Nat.add_assoc] using e

/-- A slice value whose elements' cells are known, in a block of its own (from number 'base' on), or nil. -/
def Sl (w : World) (base : Nat) (e : TypeId) (size : Nat) (v : Value) (n : Nat) (xs : List Value) : Prop :=
  xs.length = n * size ∧ ((v = .slice none 0 0 ∧ n = 0) ∨
    ∃ g off cap cur fz, v = .slice (some ⟨g, off, none⟩) n cap ∧ base ≤ g ∧ w.heap[g]? = some (.cells cur e fz) ∧ Free fz cur.size ∧ n ≤ cap ∧ cap ≤ maxLen ∧ off + cap * size ≤ cur.size ∧ (cur.toList.drop off).take (n * size) = xs)

section
variable {w : World} {base : Nat} {e : TypeId} {size : Nat} {v : Value} {n : Nat} {xs : List Value}
theorem Sl.nil (w : World) (base : Nat) (e : TypeId) (size : Nat) : Sl w base e size (.slice none 0 0) 0 [] := ⟨by simp, .inl ⟨rfl, rfl⟩⟩
theorem Sl.of_block {g off cap : Nat} {cur : Array Value} {fz : Nat × Nat} (hb : base ≤ g) (hg : w.heap[g]? = some (.cells cur e fz)) (hf : Free fz cur.size) (hn : n ≤ cap) (hc : cap ≤ maxLen) (ho : off + cap * size ≤ cur.size) :
    Sl w base e size (.slice (some ⟨g, off, none⟩) n cap) n ((cur.toList.drop off).take (n * size)) := by
  refine ⟨?_, .inr ⟨g, off, cap, cur, fz, rfl, hb, hg, hf, hn, hc, ho, rfl⟩⟩
  have : n * size ≤ cap * size := Nat.mul_le_mul_right _ hn
  simp; omega
theorem Sl.lt (h : Sl w base e size v n xs) : ∀ k, v.ownBlock = some k → base ≤ k ∧ k < w.heap.size := by
  intro k hk
  rcases h.2 with ⟨rfl, _⟩ | ⟨g, off, cap, cur, fz, rfl, hb, hg, _⟩
  · simp [Value.ownBlock] at hk
  · simp [Value.ownBlock] at hk
    subst hk
    exact ⟨hb, (Array.getElem?_eq_some_iff.1 hg).1⟩
theorem Sl.keep {w' : World} (h : Sl w base e size v n xs) (hk : ∀ k, v.ownBlock = some k → w'.heap[k]? = w.heap[k]?) : Sl w' base e size v n xs := by
  refine ⟨h.1, ?_⟩
  rcases h.2 with hn | ⟨g, off, cap, cur, fz, rfl, hb, hgg, rest⟩
  · exact .inl hn
  · exact .inr ⟨g, off, cap, cur, fz, rfl, hb, by rw [hk g rfl]; exact hgg, rest⟩
theorem Sl.base_le {base' : Nat} (h : Sl w base e size v n xs) (hb' : base' ≤ base) : Sl w base' e size v n xs := by
  refine ⟨h.1, ?_⟩
  rcases h.2 with hn | ⟨g, off, cap, cur, fz, rfl, hb, rest⟩
  · exact .inl hn
  · exact .inr ⟨g, off, cap, cur, fz, rfl, by omega, rest⟩
theorem Sl.alloc (h : Sl w base e size v n xs) (o : Obj) : Sl (w.alloc o) base e size v n xs :=
  h.keep fun k hk => RowKit.Below.heap_alloc w o k (h.lt k hk).2
theorem Sl.drew (h : Sl w base e size v n xs) : Sl w.drew base e size v n xs := h
/-- Its cells, as a load sees them. -/
theorem Sl.cells {g off c : Nat} (h : Sl w base e size v n xs) (hv : v = .slice (some ⟨g, off, none⟩) n c) : ∀ j u, xs[j]? = some u → w.cell? ((⟨g, off, none⟩ : Addr).add j) = some u := by
  intro j u hu
  rcases h.2 with ⟨rfl, _⟩ | ⟨g', off', cap, cur, fz, rfl, _, hgg, _, _, _, _, htake⟩
  · simp at hv
  · simp at hv
    obtain ⟨⟨rfl, rfl⟩, rfl⟩ := hv
    rw [Addr.add_mid, cell_of_row w g' (off' + j) cur e fz hgg]
    rw [← htake, List.getElem?_take] at hu
    split at hu
    · simpa using hu
    · cases hu
theorem Sl.shape (h : Sl w base e size v n xs) : (v = .slice none 0 0 ∧ n = 0 ∧ xs = []) ∨ ∃ g off c, v = .slice (some ⟨g, off, none⟩) n c ∧ n ≤ c := by
  rcases h.2 with ⟨rfl, rfl⟩ | ⟨g, off, cap, cur, fz, rfl, _, _, _, hn, _⟩
  · left; refine ⟨rfl, rfl, ?_⟩
    have := h.1; simpa using this
  · exact .inr ⟨g, off, cap, rfl, hn⟩
end

/-- Bytes as cells. -/
def bytesV (l : List UInt8) : List Value := l.map fun b => .int .u8 (b.toNat : Int)
theorem bytesV_length (l : List UInt8) : (bytesV l).length = l.length := by simp [bytesV]
theorem bytesV_append (l m : List UInt8) : bytesV (l ++ m) = bytesV l ++ bytesV m := by simp [bytesV]
theorem bytesV_one (l : List UInt8) : ∀ u ∈ bytesV l, u.oneCell' = true := by
  intro u hu
  simp [bytesV] at hu
  obtain ⟨b, _, rfl⟩ := hu
  rfl
theorem bytesV_at {l : List UInt8} {j : Nat} (hj : j < l.length) : (bytesV l)[j]? = some (.int .u8 (l[j].toNat : Int)) := by simp [bytesV, hj]
/-! ### one cell of a slice, read and written -/
section
variable {w : World} {base : Nat} {e : TypeId} {size : Nat} {n : Nat} {xs : List Value} {g off c : Nat}
theorem Sl.cell (h : Sl w base e size (.slice (some ⟨g, off, none⟩) n c) n xs) {j : Nat} (hj : j < xs.length) : w.cell? ⟨g, off + j, none⟩ = some xs[j] := by
  have := h.cells rfl j xs[j] (by simp [hj])
  rwa [Addr.add_mid] at this
theorem Sl.unshut (h : Sl w base e size (.slice (some ⟨g, off, none⟩) n c) n xs) {j : Nat} (hj : j < n * size) : w.frozen? ⟨g, off + j, none⟩ = false := by
  rcases h.2 with ⟨hh, _⟩ | ⟨g', off', cap, cur, fz, hh, _, hgg, hf, hnc, _, hcs, _⟩
  · cases hh
  · simp at hh
    obtain ⟨⟨rfl, rfl⟩, rfl⟩ := hh
    have : n * size ≤ c * size := Nat.mul_le_mul_right _ hnc
    exact frozen_free hgg hf (by omega)
theorem Sl.set (h : Sl w base e size (.slice (some ⟨g, off, none⟩) n c) n xs) {j : Nat} (hj : j < n * size) (u : Value) : Sl (w.setCell ⟨g, off + j, none⟩ u) base e size (.slice (some ⟨g, off, none⟩) n c) n (xs.set j u) := by
  refine ⟨by simp [h.1], .inr ?_⟩
  rcases h.2 with ⟨hh, _⟩ | ⟨g', off', cap, cur, fz, hh, hb, hgg, hf, hnc, hcm, hcs, htake⟩
  · cases hh
  · simp at hh
    obtain ⟨⟨rfl, rfl⟩, rfl⟩ := hh
    have hle : n * size ≤ c * size := Nat.mul_le_mul_right _ hnc
    refine ⟨g, off, c, cur.setIfInBounds (off + j) u, fz, rfl, hb, ?_, by simpa using hf, hnc, hcm, by simpa using hcs, ?_⟩
    · rw [setCell_eq_setRow w g (off + j) cur e fz u hgg]
      exact setRow_heap w g cur _ e fz hgg
    · rw [← htake, Array.toList_setIfInBounds]
      apply List.ext_getElem?
      intro i
      simp only [List.getElem?_take, List.getElem?_set, List.getElem?_drop, List.length_take, List.length_drop, Array.length_toList]
      by_cases hij : i = j
      · subst hij
        have h1 : off + i < cur.size := by omega
        have h2 : i < cur.size - off := by omega
        have h3 : i < min (n * size) (cur.size - off) := by omega
        simp [hj, h1, h3]
      · have e2 : ¬ j = i := fun h => hij h.symm
        simp [e2]
end
theorem Sl.byte {w : World} {base : Nat} {e : TypeId} {n : Nat} {l : List UInt8} {g off c : Nat} (h : Sl w base e 1 (.slice (some ⟨g, off, none⟩) n c) n (bytesV l)) {j : Nat} (hj : j < n) : w.cell? ⟨g, off + j, none⟩ = some (.int .u8 ((l.getD j 0).toNat : Int)) := by
  have hl : l.length = n := by have := h.1; rw [bytesV_length] at this; omega
  rw [h.cell (j := j) (by rw [bytesV_length]; omega)]
  simp [bytesV, List.getD, hl, hj]
theorem bytesV_set (l : List UInt8) (j : Nat) (b : UInt8) : (bytesV l).set j (.int .u8 (b.toNat : Int)) = bytesV (l.set j b) := by
  unfold bytesV; rw [List.map_set]

/-- 'append(s, x...)', x in memory. -/
theorem run_append_sl (w : World) (base : Nat) (t ty e : TypeId) (i : TypeInfo) (z : Value) (size bytes : Nat) (ht : P.underlying t = some (.slice e)) (hi : P.info? e = some i) (hz : i.zero = some z)
    (hsize : i.size = size) (hby : i.bytes = bytes) (hzs : z.cells.size = size) (hsz : 0 < size)
    (v : Value) (n : Nat) (xs : List Value) (hown : Sl w base e size v n xs)
    (a : Addr) (m c : Nat) (news : List Value) (hl : news.length = m * size) (hnews : ∀ j u, news[j]? = some u → w.cell? (a.add j) = some u) (h1 : ∀ u ∈ news, u.oneCell' = true)
    (h63 : n + m ≤ maxLen) (hbytes : (n + m) * bytes ≤ 140737488355328) (hbase : base ≤ w.heap.size) :
    ∃ v' w', (Builtin.append_ #[t, t] ty #[v, .slice (some a) m c]).run P w = .ok v' w' ∧ Sl w' base e size v' (n + m) (xs ++ news) ∧ w.grownBy w' v.ownBlock ∧
      (v' = .slice none 0 0 ↔ v = .slice none 0 0 ∧ m = 0) ∧ (∀ k, v'.ownBlock = some k → v.ownBlock = some k ∨ w.heap.size ≤ k) := by
  rcases hown.2 with ⟨rfl, rfl⟩ | ⟨g, off, cap, cur, fz, rfl, hbg, hg, hfz, hnc, hcm, hcs, htake⟩
  · obtain ⟨v', w', r1, r2, r3, r4⟩ := run_append_own (P := P) w w.heap.size t ty e i z size bytes ht hi hz hsize hby hzs hsz (.slice none 0 0) 0 xs ⟨hown.1, .inl ⟨rfl, rfl⟩⟩ a m c news hl hnews h1 h63 hbytes (Nat.le_refl _)
    have r2' : Sl w' w.heap.size e size v' (0 + m) (xs ++ news) := by
      refine ⟨r2.1, ?_⟩
      rcases r2.2 with hh | ⟨g, cap, cur, rfl, hb, hg, h3, h4, h5, h6⟩
      · exact .inl hh
      · exact .inr ⟨g, 0, cap, cur, (0, 0), rfl, hb, hg, Free.none _, h3, h4, by omega, by simpa using h6⟩
    exact ⟨v', w', r1, r2'.base_le hbase, r3, r4, fun k hk => .inr (r2'.lt k hk).1⟩
  · subst hsize
    subst hby
    have hsmall : n + m ≤ 9223372036854775807 := by simp only [maxLen] at h63; omega
    have hlen : (xs ++ news).length = (n + m) * i.size := by rw [List.length_append, hown.1, hl, Nat.add_mul]
    by_cases hroom : n + m ≤ cap
    · have hfit : off + n * i.size + news.length ≤ cur.size := by
        have : n * i.size + m * i.size ≤ cap * i.size := by rw [← Nat.add_mul]; exact Nat.mul_le_mul_right _ hroom
        omega
      have hf := run_firstCells_some (P := P) w i.size m a m c news hl hnews
      have hst := run_storeCells_free (P := P) g (off + n * i.size) e fz news 0 cur w hg hfz (by simpa using hfit) h1
      simp only [Nat.add_zero] at hst
      have hr : (Builtin.append_ #[t, t] ty #[.slice (some ⟨g, off, none⟩) n cap, .slice (some a) m c]).run P w =
          .ok (.slice (some ⟨g, off, none⟩) (n + m) cap) (w.setRow g (cur.toList.take (off + n * i.size) ++ news ++ cur.toList.drop (off + n * i.size + news.length)).toArray) := by
        simp [Builtin.append_, run_underlying ht, sizeOf, typeInfo, hi, Builtin.lenOf, hroom, hf, Addr.add_mid, hst]
      have hsz' : (cur.toList.take (off + n * i.size) ++ news ++ cur.toList.drop (off + n * i.size + news.length)).length = cur.size := by
        simp only [List.length_append, List.length_take, List.length_drop, Array.length_toList]
        omega
      refine ⟨_, _, hr, ⟨hlen, .inr ⟨g, off, cap, _, fz, rfl, hbg, setRow_heap w g cur _ e _ hg, (by rw [List.size_toArray, hsz']; exact hfz), hroom, hcm, ?_, ?_⟩⟩, ⟨rfl, rfl, rfl, by simp, fun k _ hk => setRow_other w g k _ (fun e => hk (by simp [Value.ownBlock, e]))⟩, by simp, fun k hk => .inl hk⟩
      · rw [List.size_toArray, hsz']; exact hcs
      · have ht1 : cur.toList.take (off + n * i.size) = cur.toList.take off ++ xs := by rw [← htake, List.take_add]
        rw [List.toList_toArray, ht1]
        simp only [List.append_assoc]
        rw [List.drop_left' (by simp; omega), ← List.append_assoc, ← hlen]
        exact List.take_left
    · have holds : ∀ j u, xs[j]? = some u → w.cell? ((⟨g, off, none⟩ : Addr).add j) = some u := hown.cells rfl
      have hr := run_append_grow (P := P) w t ty e i z ht hi hz ⟨g, off, none⟩ n cap xs hown.1 holds a m c news hl hnews (by omega) (by omega) (growslice_fits (by omega) hbytes)
      have hge := grownCap_ge w (n + m) cap e
      have hcm2 : grownCap w (n + m) cap e ≤ maxLen := grownCap_le_maxLen w (n + m) cap e h63
      refine ⟨_, _, hr, ⟨hlen, .inr ⟨w.heap.size, 0, _, _, (0, 0), rfl, hbase, heap_alloc_new w.drew _, Free.none _, hge, hcm2, ?_, ?_⟩⟩, ⟨rfl, rfl, rfl, by simp, fun k hk _ => RowKit.Below.heap_alloc w.drew _ k hk⟩, by simp, fun k hk => .inr (by simp [Value.ownBlock] at hk; omega)⟩
      · simp only [Array.size_append, List.size_toArray, size_zeroCells, hzs, hown.1, hl, ← Nat.add_mul]
        rw [show n + m + (grownCap w (n + m) cap e - (n + m)) = grownCap w (n + m) cap e by omega]; omega
      · simp only [List.drop_zero, Array.toList_append, List.append_assoc]
        rw [← List.append_assoc, ← hlen]
        exact List.take_left

/-! ### .. as the walk meets them -/
def ElemT (P : Program) (t e : TypeId) (size bytes : Nat) : Prop := P.underlying t = some (.slice e) ∧ 0 < size ∧ ∃ i z, P.info? e = some i ∧ i.zero = some z ∧ i.size = size ∧ i.bytes = bytes ∧ z.cells.size = size
theorem ElemT.mk' {t e : TypeId} {z : Value} {size bytes : Nat} (ht : P.underlying t = some (.slice e)) (h : (P.info? e).map (fun i => (i.zero, i.size, i.bytes)) = some (some z, size, bytes)) (hz : z.cells.size = size) (h0 : 0 < size) : ElemT P t e size bytes := by
  cases hq : P.info? e with
  | none => simp [hq] at h
  | some i =>
    simp [hq] at h
    exact ⟨ht, h0, i, z, hq, h.1, h.2.1, h.2.2, hz⟩
theorem wpList_append_sl {t e : TypeId} {size bytes : Nat} (E : ElemT P t e size bytes) {w : World} {base : Nat} {v : Value} {n : Nat} {xs : List Value} (hown : Sl w base e size v n xs) (news : List Value)
    {ops : Array Oper} {rest : List Oper} {o : Oper} {a : Act} {Q : Exit → Act → World → Prop} {s x : Operand} {ad : Addr} {m c : Nat}
    (hgd : o.guard = none) (ho : o.op = .call { callee := .builtin .append, args := #[s, x], argTypes := #[t, t] })
    (hs : a.eval s = v) (hx : a.eval x = .slice (some ad) m c) (hl : news.length = m * size) (hnews : ∀ j u, news[j]? = some u → w.cell? (ad.add j) = some u) (h1 : ∀ u ∈ news, u.oneCell' = true)
    (h63 : n + m ≤ maxLen) (hbytes : (n + m) * bytes ≤ 140737488355328) (hbase : base ≤ w.heap.size)
    (h : ∀ v' w', Sl w' base e size v' (n + m) (xs ++ news) → w.grownBy w' v.ownBlock → (v' = .slice none 0 0 ↔ v = .slice none 0 0 ∧ m = 0) → (∀ k, v'.ownBlock = some k → v.ownBlock = some k ∨ w.heap.size ≤ k) → wpList P ops Q rest (a.put o.dst v') w') :
    wpList P ops Q (o :: rest) a w := by
  obtain ⟨ht, h0, i, z, hi, hz, hsize, hby, hzs⟩ := E
  refine wpList_plain hgd fun K hK => ?_
  obtain ⟨v', w', hr, h2, h3, h4, h5⟩ := run_append_sl (P := P) w base t o.type e i z size bytes ht hi hz hsize hby hzs h0 v n xs hown ad m c news hl hnews h1 h63 hbytes hbase
  unfold Oper.wp execOp
  simp only [ho, resolve, invoke, builtin, Sem.run_bind, Sem.run_pure, Result.andThen_ok, List.map_toArray, List.map_cons, List.map_nil, hs, hx, hr]
  exact hK _ _ (h v' w' h2 h3 h4 h5)
theorem news_alloc (w : World) (vs : List Value) (e : TypeId) (fz : Nat × Nat) : ∀ j u, vs[j]? = some u → (w.alloc (.cells vs.toArray e fz)).cell? ((⟨w.heap.size, 0, none⟩ : Addr).add j) = some u := by
  intro j u hu
  rw [Addr.add_mid, Nat.zero_add, World.cell?_alloc_mark]
  simpa using hu
/-- '[]byte(s)' lays a slice of its own. -/
theorem Sl.of_string (w : World) (base : Nat) (hb : base ≤ w.heap.size) (s : ByteArray) (e : TypeId) (hs : s.size ≤ maxLen) (cap : Nat) (hc : cap = grownCap w s.size 0 e) :
    Sl (w.drew.alloc (.cells (bytesRow s cap) e ((bytesRow s cap).size, (bytesRow s cap).size + 1))) base e 1 (.slice (some ⟨w.heap.size, 0, none⟩) s.size cap) s.size (bytesV s.data.toList) := by
  subst hc
  have hge := grownCap_ge w s.size 0 e
  have hsz : (bytesRow s (grownCap w s.size 0 e)).size = grownCap w s.size 0 e := by
    have : s.data.size = s.size := rfl
    simp [bytesRow]; omega
  have := Sl.of_block (w := w.drew.alloc (.cells (bytesRow s (grownCap w s.size 0 e)) e ((bytesRow s (grownCap w s.size 0 e)).size, (bytesRow s (grownCap w s.size 0 e)).size + 1))) (base := base) (e := e) (size := 1) (n := s.size) (g := w.heap.size) (off := 0) (cap := grownCap w s.size 0 e) (cur := bytesRow s (grownCap w s.size 0 e)) (fz := _)
    hb (heap_alloc_new w.drew _) (Free.mark _) hge (grownCap_le_maxLen w _ 0 e hs) (by omega)
  have e2 : ((bytesRow s (grownCap w s.size 0 e)).toList.drop 0).take (s.size * 1) = bytesV s.data.toList := by
    have : s.data.toList.length = s.size := by simp
    simp only [bytesRow, bytesV, List.drop_zero, Array.toList_append, Array.toList_map, Nat.mul_one]
    rw [List.take_left' (by simp)]
  rw [e2] at this
  exact this
/-- 'string(b)' of a slice whose bytes are known. -/
theorem run_conv_sl {src dst e : TypeId} (hs : P.underlying src = some (.slice e)) (he : P.underlying e = some (.int .u8)) (hd : P.underlying dst = some .string) {w : World} {base : Nat} {v : Value} {n : Nat} {l : List UInt8} (h : Sl w base e 1 v n (bytesV l)) :
    (convert src dst v).run P w = .ok (.string ⟨l.toArray⟩) w := by
  rcases h.shape with ⟨rfl, rfl, hl⟩ | ⟨g, off, c, rfl, hc⟩
  · have : l = [] := by simpa [bytesV] using hl
    subst this
    exact run_convert_bytes_nil (P := P) w src e hs he 0 0 dst hd
  · have hn : n = l.length := by have := h.1; rw [bytesV_length] at this; omega
    subst hn
    refine run_convert_bytes_back w src dst e _ c l hs he hd ?_
    intro j hj
    exact h.cells rfl j _ (bytesV_at hj)

/-! ### 'make([]byte, n)' -/
def madeB (n : Nat) : Array Value := (List.replicate n (.int .u8 0)).toArray
theorem madeB_bytes (n : Nat) : (madeB n).toList = bytesV (List.replicate n 0) := by simp [madeB, bytesV]
theorem run_make_bytes {t e : TypeId} {i : TypeInfo} (ht : P.underlying t = some (.slice e)) (hi : P.info? e = some i) (hz : i.zero = some (.int .u8 0)) (hs : i.size = 1) (hb : i.bytes = 1) (n : Nat) (h : n ≤ 140737488355328) (w : World) :
    (Instr.makeSlice t (.int .i64 n) (.int .i64 n)).run P w = .ok (.slice (some ⟨w.heap.size, 0, none⟩) n n) (w.alloc (.cells (madeB n) e)) := by
  rw [run_make w t e i (.int .u8 0) ht hi hz .i64 .i64 n n (by omega) (by omega) (by rw [hb]; omega) (by omega), hs]
  have e1 : madeCells (Value.int IntKind.u8 0).cells ((n : Int).toNat * 1) = madeB n := by
    unfold madeCells madeB
    apply Array.ext
    · simp
    · intro j h1 h2
      simp [Value.cells, Nat.mod_one]
  rw [e1, Int.toNat_natCast]
theorem Sl.of_made (w : World) (base : Nat) (hb : base ≤ w.heap.size) (e : TypeId) (n : Nat) (hn : n ≤ maxLen) : Sl (w.alloc (.cells (madeB n) e)) base e 1 (.slice (some ⟨w.heap.size, 0, none⟩) n n) n (bytesV (List.replicate n 0)) := by
  have hsz : (madeB n).size = n := by simp [madeB]
  have := Sl.of_block (w := w.alloc (.cells (madeB n) e)) (base := base) (e := e) (size := 1) (n := n) (g := w.heap.size) (off := 0) (cap := n) (cur := madeB n) (fz := (0, 0))
    hb (heap_alloc_new w _) (Free.none _) (Nat.le_refl _) hn (by omega)
  rw [List.drop_zero, madeB_bytes, List.take_of_length_le (by rw [bytesV_length]; simp)] at this
  exact this

/-! ### a region whose operations read but for its tail -/
theorem still_of_quiet {ops : Array Oper} {w : World} {Q : Act → Prop} : ∀ (l : List Oper) (a : Act), wpQuiet P ops (fun w' => w' = w) Q l a → wpStill P ops w Q l a
  | [], _, h => h
  | o :: rest, a, h => by
    unfold wpQuiet at h
    unfold wpStill
    split
    · rename_i hw
      rw [if_pos hw] at h
      obtain ⟨v, hq, hn⟩ := h
      have hq := hq w rfl
      unfold Oper.quietAt at hq
      unfold Oper.still
      revert hq
      cases (execOp a.eval o).run P w with
      | halt h w' => intro hq; exact hq.elim
      | ok x w' =>
        cases x <;> intro hq
        case value u =>
          obtain ⟨h1, h2⟩ := hq
          subst h2
          exact ⟨h1, still_of_quiet rest _ hn⟩
        case skip =>
          obtain ⟨h1, h2⟩ := hq
          subst h2
          exact ⟨h1, still_of_quiet rest _ hn⟩
        case enter f args =>
          obtain ⟨h1, h2⟩ := hq
          exact ⟨h1, v, h2, still_of_quiet rest _ hn⟩
        all_goals exact hq.elim
    · rename_i hw
      rw [if_neg hw] at h
      exact still_of_quiet rest _ h
end Go
