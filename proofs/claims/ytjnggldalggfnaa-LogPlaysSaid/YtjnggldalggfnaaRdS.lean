/-
  Slices whose elements have more than one cell, that are read: where from soever.
-/
import Derived.Test.YtjnggldalggfnaaBase

namespace Go
open Go.RowKit
/-- a slice of n elements of m cells each, its cells known -/
def RdS (w : World) (m : Nat) (v : Value) (n : Nat) (xs : List Value) : Prop := xs.length = n * m ∧ ∃ p c, v = .slice p n c ∧ n ≤ c ∧ c ≤ maxLen ∧ (n ≠ 0 → ∃ g off, p = some ⟨g, off, none⟩ ∧ g < w.heap.size ∧ ∀ j (h : j < xs.length), w.cell? ⟨g, off + j, none⟩ = some xs[j])
theorem RdS.below {w w' : World} {B m n : Nat} {v : Value} {xs : List Value} (h : RdS w m v n xs) (hB : w.heap.size ≤ B) (hb : Below B w w') : RdS w' m v n xs := by
  obtain ⟨h0, p, c, h1, h2, h3, h4⟩ := h
  refine ⟨h0, p, c, h1, h2, h3, fun hx => ?_⟩
  obtain ⟨g, off, e1, e2, e3⟩ := h4 hx
  exact ⟨g, off, e1, Nat.lt_of_lt_of_le e2 hb.size, fun j hj => (hb.cell (p := ⟨g, off + j, none⟩) (by show g < B; omega)).trans (e3 j hj)⟩
theorem RdS.step {w w' : World} {m n : Nat} {v : Value} {xs : List Value} (h : RdS w m v n xs) (hb : Below w.heap.size w w') : RdS w' m v n xs := h.below (Nat.le_refl _) hb
theorem RdS.nil (w : World) (m : Nat) : RdS w m (.slice none 0 0) 0 [] := ⟨by simp, none, 0, rfl, Nat.le_refl _, Nat.zero_le _, fun h => absurd rfl h⟩
theorem RdS.of_sl {w : World} {base : Nat} {e : TypeId} {m n : Nat} {v : Value} {xs : List Value} (h : Sl w base e m v n xs) : RdS w m v n xs := by
  refine ⟨h.1, ?_⟩
  rcases h.2 with ⟨rfl, rfl⟩ | ⟨g, off, cap, cur, fz, rfl, hb, hg, hf, hn, hc, ho, hx⟩
  · exact ⟨none, 0, rfl, Nat.le_refl _, Nat.zero_le _, fun h => absurd rfl h⟩
  · exact ⟨some ⟨g, off, none⟩, cap, rfl, hn, hc, fun _ => ⟨g, off, rfl, (Array.getElem?_eq_some_iff.1 hg).1, fun j hj => h.cell hj⟩⟩
theorem RdS.form {w : World} {m n : Nat} {v : Value} {xs : List Value} (h : RdS w m v n xs) : ∃ p c, v = .slice p n c ∧ n ≤ c ∧ c ≤ maxLen := by
  obtain ⟨_, p, c, h1, h2, h3, _⟩ := h
  exact ⟨p, c, h1, h2, h3⟩
/-- its cells, the slice's address at hand -/
theorem RdS.at {w : World} {m n c : Nat} {p : Option Addr} {xs : List Value} (h : RdS w m (.slice p n c) n xs) (hn : n ≠ 0) : ∃ g off, p = some ⟨g, off, none⟩ ∧ g < w.heap.size ∧ ∀ j (h : j < xs.length), w.cell? ⟨g, off + j, none⟩ = some xs[j] := by
  obtain ⟨_, p', c', h1, _, _, h4⟩ := h
  simp at h1
  obtain ⟨rfl, rfl⟩ := h1
  exact h4 hn
/-- 'append(nil, s...)' -/
theorem wpList_append_nils {P : Program} {t e : TypeId} {size bytes : Nat} (E : ElemT P t e size bytes) {w : World} {m c : Nat} {p : Option Addr} {xs : List Value} (hr : RdS w size (.slice p m c) m xs)
    {ops : Array Oper} {rest : List Oper} {o : Oper} {a : Act} {Q : Exit → Act → World → Prop} {s x : Operand}
    (hgd : o.guard = none) (ho : o.op = .call { callee := .builtin .append, args := #[s, x], argTypes := #[t, t] })
    (hs : a.eval s = .slice none 0 0) (hx : a.eval x = .slice p m c) (h1 : ∀ u ∈ xs, u.oneCell' = true) (hbytes : m * bytes ≤ 140737488355328)
    (h : ∀ v' w', Sl w' w.heap.size e size v' m xs → Below w.heap.size w w' → wpList P ops Q rest (a.put o.dst v') w') : wpList P ops Q (o :: rest) a w := by
  obtain ⟨e0, p', c', e1, e2, e3, e4⟩ := hr
  simp at e1
  obtain ⟨rfl, rfl⟩ := e1
  cases p with
  | some ad =>
    refine wpList_append_sl E (Sl.nil w w.heap.size e size) xs hgd ho hs hx e0 ?_ h1 (by unfold maxLen at e3 ⊢; omega) (by rw [Nat.zero_add]; exact hbytes) (Nat.le_refl _) ?_
    · intro j u hu
      obtain ⟨hlt, he⟩ := List.getElem?_eq_some_iff.1 hu
      have hm : m ≠ 0 := by intro e; subst e; simp at e0; subst e0; simp at hlt
      obtain ⟨g', off, e5, e6, e7⟩ := e4 hm
      simp at e5
      subst e5
      rw [Addr.add_mid, e7 j hlt, he]
    · intro v' w' k1 k2 _ k4
      rw [Nat.zero_add, List.nil_append] at k1
      exact h v' w' k1 ((Below.refl _ _).grown k2 (Nat.le_refl _) (fun k e => by simp [Value.ownBlock] at e))
  | none =>
    have hm : m = 0 := by
      rcases Nat.eq_zero_or_pos m with h | h
      · exact h
      · obtain ⟨_, _, e5, _⟩ := e4 (by omega); simp at e5
    subst hm
    have hxs : xs = [] := by simpa using e0
    subst hxs
    obtain ⟨ht, h0, i, z, hi, hz, hsize, hby, hzs⟩ := E
    refine wpList_plain hgd fun K hK => ?_
    have hr : (Builtin.append_ #[t, t] o.type #[.slice none 0 0, .slice none 0 c]).run P w = .ok (.slice none 0 0) w := by
      simp [Builtin.append_, run_underlying ht, sizeOf, typeInfo, hi, Builtin.lenOf, Builtin.firstCells]
    unfold Oper.wp execOp
    simp only [ho, resolve, invoke, builtin, Sem.run_bind, Sem.run_pure, Result.andThen_ok, List.map_toArray, List.map_cons, List.map_nil, hs, hx, hr]
    exact hK _ _ (h _ w (Sl.nil _ _ _ _) (Below.refl _ _))
end Go
