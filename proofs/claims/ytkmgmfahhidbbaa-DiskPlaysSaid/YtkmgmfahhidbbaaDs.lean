/-
  Several disks beside each other; a list that came in, appended to an empty one.
-/
import Derived.Test.YtkmgmfahhidbbaaCopy
import Derived.Test.YtkmgmfahhidbbaaAlive
import Derived.Test.YtkmgmfahhidbbaaHeavy
namespace Go.Proofs.Ytkmgmfahhidbbaa
open Go.RowKit
structure DskAt where
  b : Nat
  D : PDsk.Dsk
  own : List Nat
/-- The disks l lie beside each other, beyond block B; no block of oth is one of theirs. -/
def Ds (w : World) (B : Nat) (oth : List Nat) (l : List DskAt) : Prop :=
  (∀ x ∈ l, IsDisk w x.b x.D x.own ∧ (∀ k ∈ x.own, B ≤ k) ∧ ∀ k ∈ oth, k ∉ x.own) ∧ l.Pairwise (fun x y => ∀ k ∈ x.own, k ∉ y.own) ∧ ∀ k ∈ oth, k < w.heap.size
theorem Ds.below {w w' : World} {B : Nat} {oth : List Nat} {l : List DskAt} (h : Ds w B oth l) (hb : Below w.heap.size w w') : Ds w' B oth l :=
  ⟨fun x hx => ⟨(h.1 x hx).1.below hb, (h.1 x hx).2⟩, h.2.1, fun k hk => Nat.lt_of_lt_of_le (h.2.2 k hk) hb.size⟩
theorem Ds.add {w w' : World} {B : Nat} {oth : List Nat} {l : List DskAt} (h : Ds w B oth l) (hB : B ≤ w.heap.size) (hb : Below w.heap.size w w') {b : Nat} {D : PDsk.Dsk} {own : List Nat} (hd : IsDisk w' b D own) (ho : ∀ k ∈ own, w.heap.size ≤ k) : Ds w' B oth (⟨b, D, own⟩ :: l) := by
  have h' := h.below hb
  refine ⟨fun x hx => ?_, List.pairwise_cons.2 ⟨fun y hy k hk hm => ?_, h'.2.1⟩, h'.2.2⟩
  · rcases List.mem_cons.1 hx with rfl | hx
    · exact ⟨hd, fun k hk => Nat.le_trans hB (ho k hk), fun k hk hm => by have := h.2.2 k hk; have := ho k hm; omega⟩
    · exact h'.1 x hx
  · have := (h.1 y hy).1.lt k hm
    have := ho k hk
    omega
theorem Ds.other {w : World} {B : Nat} {oth : List Nat} {l : List DskAt} (h : Ds w B oth l) {g : Nat} (hg : g < w.heap.size) (hn : ∀ x ∈ l, g ∉ x.own) : Ds w B (g :: oth) l :=
  ⟨fun x hx => ⟨(h.1 x hx).1, (h.1 x hx).2.1, fun k hk => by
    rcases List.mem_cons.1 hk with rfl | hk
    · exact hn x hx
    · exact (h.1 x hx).2.2 k hk⟩, h.2.1, fun k hk => by
    rcases List.mem_cons.1 hk with rfl | hk
    · exact hg
    · exact h.2.2 k hk⟩
/-- One of them has turned. -/
theorem Ds.step {w w' : World} {B : Nat} {oth : List Nat} {l1 l2 : List DskAt} {x : DskAt} (h : Ds w B oth (l1 ++ x :: l2)) (hB : B ≤ w.heap.size) {D' : PDsk.Dsk} {own' : List Nat} (hd : IsDisk w' x.b D' own') (s : Stepped w w' x.own own') : Ds w' B oth (l1 ++ ⟨x.b, D', own'⟩ :: l2) := by
  obtain ⟨h1, h2, h3⟩ := h
  rw [List.pairwise_append, List.pairwise_cons] at h2
  obtain ⟨p1, ⟨p2, p3⟩, p4⟩ := h2
  have hx := h1 x (by simp)
  have keep : ∀ y ∈ l1 ++ l2, (∀ k ∈ y.own, k ∉ x.own) → IsDisk w' y.b y.D y.own := fun y hy hk => (h1 y (by simp at hy ⊢; rcases hy with h | h <;> simp [h])).1.turns s.1 hk
  have a1 : ∀ y ∈ l1, ∀ k ∈ y.own, k ∉ x.own := fun y hy => p4 y hy x (by simp)
  have a2 : ∀ y ∈ l2, ∀ k ∈ y.own, k ∉ x.own := fun y hy k hk hm => p2 y hy k hm hk
  have lt1 : ∀ y ∈ l1 ++ l2, ∀ k ∈ y.own, k < w.heap.size := fun y hy => (h1 y (by simp at hy ⊢; rcases hy with h | h <;> simp [h])).1.lt
  refine ⟨fun y hy => ?_, ?_, fun k hk => Nat.lt_of_lt_of_le (h3 k hk) s.1.size⟩
  · simp only [List.mem_append, List.mem_cons] at hy
    rcases hy with hy | rfl | hy
    · exact ⟨keep y (by simp [hy]) (a1 y hy), (h1 y (by simp [hy])).2⟩
    · refine ⟨hd, fun k hk => ?_, fun k hk hm => ?_⟩
      · rcases s.2 k hk with h | h
        · exact hx.2.1 k h
        · omega
      · rcases s.2 k hm with h | h
        · exact hx.2.2 k hk h
        · have := h3 k hk; omega
    · exact ⟨keep y (by simp [hy]) (a2 y hy), (h1 y (by simp [hy])).2⟩
  · rw [List.pairwise_append, List.pairwise_cons]
    refine ⟨p1, ⟨fun y hy k hk hm => ?_, p3⟩, fun y hy z hz => ?_⟩
    · rcases s.2 k hk with h | h
      · exact p2 y hy k h hm
      · have := lt1 y (by simp [hy]) k hm; omega
    · rcases List.mem_cons.1 hz with rfl | hz
      · intro k hk hm
        rcases s.2 k hm with h | h
        · exact a1 y hy k hk h
        · have := lt1 y (by simp [hy]) k hk; omega
      · exact p4 y hy z (by simp [hz])
theorem Ds.get {w : World} {B : Nat} {oth : List Nat} {l1 l2 : List DskAt} {x : DskAt} (h : Ds w B oth (l1 ++ x :: l2)) : IsDisk w x.b x.D x.own := (h.1 x (by simp)).1
theorem Ds.below_of {w0 w w' : World} {B : Nat} {oth : List Nat} {l1 l2 : List DskAt} {x : DskAt} (h : Ds w B oth (l1 ++ x :: l2)) (hb : Below B w0 w) (h0 : B ≤ w0.heap.size) {own' : List Nat} (s : Stepped w w' x.own own') : Below B w0 w' :=
  (Stepped.below hb h0 (h.1 x (by simp)).2.1 s).1
theorem Ds.sl {w w' : World} {B : Nat} {oth : List Nat} {l1 l2 : List DskAt} {x : DskAt} (h : Ds w B oth (l1 ++ x :: l2)) {own' : List Nat} (s : Stepped w w' x.own own') {base : Nat} {e : TypeId} {size n : Nat} {v : Value} {xs : List Value} (hs : Sl w base e size v n xs) (ho : ∀ k, v.ownBlock = some k → k ∈ oth) : Sl w' base e size v n xs :=
  hs.keep fun k hk => s.1.block k (hs.lt k hk).2 ((h.1 x (by simp)).2.2 k (ho k hk))
/-! ### append onto an empty list of what came in -/
theorem wpList_append_rd {P : Program} {t e : TypeId} {bytes : Nat} (E : ElemT P t e 1 bytes) {w : World} {base g : Nat} (hown : Sl w base e 1 (.slice (some ⟨g, 0, none⟩) 0 0) 0 []) {p : Option Addr} {m c : Nat} {xs : List Value} (hr : Rd w (.slice p m c) xs)
    {ops : Array Oper} {rest : List Oper} {o : Oper} {a : Act} {Q : Exit → Act → World → Prop} {s x : Operand}
    (hgd : o.guard = none) (ho : o.op = .call { callee := .builtin .append, args := #[s, x], argTypes := #[t, t] })
    (hs : a.eval s = .slice (some ⟨g, 0, none⟩) 0 0) (hx : a.eval x = .slice p m c) (h1 : ∀ u ∈ xs, u.oneCell' = true)
    (hbytes : m * bytes ≤ 140737488355328) (hbase : base ≤ w.heap.size)
    (h : ∀ v' w', Sl w' base e 1 v' m xs → w.grownBy w' (some g) → (∀ k, v'.ownBlock = some k → k = g ∨ w.heap.size ≤ k) → wpList P ops Q rest (a.put o.dst v') w') :
    wpList P ops Q (o :: rest) a w := by
  obtain ⟨p', c', e1, e2, e3, e4⟩ := hr
  simp at e1
  obtain ⟨rfl, rfl, rfl⟩ := e1
  cases p with
  | some ad =>
    refine wpList_append_sl E hown xs hgd ho hs hx (by simp) ?_ h1 (by unfold maxLen at e3 ⊢; omega) (by rw [Nat.zero_add]; exact hbytes) hbase ?_
    · intro j u hu
      obtain ⟨g', off, e5, e6, e7⟩ := e4 (by intro e; subst e; simp at hu)
      simp at e5
      subst e5
      rw [Addr.add_mid]
      obtain ⟨hlt, he⟩ := List.getElem?_eq_some_iff.1 hu
      rw [e7 j hlt, he]
    · intro v' w' k1 k2 _ k4
      rw [Nat.zero_add, List.nil_append] at k1
      exact h v' w' k1 k2 (fun k hk => by
        rcases k4 k hk with h | h
        · simp [Value.ownBlock] at h; exact .inl h.symm
        · exact .inr h)
  | none =>
    have hxs : xs = [] := by
      rcases Classical.em (xs = []) with h | h
      · exact h
      · obtain ⟨_, _, e5, _⟩ := e4 h; simp at e5
    subst hxs
    obtain ⟨ht, h0, i, z, hi, hz, hsize, hby, hzs⟩ := E
    refine wpList_plain hgd fun K hK => ?_
    have hr : (Builtin.append_ #[t, t] o.type #[.slice (some ⟨g, 0, none⟩) 0 0, .slice none 0 c]).run P w = .ok (.slice (some ⟨g, 0, none⟩) 0 0) w := by
      simp [Builtin.append_, run_underlying ht, sizeOf, typeInfo, hi, Builtin.lenOf, Builtin.firstCells, storeCells]
    unfold Oper.wp execOp
    simp only [ho, resolve, invoke, builtin, Sem.run_bind, Sem.run_pure, Result.andThen_ok, List.map_toArray, List.map_cons, List.map_nil, hs, hx, List.length_nil, hr]
    exact hK _ _ (h _ w hown (World.grownBy.refl w _) (fun k hk => by simp [Value.ownBlock] at hk; exact .inl hk.symm))
theorem elem_bool : ElemT Try.prog 23 4 1 1 := ElemT.mk' (z := .bool false) Try.underlying23 (by kernel_rfl) rfl (by decide)
end Go.Proofs.Ytkmgmfahhidbbaa
