/-
  DiskKeeps: what its variables hold.
-/
import Derived.Test.YtkmgmfahhidbbaaDs
import Derived.Test.YtkmgmfahhidbbaaPicks
import Derived.Test.YtkmgmfahhidbbaaPKeeps
namespace Go.Proofs.Ytkmgmfahhidbbaa
open Go.RowKit
def KS (B bd gS gO oO cO : Nat) (w0 W : World) (D : PDsk.Dsk) (own : List Nat) (sB : Nat → UInt8) (vs : Nat → Value) (ns : Nat → List UInt8) : Prop :=
  IsDisk W bd D own ∧ (∀ k ∈ own, B ≤ k) ∧ Below B w0 W ∧ Sl W B 5 1 (.slice (some ⟨gS, 0, none⟩) 4 4) 4 (bytesV ((List.range 4).map sB)) ∧
  Sl W B 31 1 (.slice (some ⟨gO, oO, none⟩) 4 cO) 4 ((List.range 4).map vs) ∧ (∀ k, k < 4 → Sl W B 5 1 (vs k) (ns k).length (bytesV (ns k))) ∧
  (∀ j k b, j < 4 → k < 4 → j ≠ k → (vs j).ownBlock = some b → (vs k).ownBlock ≠ some b) ∧ (∀ k, k < 4 → (vs k).ownBlock ≠ some gS)
theorem slBlock {w : World} {base : Nat} {e : TypeId} {size n : Nat} {v : Value} {xs : List Value} (h : Sl w base e size v n xs) {k : Nat} (hk : v.ownBlock = some k) : ∃ c fz, w.heap[k]? = some (.cells c e fz) := by
  rcases h.2 with ⟨rfl, _⟩ | ⟨g, off, cap, cur, fz, rfl, _, hgg, _⟩
  · simp [Value.ownBlock] at hk
  · simp [Value.ownBlock] at hk; subst hk; exact ⟨_, _, hgg⟩
theorem own_type {W : World} {b : Nat} {D : PDsk.Dsk} {own : List Nat} (h : IsDisk W b D own) : ∀ k ∈ own, ∃ c t fz, W.heap[k]? = some (.cells c t fz) ∧ (t = 60 ∨ t = 62 ∨ t = 64) := by
  obtain ⟨hok, gs, os, cs, vl, hb, hs, hl, e1, e2, e3, rfl⟩ := h
  intro k hk
  simp only [List.mem_cons] at hk
  rcases hk with rfl | rfl | hk
  · exact ⟨_, _, _, hb, .inl rfl⟩
  · obtain ⟨c, fz, h⟩ := slBlock hs (k := k) rfl
    exact ⟨_, _, _, h, .inr (.inl rfl)⟩
  · obtain ⟨c, fz, h⟩ := slBlock hl (k := k) (by simpa [ownsOf] using hk)
    exact ⟨_, _, _, h, .inr (.inr rfl)⟩
theorem apart_own {W : World} {b : Nat} {D : PDsk.Dsk} {own : List Nat} (h : IsDisk W b D own) {base : Nat} {e : TypeId} {size n : Nat} {v : Value} {xs : List Value} (hs : Sl W base e size v n xs) (he : e = 5 ∨ e = 31) : ∀ k, v.ownBlock = some k → k ∉ own := by
  intro k hk hm
  obtain ⟨c, fz, h1⟩ := slBlock hs hk
  obtain ⟨c', t, fz', h2, h3⟩ := own_type h k hm
  rw [h1] at h2
  simp at h2
  obtain ⟨_, rfl, _⟩ := h2
  rcases he with rfl | rfl <;> rcases h3 with h | h | h <;> exact absurd h (by decide)
theorem apart_types {W : World} {base base' : Nat} {e e' : TypeId} {size size' n n' : Nat} {v v' : Value} {xs xs' : List Value} (h : Sl W base e size v n xs) (h' : Sl W base' e' size' v' n' xs') (he : e ≠ e') : ∀ k, v.ownBlock = some k → v'.ownBlock ≠ some k := by
  intro k hk hk'
  obtain ⟨c, fz, h1⟩ := slBlock h hk
  obtain ⟨c', fz', h2⟩ := slBlock h' hk'
  rw [h1] at h2
  simp at h2
  exact he h2.2.1
section
variable {B bd gS gO oO cO : Nat} {w0 W : World} {D : PDsk.Dsk} {own : List Nat} {sB : Nat → UInt8} {vs : Nat → Value} {ns : Nat → List UInt8}
theorem KS.below (h : KS B bd gS gO oO cO w0 W D own sB vs ns) (hB : B ≤ w0.heap.size) {W' : World} (hb : Below W.heap.size W W') : KS B bd gS gO oO cO w0 W' D own sB vs ns := by
  obtain ⟨h1, h2, h3, h4, h5, h6, h7, h8⟩ := h
  exact ⟨h1.below hb, h2, h3.trans (hb.mono (Nat.le_trans hB h3.size)), h4.keep fun k e => hb.block k (h4.lt k e).2, h5.keep fun k e => hb.block k (h5.lt k e).2, fun k hk => (h6 k hk).keep fun j e => hb.block j ((h6 k hk).lt j e).2, h7, h8⟩
theorem KS.disk (h : KS B bd gS gO oO cO w0 W D own sB vs ns) (hB : B ≤ w0.heap.size) {W' : World} {D' : PDsk.Dsk} {own' : List Nat} (hd : IsDisk W' bd D' own') (s : Stepped W W' own own') : KS B bd gS gO oO cO w0 W' D' own' sB vs ns := by
  obtain ⟨h1, h2, h3, h4, h5, h6, h7, h8⟩ := h
  obtain ⟨k1, k2⟩ := Stepped.below h3 hB h2 s
  exact ⟨hd, k2, k1, h4.keep fun k e => s.1.block k (h4.lt k e).2 (apart_own h1 h4 (.inl rfl) k e), h5.keep fun k e => s.1.block k (h5.lt k e).2 (apart_own h1 h5 (.inr rfl) k e),
    fun k hk => (h6 k hk).keep fun j e => s.1.block j ((h6 k hk).lt j e).2 (apart_own h1 (h6 k hk) (.inl rfl) j e), h7, h8⟩
theorem map_set4 {α : Type} (f : Nat → α) (k : Nat) (v : α) : ((List.range 4).map f).set k v = (List.range 4).map (fun j => if j = k then v else f j) := by
  apply List.ext_getElem
  · simp
  · intro i h1 h2
    rw [List.getElem_set]
    simp only [List.getElem_map, List.getElem_range]
    by_cases h : k = i
    · subst h; simp
    · have h' : ¬ i = k := fun e => h e.symm
      simp [h, h']
/-- A byte of sure is stored. -/
theorem KS.setSure (h : KS B bd gS gO oO cO w0 W D own sB vs ns) {k : Nat} (hk : k < 4) (b : UInt8) : KS B bd gS gO oO cO w0 (W.setCell ⟨gS, k, none⟩ (.int .u8 (b.toNat : Int))) D own (fun j => if j = k then b else sB j) vs ns := by
  obtain ⟨h1, h2, h3, h4, h5, h6, h7, h8⟩ := h
  have hgS : gS ∉ own := apart_own h1 h4 (.inl rfl) gS rfl
  have hset := h4.set (j := k) (by omega) (.int .u8 (b.toNat : Int))
  rw [Nat.zero_add, bytesV_set, map_set4] at hset
  refine ⟨h1.turns (bs := [gS]) ((Turns.refl _ W).set (by simp) _) (fun j hj hm => hgS (by rw [List.mem_singleton.1 hm] at hj; exact hj)), h2, h3.setCell (p := ⟨gS, k, none⟩) (h4.lt gS rfl).1 _, hset, ?_, fun j hj => ?_, h7, h8⟩
  · exact h5.keep fun j e => Below.heap_setCell _ _ _ _ (fun e' => apart_types h4 h5 (by decide) gS rfl (by rw [e, e']))
  · exact (h6 j hj).keep fun i e => Below.heap_setCell _ _ _ _ (fun e' => h8 j hj (by rw [e, e']))
/-- An entry of since is stored. -/
theorem KS.setSince (h : KS B bd gS gO oO cO w0 W D own sB vs ns) {k : Nat} (hk : k < 4) (v : Value) (l : List UInt8) (hv : Sl W B 5 1 v l.length (bytesV l)) (ho : ∀ j b, j < 4 → j ≠ k → (vs j).ownBlock = some b → v.ownBlock ≠ some b) (hs : v.ownBlock ≠ some gS) :
    KS B bd gS gO oO cO w0 (W.setCell ⟨gO, oO + k, none⟩ v) D own sB (fun j => if j = k then v else vs j) (fun j => if j = k then l else ns j) := by
  obtain ⟨h1, h2, h3, h4, h5, h6, h7, h8⟩ := h
  have hgO : gO ∉ own := apart_own h1 h5 (.inr rfl) gO rfl
  have hset := h5.set (j := k) (by omega) v
  rw [map_set4] at hset
  refine ⟨h1.turns (bs := [gO]) ((Turns.refl _ W).set (by simp) _) (fun j hj hm => hgO (by rw [List.mem_singleton.1 hm] at hj; exact hj)), h2, h3.setCell (p := ⟨gO, oO + k, none⟩) (h5.lt gO rfl).1 _, ?_, hset, fun j hj => ?_, ?_, ?_⟩
  · exact h4.keep fun j e => Below.heap_setCell _ _ _ _ (fun e' => apart_types h5 h4 (by decide) gO rfl (by rw [e, e']))
  · by_cases e : j = k
    · subst e
      simp only [if_true]
      exact hv.keep fun i e => Below.heap_setCell _ _ _ _ (fun e' => apart_types h5 hv (by decide) gO rfl (by rw [e, e']))
    · simp only [if_neg e]
      exact (h6 j hj).keep fun i e => Below.heap_setCell _ _ _ _ (fun e' => apart_types h5 (h6 j hj) (by decide) gO rfl (by rw [e, e']))
  · intro i j b hi hj hne e
    by_cases e1 : i = k
    · subst e1
      simp only [if_true] at e
      simp only [if_neg (fun e : j = i => hne e.symm)]
      intro e'
      exact ho j b hj (fun e => hne e.symm) e' e
    · simp only [if_neg e1] at e
      by_cases e2 : j = k
      · subst e2; simp only [if_true]; exact ho i b hi e1 e
      · simp only [if_neg e2]; exact h7 i j b hi hj hne e
  · intro j hj
    by_cases e : j = k
    · simp only [if_pos e]; exact hs
    · simp only [if_neg e]; exact h8 j hj
/-- A block has grown behind an entry of since. -/
theorem KS.grown (h : KS B bd gS gO oO cO w0 W D own sB vs ns) (hB : B ≤ w0.heap.size) {k : Nat} (hk : k < 4) {W' : World} (hg : W.grownBy W' (vs k).ownBlock) {v : Value} {l : List UInt8} (hv : Sl W' B 5 1 v l.length (bytesV l)) (hvo : ∀ b, v.ownBlock = some b → (vs k).ownBlock = some b ∨ W.heap.size ≤ b) :
    KS B bd gS gO oO cO w0 (W'.setCell ⟨gO, oO + k, none⟩ v) D own sB (fun j => if j = k then v else vs j) (fun j => if j = k then l else ns j) ∧ W'.heap[gO]? = W.heap[gO]? := by
  obtain ⟨h1, h2, h3, h4, h5, h6, h7, h8⟩ := h
  have hgO : W'.heap[gO]? = W.heap[gO]? := hg.block gO (h5.lt gO rfl).2 (fun e => apart_types h5 (h6 k hk) (by decide) gO rfl e.symm)
  have hd : IsDisk W' bd D own := by
    have hlt := h1.lt
    have hn : ∀ j ∈ own, some j ≠ (vs k).ownBlock := fun j hj e => apart_own h1 (h6 k hk) (.inl rfl) j e.symm hj
    refine h1.turns (bs := (vs k).ownBlock.toList) ⟨hg.os, hg.tape, hg.output, hg.size, fun j hj hjn => hg.block j hj (fun e => hjn (by rw [← e]; simp))⟩ (fun j hj hm => hn j hj (by simpa using (Option.mem_toList.1 hm).symm))
  have h4' : Sl W' B 5 1 _ 4 _ := h4.keep fun j e => hg.block j (h4.lt j e).2 (fun e' => h8 k hk (by rw [← e', ← e]; rfl))
  have h5' : Sl W' B 31 1 _ 4 _ := h5.keep fun j e => hg.block j (h5.lt j e).2 (fun e' => apart_types h5 (h6 k hk) (by decide) j e e'.symm)
  have hb' : Below B w0 W' := h3.grown hg (Nat.le_trans hB h3.size) (fun j e => ((h6 k hk).lt j e).1)
  refine ⟨?_, hgO⟩
  have hset := h5'.set (j := k) (by omega) v
  rw [map_set4] at hset
  have hgOo : gO ∉ own := apart_own h1 h5 (.inr rfl) gO rfl
  refine ⟨hd.turns (bs := [gO]) ((Turns.refl _ W').set (by simp) _) (fun j hj hm => hgOo (by rw [List.mem_singleton.1 hm] at hj; exact hj)), h2, hb'.setCell (p := ⟨gO, oO + k, none⟩) (h5.lt gO rfl).1 _, ?_, hset, fun j hj => ?_, ?_, ?_⟩
  · exact h4'.keep fun j e => Below.heap_setCell _ _ _ _ (fun e' => apart_types h5' h4' (by decide) gO rfl (by rw [e, e']))
  · by_cases e : j = k
    · subst e
      simp only [if_true]
      exact hv.keep fun i e => Below.heap_setCell _ _ _ _ (fun e' => apart_types h5' hv (by decide) gO rfl (by rw [e, e']))
    · simp only [if_neg e]
      refine (h6 j hj).keep fun i e' => (Below.heap_setCell _ _ _ _ (fun e2 => apart_types h5 (h6 j hj) (by decide) gO rfl (by rw [e', e2]))).trans (hg.block i ((h6 j hj).lt i e').2 (fun e2 => h7 k j i hk hj (fun e3 => e e3.symm) e2.symm e'))
  · intro i j b hi hj hne e
    by_cases e1 : i = k
    · subst e1
      simp only [if_true] at e
      simp only [if_neg (fun e : j = i => hne e.symm)]
      intro e'
      rcases hvo b e with h | h
      · exact h7 i j b hi hj hne h e'
      · have := ((h6 j hj).lt b e').2; omega
    · simp only [if_neg e1] at e
      by_cases e2 : j = k
      · subst e2
        simp only [if_true]
        intro e'
        rcases hvo b e' with h | h
        · exact h7 i j b hi hk hne e h
        · have := ((h6 i hi).lt b e).2; omega
      · simp only [if_neg e2]; exact h7 i j b hi hj hne e
  · intro j hj
    by_cases e : j = k
    · simp only [if_pos e]
      intro e'
      rcases hvo gS e' with h | h
      · exact h8 k hk h
      · have := (h4.lt gS rfl).2; omega
    · simp only [if_neg e]; exact h8 j hj
end
end Go.Proofs.Ytkmgmfahhidbbaa
