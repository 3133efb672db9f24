/-
  The document's disk in memory, and what its small methods do.
-/
import Derived.Test.YtkmgmfahhidbbaaDisk2
import Derived.Test.YtkmgmfahhidbbaaDisk3
namespace Go.Proofs.Ytkmgmfahhidbbaa
open Go.RowKit
def refT (l : List UInt8) : Value := .string ⟨l.toArray⟩
def refS (s : List (List UInt8)) : List Value := s.map refT
def refW (p : Nat × List UInt8) : List Value := [.int .i64 p.1, refT p.2]
def refL (l : List (Nat × List UInt8)) : List Value := l.flatMap refW
theorem refS_length (s : List (List UInt8)) : (refS s).length = s.length := by simp [refS]
/-- Block b is the document's disk that holds D; own: its blocks. -/
def IsRef (w : World) (b : Nat) (D : PDsk.Dsk) (own : List Nat) : Prop :=
  D.Ok ∧ ∃ gs os cs vl, w.heap[b]? = some (.cells #[.slice (some ⟨gs, os, none⟩) D.sure.length cs, vl, .int .i64 D.fuse] 54 (0, 0)) ∧
    Sl w 0 9 1 (.slice (some ⟨gs, os, none⟩) D.sure.length cs) D.sure.length (refS D.sure) ∧ Sl w 0 86 2 vl D.loose.length (refL D.loose) ∧
    gs ≠ b ∧ b ∉ ownsOf vl ∧ gs ∉ ownsOf vl ∧ own = b :: gs :: ownsOf vl
section
variable {w : World} {b : Nat} {D : PDsk.Dsk} {own : List Nat}
theorem IsRef.ok (h : IsRef w b D own) : D.Ok := h.1
theorem IsRef.mem (h : IsRef w b D own) : b ∈ own := by
  obtain ⟨hk, gs, os, cs, vl, hb, hs, hl, e1, e2, e3, rfl⟩ := h; simp
theorem IsRef.lt (h : IsRef w b D own) : ∀ k ∈ own, k < w.heap.size := by
  obtain ⟨_, gs, os, cs, vl, hb, hs, hl, _, _, _, rfl⟩ := h
  intro k hk
  simp only [List.mem_cons] at hk
  rcases hk with rfl | rfl | hk
  · exact (Array.getElem?_eq_some_iff.1 hb).1
  · exact (hs.lt _ rfl).2
  · refine (hl.lt k ?_).2
    unfold ownsOf at hk
    simpa using hk
theorem IsRef.turns {w' : World} {bs : List Nat} (h : IsRef w b D own) (t : Turns bs w w') (hd : ∀ k ∈ own, k ∉ bs) : IsRef w' b D own := by
  have hlt := h.lt
  obtain ⟨hk, gs, os, cs, vl, hb, hs, hl, h1, h2, h3, rfl⟩ := h
  refine ⟨hk, gs, os, cs, vl, (t.block b (hlt b (by simp)) (hd b (by simp))).trans hb, hs.keep fun k e => t.block k (hs.lt k e).2 (hd k ?_), hl.keep fun k e => t.block k (hl.lt k e).2 (hd k ?_), h1, h2, h3, rfl⟩
  · simp [Value.ownBlock] at e; subst e; simp
  · simp [ownsOf, e]
theorem IsRef.below {w' : World} (h : IsRef w b D own) (hb : Below w.heap.size w w') : IsRef w' b D own := h.turns (bs := []) (Turns.of_below hb) (by simp)
theorem IsRef.setFuse (h : IsRef w b D own) (f : Int) (h1 : -1 ≤ f) (h2 : f ≤ 9223372036854775807) : IsRef (w.setCell ⟨b, 2, none⟩ (.int .i64 f)) b { D with fuse := f } own := by
  obtain ⟨hk, gs, os, cs, vl, hb, hs, hl, e1, e2, e3, rfl⟩ := h
  refine ⟨⟨hk.1, hk.2.1, hk.2.2.1, hk.2.2.2.1, h1, h2⟩, gs, os, cs, vl, ?_, ?_, ?_, e1, e2, e3, rfl⟩
  · rw [heap_set hb]; rfl
  · exact hs.keep fun k e => Below.heap_setCell _ _ _ _ (by simp [Value.ownBlock] at e; subst e; exact e1)
  · exact hl.keep fun k e => Below.heap_setCell _ _ _ _ (by intro e'; obtain rfl : k = b := e'; apply e2; simp [ownsOf, e])
/-- A sector is stored. -/
theorem IsRef.setSure (h : IsRef w b D own) {gs os cs : Nat} {vl : Value} (hb : w.heap[b]? = some (.cells #[.slice (some ⟨gs, os, none⟩) D.sure.length cs, vl, .int .i64 D.fuse] 54 (0, 0))) {k : Nat} (hk : k < D.sure.length) (x : List UInt8) (hx : x.length = 128) :
    IsRef (w.setCell ⟨gs, os + k, none⟩ (refT x)) b { D with sure := D.sure.set k x } own := by
  obtain ⟨hok, gs', os', cs', vl', hb', hs, hl, e1, e2, e3, rfl⟩ := h
  rw [hb] at hb'
  simp at hb'
  obtain ⟨⟨⟨rfl, rfl⟩, rfl⟩, rfl⟩ := hb'
  have hset := hs.set (j := k) (by omega) (refT x)
  have e4 : (refS D.sure).set k (refT x) = refS (D.sure.set k x) := by unfold refS; rw [List.map_set]
  rw [e4] at hset
  refine ⟨⟨by simpa using hok.1, by simpa using hok.2.1, ?_, by simpa using hok.2.2.2.1, hok.2.2.2.2⟩, gs, os, cs, vl, ?_, ?_, ?_, e1, e2, e3, rfl⟩
  · intro y hy
    rcases List.mem_or_eq_of_mem_set hy with h1 | h1
    · exact hok.2.2.1 y h1
    · rw [h1]; exact hx
  · rw [Below.heap_setCell _ _ _ _ (fun e => e1 (show gs = b from e.symm))]
    simpa using hb
  · simpa using hset
  · exact hl.keep fun j e => Below.heap_setCell _ _ _ _ (by intro e'; obtain rfl : j = gs := e'; apply e3; simp [ownsOf, e])
end
/-! ### burn, Fuse, keep -/
theorem rburn_any {b : Nat} {D : PDsk.Dsk} {own : List Nat} (w : World) (h : IsRef w b D own) : Calls Try.prog 41 #[.pointer (some ⟨b, 0, none⟩)] w fun e w' => e = .returned (.tuple #[]) ∧ (IsRef w' b { D with fuse := PDsk.burn D.fuse } own ∧ Stepped w w' own own) := by
  have H := Lib.hid h
  have hm := h.mem
  obtain ⟨hk, gs, os, cs, vl, hb, hs, hl, h1, h2, h3, rfl⟩ := h
  have hc2 : w.cell? ⟨b, 2, none⟩ = some (.int .i64 D.fuse) := by simp [World.cell?, hb]
  have hf2 : w.frozen? ⟨b, 2, none⟩ = false := by simp [World.frozen?, hb]
  have hok := PDsk.burn_ok hk.2.2.2.2.1 hk.2.2.2.2.2
  have hk1 := hk.2.2.2.2.1
  have hk2 := hk.2.2.2.2.2
  by_cases hp : 0 < D.fuse
  · have hbn : Hid (PDsk.burn D.fuse = D.fuse - 1) := Lib.hid (by unfold PDsk.burn; rw [if_pos hp])
    have hm' := Lib.hid hm
    clear hb hs hl h1 h2 h3 hk hm
    go_enter Try.func41, Try.ntmps41
    go_wp2
    go_end0
    rw [hbn.out] at hok ⊢
    exact ⟨rfl, H.out.setFuse _ hok.1 hok.2, Turns.cell _ hm'.out, fun _ h => .inl h⟩
  · have hbn : PDsk.burn D.fuse = D.fuse := by unfold PDsk.burn; rw [if_neg hp]
    have hD : ({ D with fuse := PDsk.burn D.fuse } : PDsk.Dsk) = D := by rw [hbn]
    have hD' := Lib.hid hD
    clear hb hs hl h1 h2 h3 hk hm hD hbn
    go_enter Try.func41, Try.ntmps41
    go_wp2
    go_end0
    rw [hD'.out]
    exact ⟨rfl, H.out, Stepped.refl _ _⟩
theorem rfuse_any {b : Nat} {D : PDsk.Dsk} {own : List Nat} (w : World) (h : IsRef w b D own) (n : Int) (hn1 : -9223372036854775808 ≤ n) (hn2 : n ≤ 9223372036854775807) : Calls Try.prog 35 #[.pointer (some ⟨b, 0, none⟩), .int .i64 n] w fun e w' => e = .returned (.int .i64 (PDsk.setFuse D n).2) ∧ (IsRef w' b (PDsk.setFuse D n).1 own ∧ Stepped w w' own own) := by
  have H := Lib.hid h
  have hm := h.mem
  obtain ⟨hk, gs, os, cs, vl, hb, hs, hl, h1, h2, h3, rfl⟩ := h
  have hc2 : w.cell? ⟨b, 2, none⟩ = some (.int .i64 D.fuse) := by simp [World.cell?, hb]
  have hf2 : w.frozen? ⟨b, 2, none⟩ = false := by simp [World.frozen?, hb]
  by_cases hp : n < 0
  · have hx : Hid (PDsk.setFuse D n = (D, 2)) := Lib.hid (by unfold PDsk.setFuse; rw [if_pos hp])
    clear hb hs hl h1 h2 h3 hk hm
    go_enter Try.func35, Try.ntmps35
    go_wp2
    go_ret
    rw [hx.out]
    exact ⟨rfl, H.out, Stepped.refl _ _⟩
  · have hx : Hid (PDsk.setFuse D n = ({ D with fuse := n }, 0)) := Lib.hid (by unfold PDsk.setFuse; rw [if_neg hp])
    have hm' := Lib.hid hm
    clear hb hs hl h1 h2 h3 hk hm
    go_enter Try.func35, Try.ntmps35
    go_wp2
    go_ret
    rw [hx.out]
    exact ⟨rfl, H.out.setFuse n (by omega) (by omega), Turns.cell _ hm'.out, fun _ h => .inl h⟩
theorem box_cell (w : World) (c : Array Value) (t : TypeId) (j : Nat) (v : Value) (h : c[j]? = some v) : (w.alloc (.cells c t)).cell? ⟨w.heap.size, j, none⟩ = some v := by
  unfold World.cell?
  rw [heap_alloc_new w (.cells c t)]
  exact h
theorem rkeep_any {b : Nat} {D : PDsk.Dsk} {own : List Nat} (w : World) (h : IsRef w b D own) (k : Nat) (hk : k < D.sure.length) (x : List UInt8) (hx : x.length = 128) : Calls Try.prog 42 #[.pointer (some ⟨b, 0, none⟩), .agg #[.int .i64 k, refT x]] w fun e w' => e = .returned (.tuple #[]) ∧ (IsRef w' b { D with sure := PDsk.keep D.sure (k, x) } own ∧ Stepped w w' own own) := by
  have hbel : Below w.heap.size w (w.alloc (.cells #[.int .i64 k, refT x] 86)) := (Below.refl _ _).alloc (Nat.le_refl _) _
  have hA := h.below hbel
  have hst := Stepped.of_below hbel own
  have hx0 := box_cell w #[.int .i64 k, refT x] 86 0 _ rfl
  have hx1 := box_cell w #[.int .i64 k, refT x] 86 1 _ rfl
  unfold refT at hx1
  have h' := hA
  obtain ⟨hok, gs, os, cs, vl, hb, hs, hl, h1, h2, h3, rfl⟩ := h'
  have hc0 : (w.alloc (.cells #[.int .i64 k, refT x] 86)).cell? ⟨b, 0, none⟩ = some (.slice (some ⟨gs, os, none⟩) D.sure.length cs) := by simp [World.cell?, hb]
  have hcs := hs.cell (j := k) (by rw [refS_length]; exact hk)
  have hfs := hs.unshut (j := k) (by omega)
  have hE := Lib.hid (hA.setSure hb hk x hx)
  have hST := Lib.hid hst
  have hk0 : (0 : Int) ≤ k := by omega
  have hk1 : (k : Int) < D.sure.length := by omega
  have hlen := hok.2.1
  clear hb hs hl h1 h2 h3 hok h hA hbel hst
  unfold refT at hE hST hc0 hcs hfs hx0 ⊢
  go_enter Try.func42, Try.ntmps42
  go_wp2
  go_region
  all_goals (
    go_wp2
    go_end0
    exact ⟨rfl, hE.out.below (Below.refl _ _).drew, hST.out.trans ⟨(Turns.cell _ (by simp)).drew, fun _ h => .inl h⟩⟩)
end Go.Proofs.Ytkmgmfahhidbbaa
