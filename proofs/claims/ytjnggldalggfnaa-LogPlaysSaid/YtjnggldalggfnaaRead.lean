/-
  A disk's Read.
-/
import Derived.Test.YtjnggldalggfnaaBack
namespace PDsk
theorem now_at (D : Dsk) (k : Nat) (p r : List ((Nat × List UInt8) × Nat)) (x : (Nat × List UInt8) × Nat) (h : p ++ [x] ++ r = D.loose.zipIdx.reverse) (hp : ∀ y ∈ p, y.1.1 ≠ k) (hx : x.1.1 = k) : now D k = x.1.2 := by
  have e : D.loose.reverse = (p ++ [x] ++ r).map (·.1) := by
    rw [h, List.map_reverse]; simp
  unfold now
  rw [e, List.map_append, List.map_append, List.find?_append, List.find?_append]
  have h1 : List.find? (fun q => q.1 == k) (p.map (·.1)) = none := by
    rw [List.find?_eq_none]
    intro q hq
    obtain ⟨y, hy, rfl⟩ := List.mem_map.1 hq
    simpa using hp y hy
  rw [h1]
  simp [hx]
theorem now_none (D : Dsk) (k : Nat) (h : ∀ y ∈ D.loose.zipIdx.reverse, y.1.1 ≠ k) : now D k = D.sure.getD k [] := by
  unfold now
  have h1 : List.find? (fun q => q.1 == k) D.loose.reverse = none := by
    rw [List.find?_eq_none]
    intro q hq
    have hq' : q ∈ D.loose := by simpa using hq
    obtain ⟨i, hi, he⟩ := List.mem_iff_getElem.1 hq'
    have := h (q, i) (by rw [List.mem_reverse, List.mem_zipIdx_iff_getElem?]; simp [List.getElem?_eq_getElem hi, he])
    simpa using this
  rw [h1]
end PDsk
namespace Go.Proofs.Ytjnggldalggfnaa
open Go.RowKit Go.Shelf
attribute [local go_sem] Oper.semAt_some
/-- What Read leaves: the text, the error; below nothing has turned. -/
def ReadPost (t : List UInt8) (err : Int) (w : World) (e : Ending) (w' : World) : Prop := e = .returned (.tuple #[.string ⟨t.toArray⟩, .int .i64 err]) ∧ Below w.heap.size w w'
theorem bel3 (w : World) (a b c : Obj) : Below w.heap.size w (((w.alloc a).alloc b).alloc c) := (((Below.refl _ w).alloc (Nat.le_refl _) _).alloc (by simp only [World.size_alloc]; omega) _).alloc (by simp only [World.size_alloc]; omega) _
theorem boxes3 (w : World) (a b c : Value) (ta tb tc : TypeId) : ∃ W, ((w.alloc (.cells #[a] ta)).alloc (.cells #[b] tb)).alloc (.cells #[c] tc) = W ∧ Boxed W w.heap.size ta a ∧ Boxed W (w.heap.size + 1) tb b ∧ Boxed W (w.heap.size + 1 + 1) tc c ∧ W.heap.size = w.heap.size + 3 ∧ Below w.heap.size w W := by
  refine ⟨_, rfl, ((Boxed.new w _ _).alloc _).alloc _, ?_, ?_, by simp only [World.size_alloc], bel3 _ _ _ _⟩
  · have := Boxed.new (w.alloc (.cells #[a] ta)) tb b
    rw [World.size_alloc] at this
    exact this.alloc _
  · have := Boxed.new ((w.alloc (.cells #[a] ta)).alloc (.cells #[b] tb)) tc c
    rw [World.size_alloc, World.size_alloc] at this
    exact this
theorem two_sets {w W : World} {B : Nat} {ta tb : TypeId} {a b : Value} (h1 : Boxed W (B + 1) ta a) (h2 : Boxed W (B + 1 + 1) tb b) (u v : Value) (hB : Below B w W) :
    W.cell? ⟨B + 1, 0, none⟩ = some a ∧ W.frozen? ⟨B + 1, 0, none⟩ = false ∧ (W.setCell ⟨B + 1, 0, none⟩ u).cell? ⟨B + 1 + 1, 0, none⟩ = some b ∧ (W.setCell ⟨B + 1, 0, none⟩ u).frozen? ⟨B + 1 + 1, 0, none⟩ = false ∧
    ((W.setCell ⟨B + 1, 0, none⟩ u).setCell ⟨B + 1 + 1, 0, none⟩ v).cell? ⟨B + 1, 0, none⟩ = some u ∧ ((W.setCell ⟨B + 1, 0, none⟩ u).setCell ⟨B + 1 + 1, 0, none⟩ v).cell? ⟨B + 1 + 1, 0, none⟩ = some v ∧
    Below B w ((W.setCell ⟨B + 1, 0, none⟩ u).setCell ⟨B + 1 + 1, 0, none⟩ v) := by
  have h3 := h2.other (B' := B + 1) (by omega) u
  exact ⟨h1.cell, h1.frozen, h3.cell, h3.frozen, ((Boxed.set u h1).other (by omega) v).cell, (Boxed.set v h3).cell, (hB.setCell (p := ⟨B + 1, 0, none⟩) (by simp) _).setCell (p := ⟨B + 1 + 1, 0, none⟩) (by show B ≤ B + 1 + 1; omega) _⟩
set_option maxRecDepth 100000 in
set_option maxHeartbeats 4000000 in
theorem read_nil (k : Int) (w : World) : Calls Try.prog 23 #[.pointer none, .int .i64 k] w (ReadPost [] 1 w) := by
  refine (callsIn_wide (n := 3)).1 ?_
  refine callsIn_of_wp_marks Try.func23 rfl trivial ?_ rfl
  simp only [Try.ntmps23, List.size_toArray, List.length_cons, List.length_nil, Nat.reduceAdd, Nat.reduceSub, Array.replicate_succ, Array.replicate_zero, List.push_toArray, List.append_toArray, List.nil_append, List.cons_append]
  gi_wp2_with fail
  refine (callsIn_wide.2 (may_nil _)).mono ?_
  rintro e w1 ⟨rfl, rfl⟩
  gi_wp2
  refine ⟨.tuple #[.string ⟨#[]⟩, .int .i64 1], ?_, rfl, ?_⟩
  · simp [results, Try.f23, go_sem]
  · exact bel3 _ _ _ _
set_option maxRecDepth 100000 in
set_option maxHeartbeats 4000000 in
theorem read_down {b : Nat} {D : PDsk.Dsk} {own : List Nat} (w : World) (h : IsDisk w b D own) (k : Int) (hf : D.fuse = 0) : Calls Try.prog 23 #[.pointer (some ⟨b, 0, none⟩), .int .i64 k] w (ReadPost [] 40 w) := by
  have hmay : Hid (PDsk.may D = 40) := Lib.hid (by unfold PDsk.may; rw [if_pos hf])
  have H := Lib.hid h
  clear h hf
  refine (callsIn_wide (n := 3)).1 ?_
  refine callsIn_of_wp_marks Try.func23 rfl trivial ?_ rfl
  simp only [Try.ntmps23, List.size_toArray, List.length_cons, List.length_nil, Nat.reduceAdd, Nat.reduceSub, Array.replicate_succ, Array.replicate_zero, List.push_toArray, List.append_toArray, List.nil_append, List.cons_append]
  gi_wp2_with fail
  refine (callsIn_wide.2 (may_any _ (H.out.below (bel3 _ _ _ _)))).mono ?_
  rintro e w1 ⟨rfl, rfl⟩
  rw [hmay.out]
  gi_wp2
  refine ⟨.tuple #[.string ⟨#[]⟩, .int .i64 40], ?_, rfl, ?_⟩
  · simp [results, Try.f23, go_sem]
  · exact bel3 _ _ _ _
set_option maxRecDepth 100000 in
set_option maxHeartbeats 4000000 in
theorem read_out {b : Nat} {D : PDsk.Dsk} {own : List Nat} (w : World) (h : IsDisk w b D own) (k : Int) (hf : D.fuse ≠ 0) (hno : k < 0 ∨ (¬ k < 0 ∧ (D.sure.length : Int) ≤ k)) : Calls Try.prog 23 #[.pointer (some ⟨b, 0, none⟩), .int .i64 k] w (ReadPost [] 2 w) := by
  have hmay : Hid (PDsk.may D = 0) := Lib.hid (by unfold PDsk.may; rw [if_neg hf])
  have H := Lib.hid h
  obtain ⟨hok, gs, os, cs, vl, hb, hsu, hl, h1, h2, h3, hown⟩ := h
  have hblt : b < w.heap.size := (Array.getElem?_eq_some_iff.1 hb).1
  have hc0 : w.cell? ⟨b, 0, none⟩ = some (.slice (some ⟨gs, os, none⟩) D.sure.length cs) := by simp [World.cell?, hb]
  have hn0 := hok.2.1
  clear hf hok hb hsu hl h1 h2 h3 hown
  rcases hno with e1 | ⟨e1, e2⟩
  all_goals (
    refine (callsIn_wide (n := 3)).1 ?_
    refine callsIn_of_wp_marks Try.func23 rfl trivial ?_ rfl
    simp only [Try.ntmps23, List.size_toArray, List.length_cons, List.length_nil, Nat.reduceAdd, Nat.reduceSub, Array.replicate_succ, Array.replicate_zero, List.push_toArray, List.append_toArray, List.nil_append, List.cons_append]
    gi_wp2_with fail
    refine (callsIn_wide.2 (may_any _ (H.out.below (bel3 _ _ _ _)))).mono ?_
    rintro e w1 ⟨rfl, rfl⟩
    rw [hmay.out]
    gi_wp2_with fail
    obtain ⟨W0, hW0, b0, b1, b2, hsz, hBl⟩ := boxes3 w (.int .i64 k) (.string ⟨#[]⟩) (.int .i64 0) 3 9 25
    rw [hW0]
    clear hW0
    have k0 := b0.cell
    have d0 : W0.cell? ⟨b, 0, none⟩ = _ := (hBl.cell (p := ⟨b, 0, none⟩) hblt).trans hc0
    refine wpIn_wide.2 ?_
    go_quiet (fail)
    obtain ⟨W1, hW1⟩ : ∃ W1, W0.drewN nq = W1 := ⟨_, rfl⟩
    have b1' : Boxed W1 (w.heap.size + 1) 9 (.string ⟨#[]⟩) := by rw [← hW1]; exact b1
    have b2' : Boxed W1 (w.heap.size + 1 + 1) 25 (.int .i64 0) := by rw [← hW1]; exact b2
    have hBl' : Below w.heap.size w W1 := by rw [← hW1]; exact ⟨hBl.os, hBl.tape, hBl.output, hBl.size, hBl.block⟩
    rw [hW1]
    clear hW1 k0 d0
    obtain ⟨f1, f2, f3, f4, f5, f6, f7⟩ := two_sets b1' b2' (.string ⟨#[]⟩) (.int .i64 2) hBl'
    have F5 := Lib.hid f5
    have F6 := Lib.hid f6
    clear f5 f6
    gi_wp2
    refine ⟨.tuple #[.string ⟨#[]⟩, .int .i64 2], ?_, rfl, f7⟩
    simp [results, Try.f23, go_sem, F5.out, F6.out])
end Go.Proofs.Ytjnggldalggfnaa
