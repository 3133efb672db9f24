/-
  A log and its disk beside each other; Force.
-/
import Derived.Test.YtjnggldalggfnaaLog8
import Derived.Test.YtjnggldalggfnaaDisk5
import Derived.Test.YtjnggldalggfnaaDisk6
namespace PLog
open PDsk
theorem wsteps_err {D : Dsk} {l m : List (Nat × List UInt8)} (h : (wsteps D l).2 ≠ 0) : wsteps D (l ++ m) = wsteps D l := by
  rw [wsteps_app, if_neg h]
theorem outs_add (L : Lg) (i j : Nat) : outs L (i + j) = outs L i ++ (List.range j).map (fun k => out L (i + k)) := by
  induction j with
  | zero => simp
  | succ j ih => rw [← Nat.add_assoc, outs_succ, ih, List.range_succ, List.map_append, List.append_assoc]; rfl
theorem outs_err {L : Lg} {D : Dsk} {i m : Nat} (h : (wsteps D (outs L i)).2 ≠ 0) (hm : i ≤ m) : wsteps D (outs L m) = wsteps D (outs L i) := by
  rw [show m = i + (m - i) by omega, outs_add, wsteps_err h]
theorem lt_stretches (L : Lg) (i : Nat) : i < stretches L ↔ begin L.forced + 110 * i < L.next := by unfold stretches; omega
theorem wsteps_len (l : List (Nat × List UInt8)) : ∀ D, (wsteps D l).1.loose.length ≤ D.loose.length + l.length ∧ (wsteps D l).1.sure.length = D.sure.length := by
  induction l with
  | nil => intro D; exact ⟨Nat.le_refl _, rfl⟩
  | cons p l ih =>
    intro D
    have h1 : (PDsk.write D p.1 p.2).1.loose.length ≤ D.loose.length + 1 := by
      unfold PDsk.write
      split
      · exact Nat.le_succ _
      split
      · exact Nat.le_succ _
      · simp
    have h2 : (PDsk.write D p.1 p.2).1.sure.length = D.sure.length := by
      unfold PDsk.write
      split
      · rfl
      split <;> rfl
    unfold wsteps
    rw [List.length_cons]
    by_cases hz : (PDsk.write D p.1 p.2).2 = 0
    · rw [if_pos hz]
      have := ih (PDsk.write D p.1 p.2).1
      omega
    · rw [if_neg hz]; omega
theorem stretches_le {L : Lg} (h : L.Ok) : stretches L ≤ 5000 := by
  have h1 := h.ring
  have h2 := h.n5
  have h3 := begin_mono h.forced
  unfold stretches
  omega
end PLog
namespace Go.Proofs.Ytjnggldalggfnaa
open Go.RowKit
/-- A log L in block g, its disk D in block b; own: all that is theirs. -/
def LD (w : World) (g : Nat) (L : PLog.Lg) (b : Nat) (D : PDsk.Dsk) (own : List Nat) : Prop := ∃ o1 o2, IsLog w g L b o1 ∧ IsDisk w b D o2 ∧ (∀ k ∈ o1, k ∉ o2) ∧ own = o1 ++ o2
theorem Turns.app_l {o1 o2 : List Nat} {A B : World} (h : Turns o1 A B) : Turns (o1 ++ o2) A B := Turns.mono h (fun k hk => by simp [hk])
theorem Turns.app_r {o1 o2 : List Nat} {A B : World} (h : Turns o2 A B) : Turns (o1 ++ o2) A B := Turns.mono h (fun k hk => by simp [hk])
section
variable {w w' : World} {g b : Nat} {L L' : PLog.Lg} {D D' : PDsk.Dsk} {own : List Nat}
theorem LD.below (h : LD w g L b D own) (hb : Below w.heap.size w w') : LD w' g L b D own := by
  obtain ⟨o1, o2, h1, h2, h3, rfl⟩ := h
  exact ⟨o1, o2, h1.below hb, h2.below hb, h3, rfl⟩
theorem LD.lt (h : LD w g L b D own) : ∀ k ∈ own, k < w.heap.size := by
  obtain ⟨o1, o2, h1, h2, h3, rfl⟩ := h
  intro k hk
  rcases List.mem_append.1 hk with hk | hk
  · exact h1.lt k hk
  · exact h2.lt k hk
theorem LD.turns {bs : List Nat} (h : LD w g L b D own) (t : Turns bs w w') (hd : ∀ k ∈ own, k ∉ bs) : LD w' g L b D own := by
  obtain ⟨o1, o2, h1, h2, h3, rfl⟩ := h
  exact ⟨o1, o2, h1.turns t (fun k hk => hd k (by simp [hk])), h2.turns t (fun k hk => hd k (by simp [hk])), h3, rfl⟩
def LDPost (v : Value) (g : Nat) (L' : PLog.Lg) (b : Nat) (D' : PDsk.Dsk) (own : List Nat) (w : World) (e : Ending) (w' : World) : Prop := ∃ own', e = .returned v ∧ LD w' g L' b D' own' ∧ Stepped w w' own own'
/-- a call of the log alone -/
theorem LD.of_log {v : Value} {f : FuncId} {args : Array Value} (h : LD w g L b D own) (hc : ∀ o1, IsLog w g L b o1 → Calls Try.prog f args w (LogPost v g L' b o1 w)) : Calls Try.prog f args w (LDPost v g L' b D own w) := by
  obtain ⟨o1, o2, h1, h2, h3, rfl⟩ := h
  refine (hc o1 h1).mono ?_
  rintro e w' ⟨o1', he, k1, k2⟩
  refine ⟨o1' ++ o2, he, ⟨o1', o2, k1, h2.turns k2.1 (fun k hk hm => h3 k hm hk), ?_, rfl⟩, k2.1.app_l, ?_⟩
  · intro k hk hm
    rcases k2.2 k hk with h | h
    · exact h3 k h hm
    · have := h2.lt k hm; omega
  · intro k hk
    rcases List.mem_append.1 hk with hk | hk
    · rcases k2.2 k hk with h | h
      · exact .inl (by simp [h])
      · exact .inr h
    · exact .inl (by simp [hk])
/-- a call of the disk alone -/
theorem LD.of_disk {v : Value} {f : FuncId} {args : Array Value} (h : LD w g L b D own) (hc : ∀ o2, IsDisk w b D o2 → Calls Try.prog f args w (StepPost v b D' o2 w)) : Calls Try.prog f args w (LDPost v g L b D' own w) := by
  obtain ⟨o1, o2, h1, h2, h3, rfl⟩ := h
  refine (hc o2 h2).mono ?_
  rintro e w' ⟨o2', he, k1, k2⟩
  refine ⟨o1 ++ o2', he, ⟨o1, o2', h1.turns k2.1 h3, k1, ?_, rfl⟩, k2.1.app_r, ?_⟩
  · intro k hk hm
    rcases k2.2 k hm with h | h
    · exact h3 k hk h
    · have := h1.lt k hk; omega
  · intro k hk
    rcases List.mem_append.1 hk with hk | hk
    · exact .inl (by simp [hk])
    · rcases k2.2 k hk with h | h
      · exact .inl (by simp [h])
      · exact .inr h
theorem LD.log (h : LD w g L b D own) : ∃ o, IsLog w g L b o := by
  obtain ⟨o1, o2, h1, h2, h3, rfl⟩ := h
  exact ⟨o1, h1⟩
theorem LD.disk (h : LD w g L b D own) : ∃ o, IsDisk w b D o := by
  obtain ⟨o1, o2, h1, h2, h3, rfl⟩ := h
  exact ⟨o2, h2⟩
theorem LD.ok (h : LD w g L b D own) : L.Ok := by
  obtain ⟨o1, h1⟩ := h.log
  exact h1.1
end
theorem LDPost.same {v : Value} {g b : Nat} {L : PLog.Lg} {D : PDsk.Dsk} {own : List Nat} {w w' : World} {e : Ending} (he : e = .returned v) (h : LD w g L b D own) (hb : Below w.heap.size w w') : LDPost v g L b D own w e w' := ⟨own, he, h.below hb, Stepped.of_below hb own⟩
/-- a stretch ahead of Next is written -/
theorem lwrites_ld {w : World} {g b : Nat} {L : PLog.Lg} {D : PDsk.Dsk} {own : List Nat} (h : LD w g L b D own) (k : Nat) (h1 : PLog.begin L.first ≤ k) (h2 : k < L.next) (hll : D.loose.length ≤ 1000000) :
    Calls Try.prog 37 #[.pointer (some ⟨g, 0, none⟩), .int .u64 k] w (LDPost (.int .i64 (writeL L D k).2) g L b (writeL L D k).1 own w) := by
  obtain ⟨o1, hL⟩ := h.log
  refine h.of_disk (fun o2 hD => ?_)
  have hk := hL.1
  have hln := hk.bytes_length
  have hnx := hk.next5
  obtain ⟨_, vb, vs, hb, hs, _⟩ := hL
  obtain ⟨gb, ob, cb, hv, hc, _, _⟩ := Sl.some_of hs (by omega)
  obtain ⟨o1, hL⟩ := h.log
  refine lwrites_any w hL hD k h1 (by omega) (by omega) (gb := gb) (ob := ob) (cb := cb) ?_ (by omega) hll
  simp [World.cell?, hb, logV, hv]
theorem lforce_nil (x : Int) (w : World) : Calls Try.prog 12 #[.pointer none, .int .u64 x] w fun e w' => e = .returned (.int .i64 1) ∧ w = w' := by
  go_enter Try.func12, Try.ntmps12
  go_wp2_with fail
  refine (made_nil _).mono ?_; rintro e w1 ⟨rfl, rfl⟩
  go_wp2
  go_ret
  exact ⟨rfl, rfl⟩
theorem lforce_no {w : World} {g b : Nat} {L : PLog.Lg} {D : PDsk.Dsk} {own : List Nat} (h : LD w g L b D own) (x : Nat) (hx : L.next < x ∨ x < L.forced ∨ L.forced = L.next) :
    Calls Try.prog 12 #[.pointer (some ⟨g, 0, none⟩), .int .u64 x] w (LDPost (.int .i64 (PLog.force L D x).2.2) g (PLog.force L D x).1 b (PLog.force L D x).2.1 own w) := by
  have H := Lib.hid h
  obtain ⟨o1, hL⟩ := h.log
  obtain ⟨_, _, _, _, _, c7, c8, _⟩ := hL.cells
  have HMD := Lib.hid (made_any w hL)
  by_cases h1 : L.next < x
  · have HQ : Hid (PLog.force L D x = (L, D, 2)) := Lib.hid (by unfold PLog.force; rw [if_pos h1])
    have z1 : (L.next : Int) < x := by omega
    clear h hL hx h1
    go_enter Try.func12, Try.ntmps12
    go_wp2_with fail
    refine HMD.out.mono ?_; rintro e w1 ⟨rfl, rfl⟩
    go_wp2
    go_ret
    rw [HQ.out]
    exact LDPost.same rfl H.out (Below.refl _ _)
  have HQ : Hid (PLog.force L D x = (L, D, 0)) := Lib.hid (by unfold PLog.force; rw [if_neg h1, if_pos (by omega)])
  have z1 : ¬ (L.next : Int) < x := by omega
  by_cases h2 : x < L.forced
  · have z2 : (x : Int) < L.forced := by omega
    clear h hL hx h1 h2
    go_enter Try.func12, Try.ntmps12
    go_wp2_with fail
    refine HMD.out.mono ?_; rintro e w1 ⟨rfl, rfl⟩
    go_wp2
    go_ret
    rw [HQ.out]
    exact LDPost.same rfl H.out (Below.refl _ _)
  have h3 : L.forced = L.next := by omega
  have z2 : ¬ (x : Int) < L.forced := by omega
  rw [h3] at c8 z2
  clear h hL hx h1 h2 h3
  go_enter Try.func12, Try.ntmps12
  go_wp2_with fail
  refine HMD.out.mono ?_; rintro e w1 ⟨rfl, rfl⟩
  go_wp2
  go_quiet (fail)
  go_wp2
  go_ret
  rw [HQ.out]
  exact LDPost.same rfl H.out (lowN _ _)
end Go.Proofs.Ytjnggldalggfnaa
