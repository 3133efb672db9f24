/-
  Log: what is asked of a place, and New.
-/
import Derived.Test.YtjnggldalggfnaaLog3
namespace Go.Proofs.Ytjnggldalggfnaa
open Go.RowKit
theorem lmay_nil (pl n life : Int) (w : World) : Calls Try.prog 33 #[.pointer none, .int .i64 pl, .int .i64 n, .int .u64 life] w fun e w' => e = .returned (.int .i64 1) ∧ w = w' := by
  go_enter Try.func33, Try.ntmps33
  go_wp2
  go_ret
  exact ⟨rfl, rfl⟩
theorem lmay_ok {b : Nat} {D : PDsk.Dsk} {own : List Nat} (w : World) (h : IsDisk w b D own) (pl n life : Nat) (h1 : 4 ≤ n) (h2 : n ≤ 4096) (h3 : pl + n ≤ D.sure.length) (h4 : 1 ≤ life) :
    Calls Try.prog 33 #[.pointer (some ⟨b, 0, none⟩), .int .i64 pl, .int .i64 n, .int .u64 life] w fun e w' => e = .returned (.int .i64 0) ∧ w = w' := by
  have HL := Lib.hid (len_any w h)
  have h16 := h.1.2.1
  obtain ⟨N, hN⟩ : ∃ N, D.sure.length = N := ⟨_, rfl⟩
  rw [hN] at HL h3 h16
  have w1 : IntKind.i64.wrap ((N : Int) - n) = N - n := IntWalk.i64_in _ (by omega)
  have z1 : ((life : Int) == 0) = false := by rw [beq_eq_false_iff_ne]; omega
  have z2 : ¬ ((N : Int) - n < pl) := by omega
  have z3 : ¬ (n : Int) < 4 := by omega
  have z4 : ¬ (4096 : Int) < n := by omega
  clear h hN
  go_enter Try.func33, Try.ntmps33
  go_wp2_with fail
  refine HL.out.mono ?_; rintro e w1 ⟨rfl, rfl⟩
  go_wp2
  go_ret
  exact ⟨rfl, rfl⟩
theorem lmay_no {b : Nat} {D : PDsk.Dsk} {own : List Nat} (w : World) (h : IsDisk w b D own) (pl n life : Nat) (h1 : 4 ≤ n) (h2 : n ≤ 4096) (h3 : D.sure.length < pl + n) (h4 : pl ≤ 100000) :
    Calls Try.prog 33 #[.pointer (some ⟨b, 0, none⟩), .int .i64 pl, .int .i64 n, .int .u64 life] w fun e w' => e = .returned (.int .i64 2) ∧ w = w' := by
  have HL := Lib.hid (len_any w h)
  have h16 := h.1.2.1
  obtain ⟨N, hN⟩ : ∃ N, D.sure.length = N := ⟨_, rfl⟩
  rw [hN] at HL h3 h16
  have w1 : IntKind.i64.wrap ((N : Int) - n) = N - n := IntWalk.i64_in _ (by omega)
  have z2 : (N : Int) - n < pl := by omega
  have z3 : ¬ (n : Int) < 4 := by omega
  have z4 : ¬ (4096 : Int) < n := by omega
  clear h hN
  go_enter Try.func33, Try.ntmps33
  go_wp2_with fail
  refine HL.out.mono ?_; rintro e w1 ⟨rfl, rfl⟩
  go_wp2
  go_ret
  exact ⟨rfl, rfl⟩
theorem IsLog.fresh (w : World) (b : Nat) {pl n life : Nat} (h : (PLog.fresh pl n life).Ok) :
    IsLog (w.alloc (.cells #[.pointer (some ⟨b, 0, none⟩), .int .i64 pl, .int .i64 n, .int .u64 life, .slice none 0 0, .slice none 0 0, .int .u64 110, .int .u64 110, .int .u64 110, .int .i64 0] 64)) w.heap.size (PLog.fresh pl n life) b [w.heap.size] :=
  ⟨h, .slice none 0 0, .slice none 0 0, heap_alloc_new w _, Sl.nil _ _ _ _, Sl.nil _ _ _ _, by simp [ownsOf, Value.ownBlock], by simp [ownsOf, Value.ownBlock], by simp [ownsOf, Value.ownBlock], by simp [ownsOf, Value.ownBlock]⟩
def LNewPost (pl n life b : Nat) (w : World) (e : Ending) (w' : World) : Prop := ∃ g, e = .returned (.tuple #[.pointer (some ⟨g, 0, none⟩), .int .i64 0]) ∧ IsLog w' g (PLog.fresh pl n life) b [g] ∧ w.heap.size ≤ g ∧ Below w.heap.size w w'
theorem lnew_nil (pl n life : Int) (w : World) : Calls Try.prog 10 #[.pointer none, .int .i64 pl, .int .i64 n, .int .u64 life] w fun e w' => e = .returned (.tuple #[.pointer none, .int .i64 1]) ∧ w = w' := by
  go_enter Try.func10, Try.ntmps10
  go_wp2_with fail
  refine (lmay_nil _ _ _ _).mono ?_; rintro e w1 ⟨rfl, rfl⟩
  go_wp2
  go_ret2
  exact ⟨rfl, rfl⟩
theorem lnew_no {b : Nat} {D : PDsk.Dsk} {own : List Nat} (w : World) (h : IsDisk w b D own) (pl n life : Nat) (h1 : 4 ≤ n) (h2 : n ≤ 4096) (h3 : D.sure.length < pl + n) (h4 : pl ≤ 100000) :
    Calls Try.prog 10 #[.pointer (some ⟨b, 0, none⟩), .int .i64 pl, .int .i64 n, .int .u64 life] w fun e w' => e = .returned (.tuple #[.pointer none, .int .i64 2]) ∧ w = w' := by
  have HM := Lib.hid (lmay_no w h pl n life h1 h2 h3 h4)
  clear h h3
  go_enter Try.func10, Try.ntmps10
  go_wp2_with fail
  refine HM.out.mono ?_; rintro e w1 ⟨rfl, rfl⟩
  go_wp2
  go_ret2
  exact ⟨rfl, rfl⟩
theorem lnew_any {b : Nat} {D : PDsk.Dsk} {own : List Nat} (w : World) (h : IsDisk w b D own) (pl n life : Nat) (h1 : 4 ≤ n) (h2 : n ≤ 4096) (h3 : pl + n ≤ D.sure.length) (h4 : 1 ≤ life) (h5 : life ≤ 9000000000000000000) :
    Calls Try.prog 10 #[.pointer (some ⟨b, 0, none⟩), .int .i64 pl, .int .i64 n, .int .u64 life] w (LNewPost pl n life b w) := by
  have HM := Lib.hid (lmay_ok w h pl n life h1 h2 h3 h4)
  have HF := Lib.hid (IsLog.fresh w b (PLog.fresh_ok (pl := pl) (n := n) (life := life) h1 h2 (by have := h.1.2.1; omega) h4 h5))
  clear h h3
  go_enter Try.func10, Try.ntmps10
  go_wp2_with fail
  refine HM.out.mono ?_; rintro e w1 ⟨rfl, rfl⟩
  go_wp2
  go_ret2
  exact ⟨w.heap.size, rfl, HF.out, Nat.le_refl _, (Below.refl _ _).alloc (Nat.le_refl _) _⟩
end Go.Proofs.Ytjnggldalggfnaa
