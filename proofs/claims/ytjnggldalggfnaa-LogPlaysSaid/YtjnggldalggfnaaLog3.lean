/-
  Log: Reserve, First, Next, Forced, Reserved, New, and what is asked of a place.
-/
import Derived.Test.YtjnggldalggfnaaLog2
namespace Go.Proofs.Ytjnggldalggfnaa
open Go.RowKit
theorem IsLog.field {w : World} {g b : Nat} {L L' : PLog.Lg} {own : List Nat} (h : IsLog w g L b own) (hk : L'.Ok) (hB : L'.bytes = L.bytes) (hS : L'.starts = L.starts) (j : Nat) (v : Value)
    (hv : ∀ vb vs, (logV L b vb vs).setIfInBounds j v = logV L' b vb vs) : IsLog (w.setCell ⟨g, j, none⟩ v) g L' b own ∧ Stepped w (w.setCell ⟨g, j, none⟩ v) own own := by
  have hm := h.mem
  obtain ⟨_, vb, vs, hb, hs, hl, h1, h2, h3, rfl⟩ := h
  refine ⟨⟨hk, vb, vs, ?_, ?_, ?_, h1, h2, h3, rfl⟩, Turns.cell v hm, fun _ h => .inl h⟩
  · rw [heap_set hb, hv]
  · rw [hB]
    exact hs.keep fun k e => Below.heap_setCell w ⟨g, j, none⟩ v k (fun e2 => h1 (by simp at e2; subst e2; simp [ownsOf, e]))
  · rw [hS]
    exact hl.keep fun k e => Below.heap_setCell w ⟨g, j, none⟩ v k (fun e2 => h2 (by simp at e2; subst e2; simp [ownsOf, e]))
def LogPost (v : Value) (g : Nat) (L' : PLog.Lg) (b : Nat) (own : List Nat) (w : World) (e : Ending) (w' : World) : Prop := ∃ own', e = .returned v ∧ IsLog w' g L' b own' ∧ Stepped w w' own own'
theorem LogPost.same {v : Value} {g b : Nat} {L : PLog.Lg} {own : List Nat} {w w' : World} {e : Ending} (he : e = .returned v) (h : IsLog w g L b own) (hb : Below w.heap.size w w') : LogPost v g L b own w e w' := ⟨own, he, h.below hb, Stepped.of_below hb own⟩
/-! ### First, Next, Forced, Reserved -/
theorem first_nil (w : World) : Calls Try.prog 15 #[.pointer none] w fun e w' => e = .returned (.int .u64 0) ∧ w = w' := by
  go_enter Try.func15, Try.ntmps15
  go_wp2
  go_ret
  exact ⟨rfl, rfl⟩
theorem first_any {g b : Nat} {L : PLog.Lg} {own : List Nat} (w : World) (h : IsLog w g L b own) : Calls Try.prog 15 #[.pointer (some ⟨g, 0, none⟩)] w fun e w' => e = .returned (.int .u64 L.first) ∧ w = w' := by
  obtain ⟨_, _, _, _, c6, _⟩ := h.cells
  clear h
  go_enter Try.func15, Try.ntmps15
  go_wp2
  go_ret
  exact ⟨rfl, rfl⟩
theorem next_nil (w : World) : Calls Try.prog 16 #[.pointer none] w fun e w' => e = .returned (.int .u64 0) ∧ w = w' := by
  go_enter Try.func16, Try.ntmps16
  go_wp2
  go_ret
  exact ⟨rfl, rfl⟩
theorem next_any {g b : Nat} {L : PLog.Lg} {own : List Nat} (w : World) (h : IsLog w g L b own) : Calls Try.prog 16 #[.pointer (some ⟨g, 0, none⟩)] w fun e w' => e = .returned (.int .u64 L.next) ∧ w = w' := by
  obtain ⟨_, _, _, _, _, c7, _⟩ := h.cells
  clear h
  go_enter Try.func16, Try.ntmps16
  go_wp2
  go_ret
  exact ⟨rfl, rfl⟩
theorem forced_nil (w : World) : Calls Try.prog 17 #[.pointer none] w fun e w' => e = .returned (.int .u64 0) ∧ w = w' := by
  go_enter Try.func17, Try.ntmps17
  go_wp2
  go_ret
  exact ⟨rfl, rfl⟩
theorem forced_any {g b : Nat} {L : PLog.Lg} {own : List Nat} (w : World) (h : IsLog w g L b own) : Calls Try.prog 17 #[.pointer (some ⟨g, 0, none⟩)] w fun e w' => e = .returned (.int .u64 L.forced) ∧ w = w' := by
  obtain ⟨_, _, _, _, _, _, c8, _⟩ := h.cells
  clear h
  go_enter Try.func17, Try.ntmps17
  go_wp2
  go_ret
  exact ⟨rfl, rfl⟩
theorem reserved_nil (w : World) : Calls Try.prog 18 #[.pointer none] w fun e w' => e = .returned (.int .i64 0) ∧ w = w' := by
  go_enter Try.func18, Try.ntmps18
  go_wp2
  go_ret
  exact ⟨rfl, rfl⟩
theorem reserved_any {g b : Nat} {L : PLog.Lg} {own : List Nat} (w : World) (h : IsLog w g L b own) : Calls Try.prog 18 #[.pointer (some ⟨g, 0, none⟩)] w fun e w' => e = .returned (.int .i64 L.reserved) ∧ w = w' := by
  obtain ⟨_, _, _, _, _, _, _, c9⟩ := h.cells
  clear h
  go_enter Try.func18, Try.ntmps18
  go_wp2
  go_ret
  exact ⟨rfl, rfl⟩
/-! ### Reserve -/
theorem reserve_nil (n : Int) (w : World) : Calls Try.prog 14 #[.pointer none, .int .i64 n] w fun e w' => e = .returned (.int .i64 1) ∧ w = w' := by
  go_enter Try.func14, Try.ntmps14
  go_wp2_with fail
  refine (made_nil _).mono ?_; rintro e w1 ⟨rfl, rfl⟩
  go_wp2
  go_ret
  exact ⟨rfl, rfl⟩
theorem IsLog.setReserved {w : World} {g b : Nat} {L : PLog.Lg} {own : List Nat} (h : IsLog w g L b own) (r : Nat) (hr : ({ L with reserved := r } : PLog.Lg).Ok) (v : Value) (hv : v = .int .i64 r) :
    IsLog (w.setCell ⟨g, 9, none⟩ v) g { L with reserved := r } b own ∧ Stepped w (w.setCell ⟨g, 9, none⟩ v) own own := by
  subst hv
  exact h.field hr rfl rfl 9 _ (fun vb vs => by simp [logV]; rfl)
set_option maxHeartbeats 1000000 in
theorem reserve_any {g b : Nat} {L : PLog.Lg} {own : List Nat} (w : World) (h : IsLog w g L b own) (n : Int) (hn1 : -9223372036854775808 ≤ n) (hn2 : n ≤ 9223372036854775807) :
    Calls Try.prog 14 #[.pointer (some ⟨g, 0, none⟩), .int .i64 n] w (LogPost (.int .i64 (PLog.reserve L n).2) g (PLog.reserve L n).1 b own w) := by
  have H := Lib.hid h
  obtain ⟨_, _, _, _, _, _, _, c9⟩ := h.cells
  have hsh := h.shut 9
  have hr := h.1.ring
  have hn5 := h.1.n5
  have hbk := PLog.reserve_ok h.1 n
  have hgl := h.lt g h.mem
  have HRM : Hid (∀ W, IsLog W g L b own → Calls Try.prog 19 #[.pointer (some ⟨g, 0, none⟩)] W fun e w' => e = .returned (.int .i64 (L.room : Nat)) ∧ Below W.heap.size W w') := Lib.hid (fun W hW => room_any W hW)
  have hroom : L.room ≤ 450560 := by unfold PLog.Lg.room; omega
  obtain ⟨R, hR⟩ : ∃ R, L.room = R := ⟨_, rfl⟩
  obtain ⟨r, hrr⟩ : ∃ r, L.reserved = r := ⟨_, rfl⟩
  have hrl : r ≤ 450560 := by omega
  have HQ : Hid (PLog.reserve L n = if (R : Int) < n then (L, 4) else if n < -(r : Int) then (L, 2) else ({ L with reserved := ((r : Int) + n).toNat }, 0)) := Lib.hid (by unfold PLog.reserve; rw [hR, hrr])
  rw [hR] at HRM hroom
  rw [hrr] at c9
  have w1 : IntKind.i64.wrap (-(r : Int)) = -(r : Int) := IntWalk.i64_in _ (by omega)
  by_cases h1 : (R : Int) < n
  · have HQ1 : Hid (PLog.reserve L n = (L, 4)) := Lib.hid (by rw [HQ.out, if_pos h1])
    clear h hbk hR hrr HQ hr
    go_enter Try.func14, Try.ntmps14
    go_wp2_with fail
    refine (made_any _ H.out).mono ?_; rintro e w1 ⟨rfl, rfl⟩
    go_wp2_with fail
    refine (HRM.out _ H.out).mono ?_; rintro e w1 ⟨rfl, hb⟩
    have HB := Lib.hid hb
    clear hb
    go_wp2
    go_ret
    rw [HQ1.out]
    exact LogPost.same rfl H.out HB.out
  by_cases h2 : n < -(r : Int)
  · have HQ1 : Hid (PLog.reserve L n = (L, 2)) := Lib.hid (by rw [HQ.out, if_neg h1, if_pos h2])
    clear h hbk hR hrr HQ hr
    go_enter Try.func14, Try.ntmps14
    go_wp2_with fail
    refine (made_any _ H.out).mono ?_; rintro e w1 ⟨rfl, rfl⟩
    go_wp2_with fail
    refine (HRM.out _ H.out).mono ?_; rintro e w1 ⟨rfl, hb⟩
    have HB := Lib.hid hb
    have c9' := (hb.cell (p := ⟨g, 9, none⟩) hgl).trans c9
    clear hb c9
    go_wp2
    go_ret
    rw [HQ1.out]
    exact LogPost.same rfl H.out HB.out
  obtain ⟨T, hT⟩ : ∃ T : Nat, ((r : Int) + n).toNat = T := ⟨_, rfl⟩
  have HQ1 : Hid (PLog.reserve L n = ({ L with reserved := T }, 0)) := Lib.hid (by rw [HQ.out, if_neg h1, if_neg h2, hT])
  rw [HQ1.out] at hbk
  have HOK := Lib.hid hbk
  have hTi : (T : Int) = r + n := by omega
  have HT := Lib.hid hTi
  have w2 : IntKind.i64.wrap ((r : Int) + n) = T := by rw [IntWalk.i64_in _ (by omega)]; omega
  clear h hbk hR hrr HQ hr hT hTi
  go_enter Try.func14, Try.ntmps14
  go_wp2_with fail
  refine (made_any _ H.out).mono ?_; rintro e w1 ⟨rfl, rfl⟩
  go_wp2_with fail
  refine (HRM.out _ H.out).mono ?_; rintro e w1 ⟨rfl, hb⟩
  have HB := Lib.hid hb
  have c9' := (hb.cell (p := ⟨g, 9, none⟩) hgl).trans c9
  have hsh' := (hb.frozen (p := ⟨g, 9, none⟩) hgl).trans hsh
  clear hb c9 hsh
  go_wp2
  go_ret
  rw [HQ1.out]
  obtain ⟨k1, k2⟩ := (H.out.below HB.out).setReserved T HOK.out _ rfl
  exact ⟨own, rfl, k1, (Stepped.of_below HB.out own).trans k2⟩
end Go.Proofs.Ytjnggldalggfnaa
