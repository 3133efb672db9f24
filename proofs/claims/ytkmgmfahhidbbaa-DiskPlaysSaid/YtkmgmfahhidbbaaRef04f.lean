/-
  The document's disk: New.
-/
import Derived.Test.YtkmgmfahhidbbaaRef04e
namespace Go.Proofs.Ytkmgmfahhidbbaa
open Go.RowKit
theorem elem_strs : ElemT Try.prog 51 9 1 16 := ElemT.mk' Try.underlying51 (z := .string ByteArray.empty) (by kernel_rfl) (by kernel_rfl) (by decide)
def RNewPost (n : Int) (w : World) (e : Ending) (w' : World) : Prop := Below w.heap.size w w' ∧
  ((¬ (1 ≤ n ∧ n ≤ 16384) ∧ e = .returned (.pointer none)) ∨ (1 ≤ n ∧ n ≤ 16384 ∧ ∃ b own, e = .returned (.pointer (some ⟨b, 0, none⟩)) ∧ IsRef w' b (PDsk.new n.toNat) own ∧ ∀ k ∈ own, w.heap.size ≤ k))
def RN (w wr : World) (sv : Value) (i : Nat) : Prop := wr.heap[w.heap.size]? = some (.cells #[sv, .slice none 0 0, .int .i64 (-1)] 54 (0, 0)) ∧ Sl wr w.heap.size 9 1 sv i (refS (List.replicate i PDsk.zero)) ∧ Below w.heap.size w wr ∧ w.heap.size < wr.heap.size ∧ (∀ k, sv.ownBlock = some k → k ≠ w.heap.size)
theorem rnew_no (n : Int) (hn1 : -9223372036854775808 ≤ n) (hn2 : n ≤ 9223372036854775807) (hno : ¬ (1 ≤ n ∧ n ≤ 16384)) (w : World) : Calls Try.prog 20 #[.int .i64 n] w (RNewPost n w) := by
  by_cases c1 : n < 1
  · clear hno
    go_enter Try.func20, Try.ntmps20
    go_wp2
    go_ret
    exact ⟨Below.refl _ _, .inl ⟨by omega, rfl⟩⟩
  · have c2 : 16384 < n := by omega
    clear hno
    go_enter Try.func20, Try.ntmps20
    go_wp2
    go_ret
    exact ⟨Below.refl _ _, .inl ⟨by omega, rfl⟩⟩
theorem rnew_ok (n : Nat) (h1 : 1 ≤ n) (h2 : n ≤ 16384) (w : World) : Calls Try.prog 20 #[.int .i64 n] w (RNewPost n w) := by
  have hmk : ∀ w, (Instr.makeSlice 31 (.int .i64 128) (.int .i64 128)).run Try.prog w = .ok (.slice (some ⟨w.heap.size, 0, none⟩) 128 128) (w.alloc (.cells (madeB 128) 5)) := fun w => make_bytes 128 (by omega) w
  have hS0 := Sl.of_made (w.alloc (.cells #[.slice none 0 0, .slice none 0 0, .int .i64 (-1)] 54)) w.heap.size (by simp) 5 128 (by unfold maxLen; omega)
  have hcv := conv_sl hS0
  rw [World.size_alloc] at hcv
  have hRN : RN w ((w.alloc (.cells #[.slice none 0 0, .slice none 0 0, .int .i64 (-1)] 54)).alloc (.cells (madeB 128) 5)) (.slice none 0 0) 0 := by
    refine ⟨?_, Sl.nil _ _ _ _, ((Below.refl _ _).alloc (Nat.le_refl _) _).alloc (by simp) _, by simp; omega, fun k e => by simp [Value.ownBlock] at e⟩
    rw [RowKit.Below.heap_alloc _ _ _ (by simp)]
    exact heap_alloc_new w _
  have HRN := Lib.hid hRN
  have i1 : ¬ (n : Int) < 1 := by omega
  have i2 : ¬ (16384 : Int) < n := by omega
  clear hRN hS0
  go_enter Try.func20, Try.ntmps20
  go_wp2
  clear hmk hcv
  go_loopw [5] (fun iv wr => ∃ (i : Nat) (sv : Value), i ≤ n ∧ iv = .int .i64 i ∧ Hid (RN w wr sv i)) (fun iv _ => n - (intOf iv).toNat)
  case atStart => exact ⟨0, _, by omega, rfl, HRN⟩
  case round =>
    obtain ⟨i, sv, hi, rfl, HR⟩ := hrel
    clear HRN
    have hb := HR.out.1
    have hc0 : wr.cell? ⟨w.heap.size, 0, none⟩ = some sv := by simp [World.cell?, hb]
    have hf0 : wr.frozen? ⟨w.heap.size, 0, none⟩ = false := by simp [World.frozen?, hb]
    by_cases hlt : i < n
    · have HL := Lib.hid HR.out.2.1
      obtain ⟨p, c, rfl⟩ := Sl.form HL.out
      have HB := Lib.hid HR.out.2.2.1
      have hsz := HR.out.2.2.2.1
      have HNE := Lib.hid HR.out.2.2.2.2
      have HBK := Lib.hid hb
      have i0 : (i : Int) < n := by omega
      clear hb HR
      go_wp2_with (at_builtin; (with_reducible apply wpList_append_sl elem_strs (HL.out.alloc _) [_]); (· rfl); (· rfl); (· rfl); (· rfl); (· rfl); (· exact news_alloc _ [_] _ _); (· intro u hu; simp at hu; subst hu; rfl); (· unfold maxLen; omega); (· omega); (· simp; omega); intro v' w5 g1 g2 _ g4; obtain ⟨p2, c2, rfl⟩ := Sl.form g1; have hb5 := (g2.block w.heap.size (by simp; omega) (fun e => HNE.out _ e.symm rfl)).trans ((RowKit.Below.heap_alloc _ _ _ hsz).trans HBK.out); have hc5 : w5.cell? ⟨w.heap.size, 0, none⟩ = some (.slice p i c) := (by simp [World.cell?, hb5]); have hf5 : w5.frozen? ⟨w.heap.size, 0, none⟩ = false := (by simp [World.frozen?, hb5]))
      have hba : Below wr.heap.size wr (wr.alloc (Obj.cells #[refT PDsk.zero] 9)) := (Below.refl _ _).alloc (Nat.le_refl _) _
      have hB5 := ((HB.out.step hba).grown g2 (by have := hba.size; omega) (fun j e => (HL.out.lt j e).1)).setCell (p := ⟨w.heap.size, 0, none⟩) (Nat.le_refl _) (.slice p2 (i + 1) c2)
      have hs5 := g2.size
      rw [World.size_alloc] at hs5
      refine ⟨⟨i + 1, .slice p2 (i + 1) c2, by omega, by go_num, Lib.hid ⟨?_, ?_, hB5, ?_, ?_⟩⟩, by simp [intOf]; omega⟩
      · rw [heap_set hb5]; rfl
      · have e1 : refS (List.replicate (i + 1) PDsk.zero) = refS (List.replicate i PDsk.zero) ++ [refT PDsk.zero] := by unfold refS; rw [List.replicate_succ', List.map_append]; rfl
        rw [e1]
        refine (show Sl w5 w.heap.size 9 1 (.slice p2 (i + 1) c2) (i + 1) (refS (List.replicate i PDsk.zero) ++ [refT PDsk.zero]) from g1).keep fun k e => Below.heap_setCell _ _ _ _ (fun e' => ?_)
        rcases g4 k e with h | h
        · exact HNE.out k h e'
        · rw [World.size_alloc] at h
          have e2 : k = w.heap.size := e'
          omega
      · show w.heap.size < (w5.setCell _ _).heap.size
        simp; omega
      · intro k e
        rcases g4 k e with h | h
        · exact HNE.out k h
        · rw [World.size_alloc] at h
          omega
    · have hin : i = n := by omega
      subst hin
      obtain ⟨gs, os, cs, hsv⟩ : ∃ gs os cs, sv = .slice (some ⟨gs, os, none⟩) i cs := by
        rcases HR.out.2.1.shape with ⟨_, h0, _⟩ | ⟨g, o, c, h, _⟩
        · omega
        · exact ⟨g, o, c, h⟩
      subst hsv
      have hl1 : (PDsk.new i).sure.length = i := by simp [PDsk.new]
      have HREF : Hid (IsRef wr w.heap.size (PDsk.new i) [w.heap.size, gs]) := Lib.hid ⟨PDsk.new_ok i h1 h2, gs, os, cs, .slice none 0 0, by rw [hl1]; exact hb, by rw [hl1]; exact HR.out.2.1.base_le (Nat.zero_le _), Sl.nil _ _ _ _, HR.out.2.2.2.2 gs rfl, by simp [ownsOf, Value.ownBlock], by simp [ownsOf, Value.ownBlock], by simp [ownsOf, Value.ownBlock]⟩
      have hgs := (HR.out.2.1.lt gs rfl).1
      have HB := Lib.hid HR.out.2.2.1
      have i0 : ¬ (i : Int) < i := by omega
      clear hb hl1 HR
      go_wp2
      go_ret
      refine ⟨HB.out, .inr ⟨by omega, by omega, w.heap.size, [w.heap.size, gs], rfl, HREF.out, ?_⟩⟩
      intro k hk
      simp at hk
      omega
theorem rnew_any (n : Int) (hn1 : -9223372036854775808 ≤ n) (hn2 : n ≤ 9223372036854775807) (w : World) : Calls Try.prog 20 #[.int .i64 n] w (RNewPost n w) := by
  by_cases h : 1 ≤ n ∧ n ≤ 16384
  · obtain ⟨k, rfl⟩ := Int.eq_ofNat_of_zero_le (show 0 ≤ n by omega)
    exact rnew_ok k (by omega) (by omega) w
  · exact rnew_no n hn1 hn2 h w
end Go.Proofs.Ytkmgmfahhidbbaa
