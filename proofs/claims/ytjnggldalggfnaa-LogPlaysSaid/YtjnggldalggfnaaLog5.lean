/-
  slices.BinarySearch of rising numbers.
-/
import Derived.Test.YtjnggldalggfnaaLog4
namespace Go.Proofs.Ytjnggldalggfnaa
open Go.RowKit
theorem cisnan_any (x : Int) (w : World) : Calls Try.prog 76 #[.int .u64 x] w fun e w' => e = .returned (.bool false) ∧ w = w' := by
  go_enter Try.func76, Try.ntmps76
  go_wp2
  go_ret
  exact ⟨rfl, rfl⟩
theorem sisnan_any (x : Int) (w : World) : Calls Try.prog 60 #[.int .u64 x] w fun e w' => e = .returned (.bool false) ∧ w = w' := by
  go_enter Try.func60, Try.ntmps60
  go_wp2
  go_ret
  exact ⟨rfl, rfl⟩
theorem less_any (x y : Int) (w : World) : Calls Try.prog 59 #[.int .u64 x, .int .u64 y] w fun e w' => e = .returned (.bool (decide (x < y))) ∧ w = w' := by
  by_cases h : x < y
  all_goals (
    go_enter Try.func59, Try.ntmps59
    go_wp2_with fail
    refine (cisnan_any _ _).mono ?_; rintro e w1 ⟨rfl, rfl⟩
    go_wp2
    go_ret
    exact ⟨by simp [h], rfl⟩)
theorem less_yes (x y : Int) (h : x < y) (w : World) : Calls Try.prog 59 #[.int .u64 x, .int .u64 y] w fun e w' => e = .returned (.bool true) ∧ w = w' := by
  have := less_any x y w
  rwa [show decide (x < y) = true from by simpa using h] at this
theorem less_no (x y : Int) (h : ¬ x < y) (w : World) : Calls Try.prog 59 #[.int .u64 x, .int .u64 y] w fun e w' => e = .returned (.bool false) ∧ w = w' := by
  have := less_any x y w
  rwa [show decide (x < y) = false from by simpa using h] at this
theorem bsearch_any (w : World) (v : Value) (xs : List Nat) (hr : Rd w v (u64V xs)) (hs : ∀ i j (hij : i < j) (hj : j < xs.length), xs[i]'(Nat.lt_trans hij hj) < xs[j]) (hl : xs.length ≤ 1000000) (t : Nat) :
    Calls Try.prog 31 #[v, .int .u64 t] w fun e w' => e = .returned (.tuple #[.int .i64 (PLog.rank xs t : Nat), .bool (PLog.has xs t)]) ∧ w = w' := by
  obtain ⟨p, c, hv, hnc, hcm, hcell⟩ := hr
  rw [u64V_length] at hv hnc
  subst hv
  obtain ⟨n, hn⟩ : ∃ n, xs.length = n := ⟨_, rfl⟩
  have HN := Lib.hid hn
  rw [hn] at hnc
  have HC : Hid (∀ k (hk : k < n), ∃ g off, p = some ⟨g, off, none⟩ ∧ w.cell? ⟨g, off + k, none⟩ = some (.int .u64 (xs[k]'(by rw [HN.out]; exact hk) : Nat))) := Lib.hid (fun k hk => by
    have hk' : k < (u64V xs).length := by rw [u64V_length, hn]; exact hk
    obtain ⟨g, off, e1, e2, e3⟩ := hcell (fun e => by rw [e] at hk'; simp at hk')
    refine ⟨g, off, e1, ?_⟩
    rw [e3 k hk', u64V_at])
  have HS := Lib.hid hs
  have HRK : Hid (∀ i, i ≤ n → (∀ k (h : k < xs.length), k < i → xs[k] < t) → (∀ k (h : k < xs.length), i ≤ k → t ≤ xs[k]) → PLog.rank xs t = i) := Lib.hid (fun i hi h1 h2 => PLog.rank_of (by rw [hn]; exact hi) h1 h2)
  rw [hn] at hl ⊢
  clear hn hcell hs hnc hcm
  go_enter Try.func31, Try.ntmps31
  go_wp2
  go_loop [7, 8] (fun iv jv => ∃ i j : Nat, i ≤ j ∧ j ≤ n ∧ iv = .int .i64 i ∧ jv = .int .i64 j ∧ Hid (∀ k (h : k < xs.length), k < i → xs[k] < t) ∧ Hid (∀ k (h : k < xs.length), j ≤ k → t ≤ xs[k])) (fun iv jv => (intOf jv).toNat - (intOf iv).toNat)
  case atStart => exact ⟨0, n, Nat.zero_le _, Nat.le_refl _, rfl, rfl, Lib.hid (fun k h hk => absurd hk (Nat.not_lt_zero _)), Lib.hid (fun k h hk => by have := HN.out; omega)⟩
  case round =>
    obtain ⟨i, j, hij, hjn, rfl, rfl, H1, H2⟩ := hrel
    by_cases hlt : i < j
    · obtain ⟨h, hh⟩ : ∃ h : Nat, h = (i + j) / 2 := ⟨_, rfl⟩
      have hhn : h < n := by omega
      obtain ⟨g, off, hp, hc⟩ := HC.out h hhn
      subst hp
      obtain ⟨x, hx⟩ : ∃ x, xs[h]'(by rw [HN.out]; exact hhn) = x := ⟨_, rfl⟩
      rw [hx] at hc
      have HX := Lib.hid hx
      have w0 : IntKind.i64.wrap ((i : Int) + j) = (i : Int) + j := IntWalk.i64_in _ (by omega)
      have w1 : IntKind.i64.wrap ((h : Int) + 1) = (h + 1 : Nat) := by rw [IntWalk.i64_in _ (by omega)]; omega
      have d0 : ((i : Int) + j) / 2 = h := by omega
      have hih : i ≤ h := by omega
      have hhj : h < j := by omega
      have i0 : (0 : Int) ≤ h := by omega
      have i1 : (h : Int) < n := by omega
      have i2 : (i : Int) < j := by omega
      by_cases hxt : (x : Int) < t
      · have HL := Lib.hid (less_yes x t hxt)
        have H1' : Hid (∀ k (h' : k < xs.length), k < h + 1 → xs[k] < t) := Lib.hid (fun k h' hk => by
          rcases Nat.lt_or_ge k h with e | e
          · have := HS.out k h e (by rw [HN.out]; exact hhn); rw [hx] at this; omega
          · have : k = h := by omega
            subst this; rw [hx]; omega)
        clear hx hh hxt
        go_wp2_with fail
        refine (HL.out _).mono ?_; rintro e w1 ⟨rfl, rfl⟩
        go_wp2
        go_round
        case rel => exact ⟨h + 1, j, by omega, hjn, rfl, rfl, H1', H2⟩
        case measure => simp [intOf]; omega
      · have HL := Lib.hid (less_no x t hxt)
        have H2' : Hid (∀ k (h' : k < xs.length), h ≤ k → t ≤ xs[k]) := Lib.hid (fun k h' hk => by
          rcases Nat.lt_or_ge h k with e | e
          · have := HS.out h k e h'; rw [hx] at this; omega
          · have : k = h := by omega
            subst this; rw [hx]; omega)
        clear hx hh hxt
        go_wp2_with fail
        refine (HL.out _).mono ?_; rintro e w1 ⟨rfl, rfl⟩
        go_wp2
        go_round
        case rel => exact ⟨i, h, by omega, by omega, rfl, rfl, H1, H2'⟩
        case measure => simp [intOf]; omega
    · obtain rfl : i = j := by omega
      have HR := Lib.hid (HRK.out i hjn H1.out H2.out)
      have i2 : ¬ (i : Int) < i := by omega
      by_cases hin : i < n
      · obtain ⟨g, off, hp, hc⟩ := HC.out i hin
        subst hp
        obtain ⟨x, hx⟩ : ∃ x, xs[i]'(by rw [HN.out]; exact hin) = x := ⟨_, rfl⟩
        rw [hx] at hc
        have i0 : (0 : Int) ≤ i := by omega
        have i1 : (i : Int) < n := by omega
        by_cases hxt : x = t
        · have HT : Hid (PLog.has xs t = true) := Lib.hid (by unfold PLog.has; rw [List.contains_iff_mem, ← hxt, ← hx]; exact List.getElem_mem _)
          have hb : ((x : Int) == t) = true := by simp [hxt]
          clear hx hxt
          go_wp2
          go_ret2
          rw [HR.out, HT.out]
          exact ⟨rfl, rfl⟩
        · have HT : Hid (PLog.has xs t = false) := Lib.hid (by
            unfold PLog.has
            rw [Bool.eq_false_iff]
            intro hct
            rw [List.contains_iff_mem] at hct
            obtain ⟨k, hk, e⟩ := List.getElem_of_mem hct
            rcases Nat.lt_trichotomy k i with h1 | h1 | h1
            · have := H1.out k hk h1; omega
            · subst h1; rw [hx] at e; exact hxt e
            · have := HS.out i k h1 hk; rw [hx] at this; have := H2.out i (by rw [HN.out]; exact hin) (Nat.le_refl _); rw [hx] at this; omega)
          have hb : ((x : Int) == t) = false := by rw [beq_eq_false_iff_ne]; omega
          clear hx hxt
          go_wp2_with fail
          refine (sisnan_any _ _).mono ?_; rintro e w1 ⟨rfl, rfl⟩
          go_wp2
          go_ret2
          rw [HR.out, HT.out]
          exact ⟨rfl, rfl⟩
      · have HT : Hid (PLog.has xs t = false) := Lib.hid (by
          unfold PLog.has
          rw [Bool.eq_false_iff]
          intro hct
          rw [List.contains_iff_mem] at hct
          obtain ⟨k, hk, e⟩ := List.getElem_of_mem hct
          have := H1.out k hk (by have := HN.out; omega)
          omega)
        have i1 : ¬ (i : Int) < n := by omega
        go_wp2
        go_ret2
        rw [HR.out, HT.out]
        exact ⟨rfl, rfl⟩
end Go.Proofs.Ytjnggldalggfnaa
