/-
  Twin: the small functions.
-/
import Derived.Test.YtdkhmhlphhammaaPTwin
import Derived.Test.YtdkhmhlphhammaaRead2
import Derived.Test.YtdkhmhlphhammaaRdS
import Derived.IntWalk
namespace Go.Proofs.Ytdkhmhlphhammaa
open Go.RowKit
theorem clear_any (w : World) : Calls Try.prog 34 #[] w fun e w' => e = .returned (.string ⟨PTwin.clear.toArray⟩) ∧ Below w.heap.size w w' := by
  have hmk : ∀ w, (Instr.makeSlice 35 (.int .i64 128) (.int .i64 128)).run Try.prog w = .ok (.slice (some ⟨w.heap.size, 0, none⟩) 128 128) (w.alloc (.cells (madeB 128) 5)) := fun w => make_bytes 128 (by omega) w
  have hcv : (convert 35 9 (.slice (some ⟨w.heap.size, 0, none⟩) 128 128)).run Try.prog (w.alloc (.cells (madeB 128) 5)) = .ok (.string ⟨(List.replicate 128 0).toArray⟩) (w.alloc (.cells (madeB 128) 5)) := conv_sl (Sl.of_made w w.heap.size (Nat.le_refl _) 5 128 (by unfold maxLen; omega))
  have HB := Lib.hid ((Below.refl w.heap.size w).alloc (Nat.le_refl _) (.cells (madeB 128) 5))
  generalize ht : (⟨(List.replicate 128 0).toArray⟩ : ByteArray) = t at hcv
  have HT := Lib.hid ht
  clear ht
  go_enter Try.func34, Try.ntmps34
  go_wp2
  go_ret
  (rw [show PTwin.clear.toArray = (List.replicate 128 0).toArray from rfl, HT.out]; exact ⟨rfl, HB.out⟩)
theorem inside_any {b : Nat} {D : PDsk.Dsk} {own : List Nat} (w : World) (h : IsDisk w b D own) (a base page : Nat) (ha : a ≤ 100000) (hb : base ≤ 100000) (hp : page < 4294967296) :
    Calls Try.prog 49 #[.pointer (some ⟨b, 0, none⟩), .int .i64 a, .int .i64 base, .int .u32 page] w fun e w' => e = .returned (.bool (PTwin.inside D.sure.length a base page)) ∧ w = w' := by
  have H := Lib.hid h
  obtain ⟨n, hn⟩ : ∃ n, n = D.sure.length := ⟨_, rfl⟩
  have hns := h.1.2.1
  have HL : Hid (∀ W, IsDisk W b D own → Calls Try.prog 22 #[.pointer (some ⟨b, 0, none⟩)] W fun e w' => e = .returned (.int .i64 (n : Nat)) ∧ W = w') := Lib.hid (fun W hW => by rw [hn]; exact len_any W hW)
  rw [← hn] at hns ⊢
  clear h hn
  obtain ⟨Q, hQ⟩ : ∃ Q : Nat, page * 4 = Q := ⟨_, rfl⟩
  obtain ⟨F, hF⟩ : ∃ F : Nat, base + Q = F := ⟨_, rfl⟩
  obtain ⟨F4, hF4⟩ : ∃ F : Nat, base + Q + 4 = F := ⟨_, rfl⟩
  obtain ⟨A, hA⟩ : ∃ F : Nat, a + 33 = F := ⟨_, rfl⟩
  have w1 : IntKind.i64.wrap (page : Int) = page := IntWalk.i64_in _ (by omega)
  have w2 : IntKind.i64.wrap ((page : Int) * 4) = Q := by rw [IntWalk.i64_in _ (by omega)]; omega
  have w3 : IntKind.i64.wrap ((base : Int) + Q) = F := by rw [IntWalk.i64_in _ (by omega)]; omega
  have w4 : IntKind.i64.wrap ((F : Int) + 4) = F4 := by rw [IntWalk.i64_in _ (by omega)]; omega
  have w5 : IntKind.i64.wrap ((a : Int) + 33) = A := by rw [IntWalk.i64_in _ (by omega)]; omega
  have HR : Hid (PTwin.inside n a base page = (decide (F4 ≤ n) && (decide (A ≤ F) || decide (F4 ≤ a)))) := Lib.hid (by unfold PTwin.inside; rw [hQ, hF4, hF, hA])
  have hcase : (¬ F4 ≤ n) ∨ (F4 ≤ n ∧ A ≤ F) ∨ (F4 ≤ n ∧ ¬ A ≤ F ∧ F4 ≤ a) ∨ (F4 ≤ n ∧ ¬ A ≤ F ∧ ¬ F4 ≤ a) := by omega
  clear hQ hF hF4 hA ha hb hp
  rcases hcase with c1 | ⟨c1, c2⟩ | ⟨c1, c2, c3⟩ | ⟨c1, c2, c3⟩
  · have i1 : ¬ (F4 : Int) ≤ n := by omega
    have HE : Hid (PTwin.inside n a base page = false) := Lib.hid (by rw [HR.out]; simp [c1])
    clear c1
    go_enter Try.func49, Try.ntmps49
    go_wp2_with fail
    refine (HL.out _ H.out).mono ?_; rintro e w1 ⟨rfl, rfl⟩
    go_wp2
    go_ret
    (rw [HE.out]; exact ⟨rfl, rfl⟩)
  · have i1 : (F4 : Int) ≤ n := by omega
    have i2 : (A : Int) ≤ F := by omega
    have HE : Hid (PTwin.inside n a base page = true) := Lib.hid (by rw [HR.out]; simp [c1, c2])
    clear c1 c2
    go_enter Try.func49, Try.ntmps49
    go_wp2_with fail
    refine (HL.out _ H.out).mono ?_; rintro e w1 ⟨rfl, rfl⟩
    go_wp2
    go_ret
    (rw [HE.out]; exact ⟨rfl, rfl⟩)
  · have i1 : (F4 : Int) ≤ n := by omega
    have i2 : ¬ (A : Int) ≤ F := by omega
    have i3 : (F4 : Int) ≤ a := by omega
    have HE : Hid (PTwin.inside n a base page = true) := Lib.hid (by rw [HR.out]; simp [c1, c3])
    clear c1 c2 c3
    go_enter Try.func49, Try.ntmps49
    go_wp2_with fail
    refine (HL.out _ H.out).mono ?_; rintro e w1 ⟨rfl, rfl⟩
    go_wp2
    go_ret
    (rw [HE.out]; exact ⟨rfl, rfl⟩)
  · have i1 : (F4 : Int) ≤ n := by omega
    have i2 : ¬ (A : Int) ≤ F := by omega
    have i3 : ¬ (F4 : Int) ≤ a := by omega
    have HE : Hid (PTwin.inside n a base page = false) := Lib.hid (by rw [HR.out]; simp [c2, c3])
    have HC := Lib.hid (⟨c2, c3⟩ : _ ∧ _)
    clear c1 c2 c3
    go_enter Try.func49, Try.ntmps49
    go_wp2_with fail
    refine (HL.out _ H.out).mono ?_; rintro e w1 ⟨rfl, rfl⟩
    go_wp2
    go_ret
    (rw [HE.out]; exact ⟨by simp [HC.out.1, HC.out.2], rfl⟩)
theorem placed_nil (a base : Int) (w : World) : Calls Try.prog 33 #[.pointer none, .int .i64 a, .int .i64 base] w fun e w' => e = .returned (.int .i64 1) ∧ w = w' := by
  go_enter Try.func33, Try.ntmps33
  go_wp2
  go_ret
  exact ⟨rfl, rfl⟩
def placedE (n a base : Nat) : Int := if n < a + 33 ∨ n < base then 2 else 0
theorem placed_any {b : Nat} {D : PDsk.Dsk} {own : List Nat} (w : World) (h : IsDisk w b D own) (a base : Nat) (ha : a ≤ 100000) (hb : base ≤ 100000) :
    Calls Try.prog 33 #[.pointer (some ⟨b, 0, none⟩), .int .i64 a, .int .i64 base] w fun e w' => e = .returned (.int .i64 (placedE D.sure.length a base)) ∧ w = w' := by
  have H := Lib.hid h
  obtain ⟨n, hn⟩ : ∃ n, n = D.sure.length := ⟨_, rfl⟩
  have hns := h.1.2.1
  have HL : Hid (∀ W, IsDisk W b D own → Calls Try.prog 22 #[.pointer (some ⟨b, 0, none⟩)] W fun e w' => e = .returned (.int .i64 (n : Nat)) ∧ W = w') := Lib.hid (fun W hW => by rw [hn]; exact len_any W hW)
  rw [← hn] at hns ⊢
  clear h hn
  obtain ⟨m, hm⟩ : ∃ m : Int, (n : Int) - 33 = m := ⟨_, rfl⟩
  have w1 : IntKind.i64.wrap ((n : Int) - 33) = m := by rw [IntWalk.i64_in _ (by omega)]; exact hm
  have z1 : ¬ (a : Int) < 0 := by omega
  have z2 : ¬ (base : Int) < 0 := by omega
  by_cases c1 : n < a + 33
  · have i1 : m < (a : Int) := by omega
    have HE : Hid (placedE n a base = 2) := Lib.hid (by unfold placedE; rw [if_pos (.inl c1)])
    clear c1 hm ha hb
    go_enter Try.func33, Try.ntmps33
    go_wp2_with fail
    refine (HL.out _ H.out).mono ?_; rintro e w1 ⟨rfl, rfl⟩
    go_wp2
    go_ret
    (rw [HE.out]; exact ⟨rfl, rfl⟩)
  · have i1 : ¬ m < (a : Int) := by omega
    by_cases c2 : n < base
    · have i2 : (n : Int) < base := by omega
      have HE : Hid (placedE n a base = 2) := Lib.hid (by unfold placedE; rw [if_pos (.inr c2)])
      clear c1 c2 hm ha hb
      go_enter Try.func33, Try.ntmps33
      go_wp2_with fail
      refine (HL.out _ H.out).mono ?_; rintro e w1 ⟨rfl, rfl⟩
      go_wp2_with fail
      refine (HL.out _ H.out).mono ?_; rintro e w1 ⟨rfl, rfl⟩
      go_wp2
      go_ret
      (rw [HE.out]; exact ⟨rfl, rfl⟩)
    · have i2 : ¬ (n : Int) < base := by omega
      have HE : Hid (placedE n a base = 0) := Lib.hid (by unfold placedE; rw [if_neg (by omega)])
      clear c1 c2 hm ha hb
      go_enter Try.func33, Try.ntmps33
      go_wp2_with fail
      refine (HL.out _ H.out).mono ?_; rintro e w1 ⟨rfl, rfl⟩
      go_wp2_with fail
      refine (HL.out _ H.out).mono ?_; rintro e w1 ⟨rfl, rfl⟩
      go_wp2
      go_ret
      (rw [HE.out]; exact ⟨rfl, rfl⟩)
end Go.Proofs.Ytdkhmhlphhammaa
