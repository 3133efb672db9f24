/-
  Masters: may, Encode, Decode of the program.
-/
import Derived.Test.YtmbialiledjigaaPMst
import Derived.Test.YtmbialiledjigaaWord
import Derived.Test.YtmbialiledjigaaSum
import Derived.Test.YtmbialiledjigaaRead2
import Derived.WalkSpells
namespace Go.Proofs.Ytmbialiledjigaa
open Go.RowKit
open PMst (Mst)
def mv (m : Mst) : Value := .agg #[.int .u64 m.count, .int .u64 m.life, .int .u64 m.check, .int .u64 m.first, .bool m.clean]
theorem mmay_any (m : Mst) (w : World) : Calls Try.prog 20 #[mv m] w fun e w' => e = .returned (.bool (PMst.may m)) ∧ Below w.heap.size w w' := by
  unfold PMst.may mv
  obtain ⟨c, l, k, f, g⟩ := m
  simp only
  by_cases h1 : 0 < c
  · by_cases h2 : 0 < l
    · by_cases h3 : 0 < f
      · by_cases h4 : k = 0
        · subst h4
          go_enter Try.func20, Try.ntmps20
          go_wp2
          go_ret
          exact ⟨by simp [h1, h2, h3], (Below.refl _ _).alloc (Nat.le_refl _) _⟩
        · have h5 : ((k : Int) == 0) = false := by simpa using h4
          by_cases h6 : f ≤ k
          · go_enter Try.func20, Try.ntmps20
            go_wp2
            go_ret
            exact ⟨by simp [h1, h2, h3, h6], (Below.refl _ _).alloc (Nat.le_refl _) _⟩
          · go_enter Try.func20, Try.ntmps20
            go_wp2
            go_ret
            exact ⟨by simp [h1, h2, h3, h4, h6], (Below.refl _ _).alloc (Nat.le_refl _) _⟩
      · have h3 : decide (0 < f) = false := by simpa using h3
        go_enter Try.func20, Try.ntmps20
        go_wp2
        go_ret
        exact ⟨by simp [h3], (Below.refl _ _).alloc (Nat.le_refl _) _⟩
    · have h2 : decide (0 < l) = false := by simpa using h2
      go_enter Try.func20, Try.ntmps20
      go_wp2
      go_ret
      exact ⟨by simp [h2], (Below.refl _ _).alloc (Nat.le_refl _) _⟩
  · have h1 : decide (0 < c) = false := by simpa using h1
    go_enter Try.func20, Try.ntmps20
    go_wp2
    go_ret
    exact ⟨by simp [h1], (Below.refl _ _).alloc (Nat.le_refl _) _⟩
end Go.Proofs.Ytmbialiledjigaa
