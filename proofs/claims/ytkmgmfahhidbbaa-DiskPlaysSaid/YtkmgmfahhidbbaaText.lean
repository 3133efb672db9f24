/-
  What a call writes.
-/
import Derived.Test.YtkmgmfahhidbbaaPicks
namespace Go.Proofs.Ytkmgmfahhidbbaa
open Go.RowKit
def CallM.text (x : CallM) : ByteArray := if x.odd then x.s else ⟨(fullL x.c).toArray⟩
def CallM.val (x : CallM) : Value := .agg #[.int .u8 x.dO, .int .i64 x.k, .int .u8 x.c, .bool x.odd, .string x.s, .int .i64 x.n, x.kv]
theorem text_any (x : CallM) (hc : x.c < 256) (hk : ∃ p n c, x.kv = .slice p n c) (w : World) : Calls Try.prog 37 #[x.val] w fun e w' => e = .returned (.string x.text) ∧ Below w.heap.size w w' := by
  obtain ⟨pv, nv, cv, hkv⟩ := hk
  unfold CallM.text CallM.val
  rw [hkv]
  generalize x.dO = dO at *
  generalize x.k = k at *
  generalize x.s = s at *
  generalize x.n = n at *
  cases x.odd
  · go_enter Try.func37, Try.ntmps37
    go_wp2_with fail
    refine (full_any x.c hc _).mono ?_; rintro e wf ⟨rfl, hb⟩
    go_wp2
    go_ret
    exact ⟨rfl, ((Below.refl _ _).alloc (Nat.le_refl _) _).step hb⟩
  · go_enter Try.func37, Try.ntmps37
    go_wp2
    go_ret
    exact ⟨rfl, (Below.refl _ _).alloc (Nat.le_refl _) _⟩
end Go.Proofs.Ytkmgmfahhidbbaa
