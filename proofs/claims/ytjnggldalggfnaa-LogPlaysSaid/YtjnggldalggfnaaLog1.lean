/-
  A log in memory, and what its small methods do.
-/
import Derived.Test.YtjnggldalggfnaaFrm
import Derived.Test.YtjnggldalggfnaaRead2
import Derived.Test.YtjnggldalggfnaaScan
import Derived.Test.YtjnggldalggfnaaPLog
import Derived.IntWalk
namespace Go.Proofs.Ytjnggldalggfnaa
open Go.RowKit
def u64V (l : List Nat) : List Value := l.map fun x : Nat => Value.int .u64 (x : Int)
theorem u64V_length (l : List Nat) : (u64V l).length = l.length := by simp [u64V]
theorem u64V_append (l m : List Nat) : u64V (l ++ m) = u64V l ++ u64V m := by simp [u64V]
theorem u64V_at {l : List Nat} {j : Nat} (hj : j < l.length) : (u64V l)[j]'(by rw [u64V_length]; exact hj) = .int .u64 (l[j] : Int) := by simp [u64V]
theorem elem_u64 : ElemT Try.prog 56 22 1 8 := ElemT.mk' (z := .int .u64 0) Try.underlying56 (by kernel_rfl) rfl (by decide)
def logV (L : PLog.Lg) (b : Nat) (vb vs : Value) : Array Value := #[.pointer (some ⟨b, 0, none⟩), .int .i64 L.pl, .int .i64 L.n, .int .u64 L.life, vb, vs, .int .u64 L.first, .int .u64 L.next, .int .u64 L.forced, .int .i64 L.reserved]
/-- Block g is a log L over the disk b; own: its blocks (its bytes' and its starts', where there are any). -/
def IsLog (w : World) (g : Nat) (L : PLog.Lg) (b : Nat) (own : List Nat) : Prop :=
  L.Ok ∧ ∃ vb vs, w.heap[g]? = some (.cells (logV L b vb vs) 64 (0, 0)) ∧ Sl w 0 5 1 vb L.bytes.length (bytesV L.bytes) ∧ Sl w 0 22 1 vs L.starts.length (u64V L.starts) ∧
    g ∉ ownsOf vb ∧ g ∉ ownsOf vs ∧ (∀ k ∈ ownsOf vb, k ∉ ownsOf vs) ∧ own = g :: (ownsOf vb ++ ownsOf vs)
section
variable {w : World} {g b : Nat} {L : PLog.Lg} {own : List Nat}
theorem IsLog.ok (h : IsLog w g L b own) : L.Ok := h.1
theorem IsLog.mem (h : IsLog w g L b own) : g ∈ own := by
  obtain ⟨_, vb, vs, _, _, _, _, _, _, rfl⟩ := h
  simp
theorem IsLog.lt (h : IsLog w g L b own) : ∀ k ∈ own, k < w.heap.size := by
  obtain ⟨_, vb, vs, hb, hs, hl, _, _, _, rfl⟩ := h
  intro k hk
  simp only [List.mem_cons, List.mem_append] at hk
  rcases hk with rfl | hk | hk
  · exact (Array.getElem?_eq_some_iff.1 hb).1
  · refine (hs.lt k ?_).2
    unfold ownsOf at hk
    simpa using hk
  · refine (hl.lt k ?_).2
    unfold ownsOf at hk
    simpa using hk
/-- It abides whatever leaves its own blocks alone. -/
theorem IsLog.turns {w' : World} {bs : List Nat} (h : IsLog w g L b own) (t : Turns bs w w') (hd : ∀ k ∈ own, k ∉ bs) : IsLog w' g L b own := by
  have hlt := h.lt
  obtain ⟨hk, vb, vs, hb, hs, hl, h1, h2, h3, rfl⟩ := h
  refine ⟨hk, vb, vs, (t.block g (hlt g (by simp)) (hd g (by simp))).trans hb, hs.keep fun k e => t.block k (hs.lt k e).2 (hd k ?_), hl.keep fun k e => t.block k (hl.lt k e).2 (hd k ?_), h1, h2, h3, rfl⟩
  · simp [ownsOf, e]
  · simp [ownsOf, e]
theorem IsLog.below {w' : World} (h : IsLog w g L b own) (hb : Below w.heap.size w w') : IsLog w' g L b own := h.turns (bs := []) (Turns.of_below hb) (by simp)
/-- The one-cell fields. -/
theorem IsLog.cells (h : IsLog w g L b own) : w.cell? ⟨g, 0, none⟩ = some (.pointer (some ⟨b, 0, none⟩)) ∧ w.cell? ⟨g, 1, none⟩ = some (.int .i64 L.pl) ∧ w.cell? ⟨g, 2, none⟩ = some (.int .i64 L.n) ∧ w.cell? ⟨g, 3, none⟩ = some (.int .u64 L.life) ∧
    w.cell? ⟨g, 6, none⟩ = some (.int .u64 L.first) ∧ w.cell? ⟨g, 7, none⟩ = some (.int .u64 L.next) ∧ w.cell? ⟨g, 8, none⟩ = some (.int .u64 L.forced) ∧ w.cell? ⟨g, 9, none⟩ = some (.int .i64 L.reserved) := by
  obtain ⟨_, vb, vs, hb, _⟩ := h
  simp [World.cell?, hb, logV]
theorem IsLog.shut (h : IsLog w g L b own) (j : Nat) : w.frozen? ⟨g, j, none⟩ = false := by
  obtain ⟨_, vb, vs, hb, _⟩ := h
  simp [World.frozen?, hb]
end
theorem begin_any (x : Nat) (hx : x ≤ 9000000000000000000) (w : World) : Calls Try.prog 32 #[.int .u64 x] w fun e w' => e = .returned (.int .u64 (PLog.begin x : Nat)) ∧ w = w' := by
  have e : ((PLog.begin x : Nat) : Int) = (x : Int) - (x : Int) % 110 := by unfold PLog.begin; omega
  have HE := Lib.hid e
  clear e
  have h1 : (x : Int) % 110 ≤ x := by omega
  have h2 : 0 ≤ (x : Int) % 110 := by omega
  go_enter Try.func32, Try.ntmps32
  go_wp2
  go_ret
  rw [HE.out]
  exact ⟨rfl, rfl⟩
theorem made_nil (w : World) : Calls Try.prog 29 #[.pointer none] w fun e w' => e = .returned (.bool false) ∧ w = w' := by
  go_enter Try.func29, Try.ntmps29
  go_wp2
  go_ret
  exact ⟨rfl, rfl⟩
theorem made_any {g b : Nat} {L : PLog.Lg} {own : List Nat} (w : World) (h : IsLog w g L b own) : Calls Try.prog 29 #[.pointer (some ⟨g, 0, none⟩)] w fun e w' => e = .returned (.bool true) ∧ w = w' := by
  obtain ⟨c0, _⟩ := h.cells
  clear h
  go_enter Try.func29, Try.ntmps29
  go_wp2
  go_ret
  exact ⟨rfl, rfl⟩
end Go.Proofs.Ytjnggldalggfnaa
