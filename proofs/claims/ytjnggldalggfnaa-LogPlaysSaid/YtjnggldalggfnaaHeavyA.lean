/-
  Heavy: whether acts are too much.
-/
import Derived.Test.YtjnggldalggfnaaAct
import Derived.IntWalk
namespace Go.Proofs.Ytjnggldalggfnaa
open Go.RowKit
def totalC (cs : List ActM) : Nat := (cs.map fun x => x.s.size + x.keep.length).sum
def heavyB (cs : List ActM) : Bool := decide (60 < cs.length) || decide (3000 < totalC cs)
theorem totalC_snoc (cs : List ActM) (x : ActM) : totalC (cs ++ [x]) = totalC cs + (x.s.size + x.keep.length) := by simp [totalC]
theorem totalC_le (cs : List ActM) (h : ∀ x ∈ cs, x.Ok) : totalC cs ≤ 281474976702464 * cs.length := by
  induction cs with
  | nil => simp [totalC]
  | cons x cs ih =>
    have := ih (fun y hy => h y (by simp [hy]))
    obtain ⟨_, h5, _, _, _, _, h8⟩ := h x (by simp)
    simp only [totalC, List.map_cons, List.sum_cons, List.length_cons] at this ⊢
    omega
theorem actAt_rd {w wr : World} {p : Option Addr} {cs : List ActM} (h : cs ≠ [] → ∃ g off, p = some ⟨g, off, none⟩ ∧ g < w.heap.size ∧ ∀ i (h : i < cs.length), ActAt w g (off + i * 6) cs[i]) (hB : Below w.heap.size w wr) {k : Nat} (hk : k < cs.length) :
    ∃ g off, p = some ⟨g, off, none⟩ ∧ g < w.heap.size ∧ ActAt wr g (off + k * 6) cs[k] := by
  obtain ⟨g, off, h1, h2, h3⟩ := h (by intro e; subst e; simp at hk)
  exact ⟨g, off, h1, h2, (h3 k hk).below h2 hB⟩
set_option maxRecDepth 100000 in
set_option maxHeartbeats 1000000 in
theorem heavy13_any (w : World) (v : Value) (cs : List ActM) (h : RdActs w v cs) (hok : ∀ x ∈ cs, x.Ok) : Calls Try.prog 20 #[v] w fun e w' => e = .returned (.bool (heavyB cs)) ∧ Below w.heap.size w w' := by
  obtain ⟨p, c, rfl, h2, h3, h4⟩ := h
  unfold maxLen at h3
  have H4 := Lib.hid h4
  have HOK := Lib.hid hok
  clear h4 hok
  by_cases hl : cs.length ≤ 60
  · go_enter Try.func20, Try.ntmps20
    go_wp2
    go_loopw [3, 4] (fun nv iv wr => ∃ k z : Nat, k ≤ cs.length ∧ iv = .int .i64 k ∧ nv = .int .i64 z ∧ Hid (z = totalC (cs.take k)) ∧ z ≤ 281474976702464 * k ∧ Below w.heap.size w wr) (fun _ iv _ => cs.length - (intOf iv).toNat)
    case atStart => exact ⟨0, 0, by omega, rfl, rfl, Lib.hid (by simp [totalC]), by omega, Below.refl _ _⟩
    case round =>
      obtain ⟨k, z, hk, rfl, rfl, hz, hzl, hB⟩ := hrel
      by_cases hlt : k < cs.length
      · obtain ⟨g, off, rfl, hg, hca⟩ := actAt_rd H4.out hB hlt
        obtain ⟨c0, c4, c2, c3, c1, c6, kp, kc, e1, e2, e3, e4⟩ := hca
        obtain ⟨_, s5, _, _, _, _, s8⟩ := HOK.out cs[k] (List.getElem_mem hlt)
        have hst : Hid (totalC (cs.take (k + 1)) = totalC (cs.take k) + (cs[k].s.size + cs[k].keep.length)) := Lib.hid (by rw [List.take_succ_eq_append_getElem hlt, totalC_snoc])
        rw [e1] at c6
        rw [List.length_map] at c6
        generalize cs[k].s = sx at *
        generalize cs[k].keep.length = kl at *
        clear c0 c1 c2 c3 e4 e1 e2 e3
        have k0 : (0 : Int) ≤ k := by omega
        have k1 : (k : Int) < cs.length := by omega
        have k2 : (k : Int) < 100 := by omega
        have w1 : IntKind.i64.wrap ((z : Int) + sx.size) = (z : Int) + sx.size := IntWalk.i64_in _ (by omega)
        have w2 : IntKind.i64.wrap ((z : Int) + sx.size + kl) = (z : Int) + sx.size + kl := IntWalk.i64_in _ (by omega)
        go_wp2
        go_quiet (fail)
        go_wp2
        go_roundw
        case rel => exact ⟨k + 1, z + (sx.size + kl), by omega, by go_num, by rw [show ((z : Int) + sx.size + kl) = ((z + (sx.size + kl) : Nat) : Int) by omega], Lib.hid (by rw [hst.out, hz.out]), by omega, ⟨hB.os, hB.tape, hB.output, hB.size, hB.block⟩⟩
        case measure => simp [intOf]; omega
      · have hkl : k = cs.length := by omega
        subst hkl
        have hfin : Hid (heavyB cs = decide ((3000 : Int) < z)) := Lib.hid (by
          have := hz.out
          rw [List.take_length] at this
          unfold heavyB
          rw [decide_eq_false (by omega), Bool.false_or, this]
          exact decide_eq_decide.2 (by omega))
        have f1 : ¬ (60 : Int) < cs.length := by omega
        go_wp2
        go_ret
        rw [hfin.out]
        exact ⟨rfl, hB⟩
  · have f1 : (60 : Int) < cs.length := by omega
    have hfin : Hid (heavyB cs = true) := Lib.hid (by unfold heavyB; rw [decide_eq_true (by omega)]; rfl)
    go_enter Try.func20, Try.ntmps20
    go_wp2
    go_loopw [3, 4] (fun nv iv wr => ∃ (k : Nat) (z : Int), k ≤ cs.length ∧ iv = .int .i64 k ∧ nv = .int .i64 z ∧ Below w.heap.size w wr) (fun _ iv _ => cs.length - (intOf iv).toNat)
    case atStart => exact ⟨0, 0, by omega, rfl, rfl, Below.refl _ _⟩
    case round =>
      obtain ⟨k, z, hk, rfl, rfl, hB⟩ := hrel
      by_cases hlt : k < cs.length
      · by_cases h100 : k < 100
        · obtain ⟨g, off, rfl, hg, hca⟩ := actAt_rd H4.out hB hlt
          obtain ⟨c0, c4, c2, c3, c1, c6, kp, kc, e1, e2, e3, e4⟩ := hca
          rw [e1] at c6
          rw [List.length_map] at c6
          generalize cs[k].s = sx at *
          generalize cs[k].keep.length = kl at *
          clear c0 c1 c2 c3 e4 e1 e2 e3
          have k0 : (0 : Int) ≤ k := by omega
          have k1 : (k : Int) < cs.length := by omega
          have k2 : (k : Int) < 100 := by omega
          go_wp2
          go_quiet (fail)
          go_wp2
          go_roundw
          case rel => exact ⟨k + 1, _, by omega, by go_num, rfl, ⟨hB.os, hB.tape, hB.output, hB.size, hB.block⟩⟩
          case measure => simp [intOf]; omega
        · have k1 : (k : Int) < cs.length := by omega
          have k2 : ¬ (k : Int) < 100 := by omega
          go_wp2
          go_ret
          rw [hfin.out]
          exact ⟨rfl, hB⟩
      · go_wp2
        go_ret
        rw [hfin.out]
        exact ⟨rfl, hB⟩
end Go.Proofs.Ytjnggldalggfnaa
