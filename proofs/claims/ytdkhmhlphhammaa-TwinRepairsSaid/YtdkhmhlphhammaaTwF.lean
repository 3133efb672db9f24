/-
  Twin: the statements' own pages.
-/
import Derived.Test.YtdkhmhlphhammaaTwP
import Derived.Test.YtdkhmhlphhammaaPTwD
import Derived.Deep.RegionLaw
namespace PTwin
def pageB (c n : Nat) : List UInt8 := (List.range 512).map fun i => UInt8.ofNat (c + i / 128 * n)
theorem pageB_length (c n : Nat) : (pageB c n).length = 512 := by simp [pageB]
structure Pt where
  page : Nat
  c : Nat
  n : Nat
def Pt.Ok (p : Pt) : Prop := p.page < 256 ∧ p.c < 256 ∧ p.n < 256
def pstep (out : List Hm) (p : Pt) : List Hm := if out.length < 8 ∧ (out.any fun h => decide (h.page = p.page % 10)) = false then out ++ [⟨p.page % 10, pageB p.c p.n⟩] else out
def pagesL (l : List Pt) : List Hm := l.foldl pstep []
theorem pstep_full {out : List Hm} (h : ¬ out.length < 8) (l : List Pt) : l.foldl pstep out = out := by
  induction l with
  | nil => rfl
  | cons p l ih => rw [List.foldl_cons]; unfold pstep; rw [if_neg (fun e => h e.1)]; exact ih
structure POk (out : List Hm) : Prop where
  len : out.length ≤ 8
  bytes : ∀ h ∈ out, h.bytes.length = 512
  page : ∀ h ∈ out, h.page < 10
  fit : ∀ n a base seen, (∀ h ∈ out, seen.contains h.page = false) → (∀ p, p < 10 → inside n a base p = true) → fit n a base seen out = true
theorem fit_snoc (n a base : Nat) (x : Hm) : ∀ (l : List Hm) (seen : List Nat), fit n a base seen (l ++ [x]) = (fit n a base seen l && fit n a base (seen ++ l.map (·.page)) [x])
  | [], seen => by simp [fit]
  | y :: l, seen => by
    rw [List.cons_append, fit, fit]
    split
    · rfl
    · rw [fit_snoc n a base x l]
      simp
theorem pstep_ok {out : List Hm} (h : POk out) (p : Pt) : POk (pstep out p) := by
  unfold pstep
  have hBl := pageB_length p.c p.n
  generalize pageB p.c p.n = B at *
  split
  · rename_i hc
    obtain ⟨h1, h2⟩ := hc
    have hne : ∀ y ∈ out, y.page ≠ p.page % 10 := by
      intro y hy e
      have := List.any_eq_false.1 h2 y hy
      simp [e] at this
    refine ⟨by rw [List.length_append]; simp; omega, ?_, ?_, ?_⟩
    · intro y hy
      rcases List.mem_append.1 hy with hy | hy
      · exact h.bytes y hy
      · rw [List.mem_singleton.1 hy]; exact hBl
    · intro y hy
      rcases List.mem_append.1 hy with hy | hy
      · exact h.page y hy
      · rw [List.mem_singleton.1 hy]; exact Nat.mod_lt _ (by decide)
    · intro n a base seen hs hi
      rw [fit_snoc, h.fit n a base seen (fun y hy => hs y (List.mem_append.2 (.inl hy))) hi, Bool.true_and]
      unfold fit
      rw [if_neg]
      · rfl
      · intro e
        rcases e with e | e | e
        · exact e hBl
        · have h3 := hs ⟨p.page % 10, B⟩ (by simp)
          simp only [List.contains_eq_mem, List.mem_append, decide_eq_true_eq, decide_eq_false_iff_not] at e h3
          rcases e with e | e
          · exact h3 e
          · obtain ⟨y, hy, e2⟩ := List.mem_map.1 e
            exact hne y hy e2
        · have := hi (p.page % 10) (Nat.mod_lt _ (by decide))
          have e' : inside n a base (p.page % 10) = false := e
          rw [this] at e'; cases e'
  · exact h
theorem pok_nil : POk [] := ⟨by simp, by simp, by simp, fun _ _ _ _ _ _ => rfl⟩
theorem pagesL_ok (l : List Pt) : POk (pagesL l) := by
  unfold pagesL
  have : ∀ (l : List Pt) (out : List Hm), POk out → POk (l.foldl pstep out) := by
    intro l
    induction l with
    | nil => intro out h; exact h
    | cons p l ih => intro out h; exact ih _ (pstep_ok h p)
  exact this l [] pok_nil
theorem pstep_len (out : List Hm) (p : Pt) : out.length ≤ (pstep out p).length := by unfold pstep; split <;> simp
theorem fold_len (l : List Pt) : ∀ out : List Hm, out.length ≤ (l.foldl pstep out).length := by
  induction l with
  | nil => intro out; exact Nat.le_refl _
  | cons p l ih => intro out; exact Nat.le_trans (pstep_len out p) (ih _)
theorem pagesL_some {l : List Pt} (h : l ≠ []) : 1 ≤ (pagesL l).length := by
  cases l with
  | nil => exact absurd rfl h
  | cons p l =>
    unfold pagesL
    rw [List.foldl_cons]
    refine Nat.le_trans ?_ (fold_len l _)
    unfold pstep
    simp
theorem pages_may {l : List Pt} (h : l ≠ []) (a : Nat) (ha : a ≤ 7) : may 90 a 40 (pagesL l) = true := by
  have hk := pagesL_ok l
  unfold may
  rw [hk.fit 90 a 40 [] (by simp) (fun p hp => by unfold inside; simp; omega)]
  have := pagesL_some h
  have := hk.len
  simp
  omega
theorem set_take {α : Type} (L : List α) (n k : Nat) (z : α) (hk : k < n) (hn : n = L.length) : ((L.take k) ++ List.replicate (n - k) z).set k (L[k]'(by omega)) = L.take (k + 1) ++ List.replicate (n - (k + 1)) z := by
  rw [List.set_append_right _ _ (by rw [List.length_take]; omega), List.length_take, Nat.min_eq_left (by omega), Nat.sub_self, show n - k = (n - (k + 1)) + 1 by omega, List.replicate_succ, List.set_cons_zero, List.take_succ_eq_append_getElem (by omega), List.append_assoc]
  rfl
end PTwin
namespace Go.Proofs.Ytdkhmhlphhammaa
open Go.RowKit
open PTwin (Hm)
set_option maxRecDepth 20000 in
set_option maxHeartbeats 4000000 in
theorem page_any (c n : Nat) (_ : c < 256) (hn : n < 256) (w : World) : Calls Try.prog 24 #[.int .u8 c, .int .i64 n] w fun e w' => e = .returned (.string ⟨(PTwin.pageB c n).toArray⟩) ∧ Below w.heap.size w w' := by
  have hmk : ∀ w, (Instr.makeSlice 35 (.int .i64 512) (.int .i64 512)).run Try.prog w = .ok (.slice (some ⟨w.heap.size, 0, none⟩) 512 512) (w.alloc (.cells (madeB 512) 5)) := fun w => make_bytes 512 (by omega) w
  have HPB : Hid (∀ k (h : k < (PTwin.pageB c n).length), (PTwin.pageB c n)[k] = UInt8.ofNat (c + k / 128 * n)) := Lib.hid (fun k h => by simp [PTwin.pageB])
  have HPL := Lib.hid (PTwin.pageB_length c n)
  obtain ⟨L, hL⟩ : ∃ L, PTwin.pageB c n = L := ⟨_, rfl⟩
  have HS0 : Hid (Sl (w.alloc (.cells (madeB 512) 5)) w.heap.size 5 1 (.slice (some ⟨w.heap.size, 0, none⟩) 512 512) 512 (bytesV (L.take 0 ++ List.replicate (512 - 0) 0))) := Lib.hid (by
    have := Sl.of_made w w.heap.size (Nat.le_refl _) 5 512 (by unfold maxLen; omega)
    simpa using this)
  have HB0 := Lib.hid ((Below.refl w.heap.size w).alloc (Nat.le_refl _) (.cells (madeB 512) 5))
  rw [hL] at HPB HPL ⊢
  clear hL
  go_enter Try.func24, Try.ntmps24
  go_wp2
  clear hmk
  go_loopw [6] (fun iv wr => ∃ k : Nat, k ≤ 512 ∧ iv = .int .i64 k ∧ Hid (Sl wr w.heap.size 5 1 (.slice (some ⟨w.heap.size, 0, none⟩) 512 512) 512 (bytesV (L.take k ++ List.replicate (512 - k) 0))) ∧ Hid (Below w.heap.size w wr)) (fun iv _ => 512 - (intOf iv).toNat)
  case atStart => exact ⟨0, by omega, rfl, HS0, HB0⟩
  case round =>
    clear HS0 HB0
    obtain ⟨k, hk, rfl, HS, HB⟩ := hrel
    by_cases hlt : k < 512
    · have i1 : (k : Int) < 512 := by omega
      have k0 : (0 : Int) ≤ k := by omega
      obtain ⟨Q, hQ⟩ : ∃ Q : Nat, k / 128 = Q := ⟨_, rfl⟩
      obtain ⟨M, hM⟩ : ∃ M : Nat, Q * n = M := ⟨_, rfl⟩
      have hM2 : M ≤ 1020 := by rw [← hM]; exact Nat.le_trans (Nat.mul_le_mul (show Q ≤ 4 by omega) (show n ≤ 255 by omega)) (by omega)
      obtain ⟨R, hR⟩ : ∃ R : Nat, M % 256 = R := ⟨_, rfl⟩
      obtain ⟨V, hV⟩ : ∃ V : Nat, (c + R) % 256 = V := ⟨_, rfl⟩
      have q1 : (k : Int) / 128 = Q := by omega
      have q2 : (k : Int).tdiv 128 = Q := by rw [Int.tdiv_eq_ediv_of_nonneg (by omega)]; exact q1
      have w1 : IntKind.i64.wrap ((Q : Int) * n) = M := by rw [← hM, IntWalk.i64_in _ (by rw [← Int.natCast_mul, hM]; omega)]; exact (Int.natCast_mul Q n).symm
      have w1b : (Q : Int) * n = M := by rw [← hM]; exact (Int.natCast_mul Q n).symm
      have w2 : IntKind.u8.wrap (M : Int) = R := by rw [IntKind.wrap_u8]; omega
      have w3 : IntKind.u8.wrap ((c : Int) + R) = V := by rw [IntKind.wrap_u8]; omega
      have hkl : k < L.length := by rw [HPL.out]; exact hlt
      have HVL : Hid ((L[k].toNat : Int) = V) := Lib.hid (by
        rw [HPB.out k hkl, UInt8.toNat_ofNat', hQ, hM, ← hV, ← hR]
        omega)
      have HSET : Hid ((L.take k ++ List.replicate (512 - k) 0).set k L[k] = L.take (k + 1) ++ List.replicate (512 - (k + 1)) 0) := Lib.hid (PTwin.set_take L 512 k 0 hlt HPL.out.symm)
      have hcell := HS.out.byte (j := k) (by omega)
      have hfro := HS.out.unshut (j := k) (by omega)
      rw [Nat.zero_add] at hcell hfro
      have HNS : Hid (Sl (wr.setCell ⟨w.heap.size, k, none⟩ (.int .u8 V)) w.heap.size 5 1 (.slice (some ⟨w.heap.size, 0, none⟩) 512 512) 512 (bytesV (L.take (k + 1) ++ List.replicate (512 - (k + 1)) 0))) := Lib.hid (by
        have h := HS.out.set (j := k) (by omega) (.int .u8 (L[k].toNat : Int))
        rw [bytesV_set, Nat.zero_add, HSET.out, HVL.out] at h
        exact h)
      have HNB := Lib.hid (HB.out.setCell (p := ⟨w.heap.size, k, none⟩) (Nat.le_refl _) (.int .u8 V))
      have HLT := Lib.hid hlt
      clear hQ hM hR hV hlt HVL HSET hkl HS HB
      generalize (L.take k ++ List.replicate (512 - k) 0).getD k 0 = x at *
      go_wp2
      exact ⟨⟨k + 1, by have := HLT.out; omega, by go_num, HNS, HNB⟩, by have := HLT.out; simp [intOf]; omega⟩
    · obtain rfl : k = 512 := by omega
      have hcv := conv_sl HS.out
      have HT : Hid (L.take 512 ++ List.replicate (512 - 512) 0 = L) := Lib.hid (by rw [List.take_of_length_le (by rw [HPL.out]; exact Nat.le_refl _)]; simp)
      rw [HT.out] at hcv
      clear HS
      go_wp2
      go_ret
      exact ⟨rfl, HB.out⟩
end Go.Proofs.Ytdkhmhlphhammaa
