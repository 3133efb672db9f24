/-
  Twin, the law's rows: ring, same.
-/
import Derived.Test.YtdkhmhlphhammaaTwRi
import Derived.Handy
namespace Go.Proofs.Ytdkhmhlphhammaa
open Go.RowKit
open PTwin (Hm Cal)
def rows (D : PDsk.Dsk) (k : Nat) : List (List UInt8) := (List.range k).map (PDsk.now D)
theorem rows_succ (D : PDsk.Dsk) (k : Nat) : secV (rows D (k + 1)) = secV (rows D k) ++ [.string ⟨(PDsk.now D k).toArray⟩] := by simp [secV, rows, List.range_succ]
theorem elem_strs14 : ElemT Try.prog 38 9 1 16 := ElemT.mk' (z := .string ByteArray.empty) Try.underlying38 (by kernel_rfl) rfl (by decide)
set_option maxRecDepth 20000 in
set_option maxHeartbeats 4000000 in
theorem ring_any {b : Nat} {D : PDsk.Dsk} {own : List Nat} (w : World) (h : IsDisk w b D own) (hf : D.fuse ≠ 0) (hn : D.sure.length ≤ 16384) :
    Calls Try.prog 12 #[.pointer (some ⟨b, 0, none⟩)] w fun e w' => ∃ v, e = .returned v ∧ Sl w' w.heap.size 9 1 v D.sure.length (secV (rows D D.sure.length)) ∧ Below w.heap.size w w' := by
  have HD := Lib.hid h
  have HF := Lib.hid hf
  have HB0 := Lib.hid (Below.refl w.heap.size w)
  have HLN : Hid (∀ W, IsDisk W b D own → Calls Try.prog 22 #[.pointer (some ⟨b, 0, none⟩)] W fun e w' => e = .returned (.int .i64 (D.sure.length : Int)) ∧ W = w') := Lib.hid (fun W hW => len_any W hW)
  obtain ⟨N, hN⟩ : ∃ N, D.sure.length = N := ⟨_, rfl⟩
  have HRD : Hid (∀ W, IsDisk W b D own → ∀ k : Nat, k < N → Calls Try.prog 23 #[.pointer (some ⟨b, 0, none⟩), .int .i64 k] W (ReadPost (PDsk.now D k) 0 W)) := Lib.hid (fun W hW k hk => read_in W hW k hf (by rw [hN]; exact hk))
  rw [hN] at HLN hn ⊢
  clear h hf hN
  go_enter Try.func12, Try.ntmps12
  go_wp2
  go_loopw [3, 4] (fun uv iv wr => ∃ k : Nat, k ≤ N ∧ iv = .int .i64 k ∧ Hid (Sl wr w.heap.size 9 1 uv k (secV (rows D k))) ∧ Hid (Below w.heap.size w wr)) (fun _ iv _ => N - (intOf iv).toNat)
  case atStart => exact ⟨0, by omega, rfl, Lib.hid (Sl.nil _ _ _ _), HB0⟩
  case round =>
    clear HB0
    obtain ⟨k, hk, rfl, HS, HB⟩ := hrel
    obtain ⟨pu, cu, rfl⟩ := Sl.form HS.out
    have HDK := Lib.hid (HD.out.below HB.out)
    by_cases hlt : k < N
    · have q1 : (k : Int) < N := by omega
      have HLT := Lib.hid hlt
      have HRK := Lib.hid (HRD.out wr HDK.out k hlt)
      have HFS := Lib.hid (rows_succ D k)
      obtain ⟨y, hy⟩ : ∃ y : ByteArray, (⟨(PDsk.now D k).toArray⟩ : ByteArray) = y := ⟨_, rfl⟩
      unfold ReadPost at HRK
      rw [hy] at HRK HFS
      clear hlt hy
      go_wp2_with fail
      refine (HLN.out _ HDK.out).mono ?_
      rintro e w1 ⟨rfl, rfl⟩
      go_wp2_with fail
      refine HRK.out.mono ?_
      rintro e w2 ⟨rfl, hb⟩
      have HS2 := Lib.hid (HS.out.keep (fun j e => hb.block j (HS.out.lt j e).2))
      have HB2 := Lib.hid (HB.out.step hb)
      have hb2 := HB2.out.size
      clear hb HS HB HRK HDK
      go_wp2_with (at_builtin; (with_reducible apply wpList_append_sl elem_strs14 (HS2.out.alloc _) [.string y]); (· rfl); (· rfl); (· rfl); (· rfl); (· rfl); (· exact news_at _ [_] _ _ rfl); (· intro u hu; simp at hu; subst hu; rfl); (· unfold maxLen; omega); (· omega); (· rw [World.size_alloc]; omega); intro v' w6 g1 g2 _ g4)
      have HSN : Hid (Sl w6 w.heap.size 9 1 v' (k + 1) (secV (rows D (k + 1)))) := Lib.hid (by rw [HFS.out]; exact g1)
      have HBN : Hid (Below w.heap.size w w6) := Lib.hid ((HB2.out.alloc hb2 _).grown g2 (by rw [World.size_alloc]; omega) (fun j e => (HS2.out.lt j e).1))
      clear g1 g2 g4 HS2 HB2 HFS
      go_wp2
      exact ⟨⟨k + 1, by have := HLT.out; omega, by go_num, HSN, HBN⟩, by have := HLT.out; simp [intOf]; omega⟩
    · obtain rfl : k = N := by omega
      have q1 : ¬ (k : Int) < k := by omega
      clear hlt hk
      go_wp2_with fail
      refine (HLN.out _ HDK.out).mono ?_
      rintro e w1 ⟨rfl, rfl⟩
      go_wp2
      go_ret
      exact ⟨_, rfl, HS.out, HB.out⟩
set_option maxRecDepth 20000 in
set_option maxHeartbeats 4000000 in
/-- of equal rows -/
theorem same_any14 (w : World) (S : List (List UInt8)) (u v : Value) (hu : Rd w u (secV S)) (hv : Rd w v (secV S)) :
    Calls Try.prog 15 #[u, v] w fun e w' => e = .returned (.bool true) ∧ Below w.heap.size w w' := by
  have HU := Lib.hid hu
  have HV := Lib.hid hv
  have hlv : (secV S).length = S.length := by simp [secV]
  obtain ⟨pu, cu, rfl, hcu, hmu, _⟩ := hu
  obtain ⟨pv, cv, rfl, hcv, hmv, _⟩ := hv
  rw [hlv] at HU HV hcu hcv ⊢
  unfold maxLen at hmu hmv
  have e1 : ((S.length : Int) != S.length) = false := by simp
  have HB0 := Lib.hid (Below.refl w.heap.size w)
  clear hlv hmv hcv
  go_enter Try.func15, Try.ntmps15
  go_wp2
  go_loopw [5] (fun iv wr => ∃ k : Nat, k ≤ S.length ∧ iv = .int .i64 k ∧ Hid (Below w.heap.size w wr)) (fun iv _ => S.length - (intOf iv).toNat)
  case atStart => exact ⟨0, by omega, rfl, HB0⟩
  case round =>
    clear HB0
    obtain ⟨k, hk, rfl, HB⟩ := hrel
    by_cases hlt : k < S.length
    · have q1 : (k : Int) < S.length := by omega
      have k0 : (0 : Int) ≤ k := by omega
      obtain ⟨g, off, hpu, hg, c0⟩ := sec_cell (Rd.below HU.out HB.out) hlt
      obtain ⟨g2, off2, hpv, hg2, d0⟩ := sec_cell (Rd.below HV.out HB.out) hlt
      subst hpu
      subst hpv
      obtain ⟨y, hy⟩ : ∃ y : ByteArray, (⟨(PTwin.sec S k).toArray⟩ : ByteArray) = y := ⟨_, rfl⟩
      rw [hy] at c0 d0
      have HLT := Lib.hid hlt
      have HBF := Lib.hid (fun n => below_drewN14 HB.out n)
      clear hy hlt hg hg2 HB
      go_wp2
      go_quiet (fail)
      go_wp2
      exact ⟨⟨k + 1, by have := HLT.out; omega, by go_num, Lib.hid (HBF.out _)⟩, by have := HLT.out; simp [intOf]; omega⟩
    · obtain rfl : k = S.length := by omega
      have q1 : ¬ (S.length : Int) < S.length := by omega
      clear hlt hk
      go_wp2
      go_ret
      exact ⟨rfl, HB.out⟩
end Go.Proofs.Ytdkhmhlphhammaa
