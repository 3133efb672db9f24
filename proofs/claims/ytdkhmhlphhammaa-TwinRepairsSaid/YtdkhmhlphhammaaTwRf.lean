/-
  Twin, the document's answer: zeros, Mark, ReadMark.
-/
import Derived.Test.YtdkhmhlphhammaaTwP
import Derived.Test.YtdkhmhlphhammaaRd
namespace PTwin
def rmark (ps : List Nat) : List UInt8 := if ps.length = 0 then clear else mark ps
def rread (s : List UInt8) : List Nat × Int :=
  if s = clear then ([], 0)
  else if count s < 1 ∨ 8 < count s then ([], 120)
  else if mark (named s (count s)) ≠ s then ([], 120)
  else (named s (count s), 0)
theorem named_length (s : List UInt8) (n : Nat) : (named s n).length = n := by simp [named]
theorem named_succ (s : List UInt8) (n : Nat) : named s (n + 1) = named s n ++ [(PWord.get s (2 + 4 * (n : Nat) : Nat) 4).1] := by simp [named, List.range_succ]
end PTwin
namespace Go.Proofs.Ytdkhmhlphhammaa
open Go.RowKit
open PTwin (Hm)
def u32V (ps : List Nat) : List Value := ps.map fun (p : Nat) => .int .u32 p
theorem zeros_any (n : Nat) (h : n ≤ 1000) (w : World) : Calls Try.prog 27 #[.int .i64 n] w fun e w' => e = .returned (.string ⟨(List.replicate n 0).toArray⟩) ∧ Below w.heap.size w w' := by
  have hmk := make_bytes n (by omega)
  have hcv : (convert 35 9 (.slice (some ⟨w.heap.size, 0, none⟩) n n)).run Try.prog (w.alloc (.cells (madeB n) 5)) = .ok (.string ⟨(List.replicate n 0).toArray⟩) (w.alloc (.cells (madeB n) 5)) := conv_sl (Sl.of_made w w.heap.size (Nat.le_refl _) 5 n (by unfold maxLen; omega))
  have HB := Lib.hid ((Below.refl w.heap.size w).alloc (Nat.le_refl _) (.cells (madeB n) 5))
  obtain ⟨t, ht⟩ : ∃ t : ByteArray, (⟨(List.replicate n 0).toArray⟩ : ByteArray) = t := ⟨_, rfl⟩
  rw [ht] at hcv ⊢
  clear ht
  go_enter Try.func27, Try.ntmps27
  go_wp2
  go_ret
  exact ⟨rfl, HB.out⟩
theorem rd_cell {w : World} {p : Option Addr} {n c : Nat} {xs : List Value} (h : Rd w (.slice p n c) xs) {i : Nat} (hi : i < xs.length) : ∃ g off, p = some ⟨g, off, none⟩ ∧ g < w.heap.size ∧ w.cell? ⟨g, off + i, none⟩ = some xs[i] := by
  obtain ⟨p', c', e, _, _, h4⟩ := h
  simp only [Value.slice.injEq] at e
  obtain ⟨rfl, _, _⟩ := e
  obtain ⟨g, off, rfl, hg, hc⟩ := h4 (by intro e; subst e; simp at hi)
  exact ⟨g, off, rfl, hg, hc i hi⟩
set_option maxRecDepth 20000 in
set_option maxHeartbeats 4000000 in
theorem rmark_any (w : World) (ps : List Nat) (v : Value) (hl : ps.length ≤ 8) (hp : ∀ p ∈ ps, p < 4294967296) (h : Rd w v (u32V ps)) :
    Calls Try.prog 10 #[v] w fun e w' => e = .returned (.string ⟨(PTwin.rmark ps).toArray⟩) ∧ Below w.heap.size w w' := by
  have hlv : (u32V ps).length = ps.length := by simp [u32V]
  have HIN := Lib.hid h
  obtain ⟨pv, cv, rfl, hcv, hcm, _⟩ := h
  rw [hlv] at HIN hcv ⊢
  have HLV := Lib.hid hlv
  have HP := Lib.hid hp
  have HZ128 : Hid (∀ W, Calls Try.prog 27 #[.int .i64 128] W fun e w' => e = .returned (.string ⟨PTwin.clear.toArray⟩) ∧ Below W.heap.size W w') := Lib.hid (fun W => zeros_any 128 (by omega) W)
  by_cases h0 : ps.length = 0
  · have i0 : ((ps.length : Int) == 0) = true := by rw [beq_iff_eq]; omega
    have HR : Hid (PTwin.rmark ps = PTwin.clear) := Lib.hid (by unfold PTwin.rmark; rw [if_pos h0])
    rw [HR.out]
    obtain ⟨t, ht⟩ : ∃ t : ByteArray, (⟨PTwin.clear.toArray⟩ : ByteArray) = t := ⟨_, rfl⟩
    rw [ht] at HZ128 ⊢
    clear h0 ht hlv hp
    go_enter Try.func10, Try.ntmps10
    go_wp2_with fail
    refine (HZ128.out _).mono ?_
    rintro e w1 ⟨rfl, hb⟩
    have HB := Lib.hid hb
    clear hb
    go_wp2
    go_ret
    exact ⟨rfl, HB.out⟩
  have i0 : ((ps.length : Int) == 0) = false := by rw [beq_eq_false_iff_ne]; omega
  have HR : Hid (PTwin.rmark ps = PTwin.mark ps) := Lib.hid (by unfold PTwin.rmark; rw [if_neg h0])
  rw [HR.out]
  have hu8 : IntKind.u8.wrap (ps.length : Int) = (ps.length : Nat) := by rw [IntKind.wrap_u8]; omega
  have hcv2 := conv_two w ps.length (by omega)
  have HBL := Lib.hid ((Below.refl w.heap.size w).alloc (Nat.le_refl _) (.cells #[.int .u8 1, .int .u8 (ps.length : Nat)] 5))
  clear hp hlv h0 HZ128
  go_enter Try.func10, Try.ntmps10
  go_wp2
  go_loopw [3, 4] (fun sv iv wr => ∃ k : Nat, k ≤ ps.length ∧ sv = .string ⟨(frontK ps.length ps k).toArray⟩ ∧ iv = .int .i64 k ∧ Hid (Below w.heap.size w wr)) (fun _ iv _ => ps.length - (intOf iv).toNat)
  case atStart => exact ⟨0, by omega, rfl, rfl, HBL⟩
  case round =>
    clear hcv2 HBL
    obtain ⟨k, hk, rfl, rfl, HB⟩ := hrel
    by_cases hlt : k < ps.length
    · have i1 : (k : Int) < ps.length := by omega
      have k0 : (0 : Int) ≤ k := by omega
      obtain ⟨g, off, rfl, hg, c0⟩ := rd_cell (HIN.out.below HB.out) (i := k) (by rw [HLV.out]; exact hlt)
      obtain ⟨p, hpp⟩ : ∃ p, ps[k] = p := ⟨_, rfl⟩
      have hp4 : p < 4294967296 := by rw [← hpp]; exact HP.out _ (List.getElem_mem hlt)
      have hc0 : wr.cell? ⟨g, off + k, none⟩ = some (.int .u32 p) := by rw [c0]; simp [u32V, hpp]
      have HPU : Hid (PWord.put p 4 = (PWord.be 4 p, true)) := Lib.hid (put_yes p 4 (by omega) (by omega) (Nat.div_eq_of_lt (by omega)))
      obtain ⟨t, ht⟩ : ∃ t, (⟨(frontK ps.length ps k).toArray⟩ : ByteArray) = t := ⟨_, rfl⟩
      have hts : t.size ≤ 100 := by rw [← ht, size_mk, frontK_length _ _ _ (by omega)]; omega
      obtain ⟨x, hx⟩ : ∃ x : ByteArray, (⟨(PWord.be 4 p).toArray⟩ : ByteArray) = x := ⟨_, rfl⟩
      have hxs : x.size = 4 := by rw [← hx, size_mk, PWord.be_length]
      have HX := Lib.hid hx
      have HAP : Hid (t ++ x = ⟨(frontK ps.length ps (k + 1)).toArray⟩) := Lib.hid (by
        have e := frontK_succ ps.length ps k hlt
        rw [hpp] at e
        rw [← ht, ← hx, app_mk, e])
      have hw : IntKind.u64.wrap (p : Int) = p := by rw [IntKind.wrap_u64]; omega
      rw [ht]
      have HLT := Lib.hid hlt
      clear hpp ht hlt hx c0
      go_wp2_with fail
      refine (rput_any p 4 (by omega) _).mono ?_
      rintro e w2 ⟨rfl, hb⟩
      have HR2 := Lib.hid (HB.out.step hb)
      rw [HPU.out, HX.out]
      clear hb
      go_wp2
      exact ⟨⟨k + 1, by have := HLT.out; omega, by rw [HAP.out], by go_num, HR2⟩, by have := HLT.out; simp [intOf]; omega⟩
    · obtain rfl : k = ps.length := by omega
      have i1 : ¬ (ps.length : Int) < ps.length := by omega
      obtain ⟨t, ht⟩ : ∃ t, (⟨(frontK ps.length ps ps.length).toArray⟩ : ByteArray) = t := ⟨_, rfl⟩
      have hts0 : t.size = 2 + 4 * ps.length := by rw [← ht, size_mk, frontK_length _ _ _ (Nat.le_refl _)]
      obtain ⟨M, hM⟩ : ∃ M : Nat, 124 - (2 + 4 * ps.length) = M := ⟨_, rfl⟩
      have hM2 : M ≤ 124 := by omega
      obtain ⟨N, hN⟩ : ∃ N : Nat, t.size = N := ⟨_, rfl⟩
      have hw1 : IntKind.i64.wrap (124 - (N : Int)) = M := by rw [IntWalk.i64_in _ (by omega)]; omega
      obtain ⟨z, hz⟩ : ∃ z, (⟨(List.replicate M 0).toArray⟩ : ByteArray) = z := ⟨_, rfl⟩
      have HZN : Hid (∀ W, Calls Try.prog 27 #[.int .i64 M] W fun e w' => e = .returned (.string z) ∧ Below W.heap.size W w') := Lib.hid (fun W => by rw [← hz]; exact zeros_any M (by omega) W)
      have hzs : z.size = M := by rw [← hz, size_mk, List.length_replicate]
      have HRS : Hid (PSum.sealL (t ++ z).data.toList = PTwin.mark ps) := Lib.hid (by
        rw [← ht, ← hz, app_mk]
        have e := frontK_all ps
        show PSum.sealL (frontK ps.length ps ps.length ++ List.replicate M 0) = _
        rw [e]
        unfold PTwin.mark
        rw [PTwin.front_length, hM])
      have HSZ : Hid ((t ++ z).size ≤ 1000000) := Lib.hid (by rw [ByteArray.size_append]; omega)
      rw [ht]
      have hNs : N ≤ 100 := by omega
      clear ht hz hM hk hts0
      go_wp2_with fail
      refine (HZN.out _).mono ?_
      rintro e w2 ⟨rfl, hb⟩
      have HB2 := Lib.hid (HB.out.step hb)
      clear hb
      go_wp2_with fail
      refine (rseal_any (t ++ z) HSZ.out _).mono ?_
      rintro e w3 ⟨rfl, hb⟩
      have HB3 := Lib.hid (HB2.out.step hb)
      rw [HRS.out]
      clear hb
      go_wp2
      go_ret
      exact ⟨rfl, HB3.out⟩
end Go.Proofs.Ytdkhmhlphhammaa
