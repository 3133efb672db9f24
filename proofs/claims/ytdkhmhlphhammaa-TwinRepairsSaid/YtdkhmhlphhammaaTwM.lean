/-
  Twin: the mark of pages.
-/
import Derived.Test.YtdkhmhlphhammaaTwH
namespace Go.Proofs.Ytdkhmhlphhammaa
open Go.RowKit
open PTwin (Hm)
def frontK (n : Nat) (ps : List Nat) (k : Nat) : List UInt8 := [1, UInt8.ofNat n] ++ (ps.take k).flatMap (PWord.be 4)
theorem frontK_succ (n : Nat) (ps : List Nat) (k : Nat) (h : k < ps.length) : frontK n ps (k + 1) = frontK n ps k ++ PWord.be 4 ps[k] := by
  unfold frontK
  rw [List.take_succ_eq_append_getElem h, List.flatMap_append]; simp
theorem frontK_all (ps : List Nat) : frontK ps.length ps ps.length = PTwin.front ps := by unfold frontK PTwin.front; rw [List.take_length]
theorem frontK_length (n : Nat) (ps : List Nat) : ∀ k, k ≤ ps.length → (frontK n ps k).length = 2 + 4 * k
  | 0, _ => by simp [frontK]
  | k + 1, h => by rw [frontK_succ n ps k h, List.length_append, frontK_length n ps k (by omega), PWord.be_length]; omega
theorem conv_two (w : World) (n : Nat) (hn : n < 256) : (convert 35 9 (.slice (some ⟨w.heap.size, 0, none⟩) 2 2)).run Try.prog (w.alloc (.cells #[.int .u8 1, .int .u8 n] 5)) = .ok (.string ⟨([1, UInt8.ofNat n] : List UInt8).toArray⟩) (w.alloc (.cells #[.int .u8 1, .int .u8 n] 5)) := by
  have e : bytesV [1, UInt8.ofNat n] = [.int .u8 1, .int .u8 n] := by
    simp only [bytesV, List.map_cons, List.map_nil, UInt8.toNat_ofNat']
    rw [Nat.mod_eq_of_lt (by omega)]
    rfl
  have h := Sl.of_built w w.heap.size (Nat.le_refl _) 5 1 2 [.int .u8 1, .int .u8 n] rfl (by unfold maxLen; omega)
  rw [← e] at h
  have h2 := conv_sl h
  rw [e] at h2
  exact h2
set_option maxRecDepth 20000 in
set_option maxHeartbeats 4000000 in
theorem mark_any (w : World) (l : List Hm) (v : Value) (hl : l.length ≤ 8) (hp : ∀ h ∈ l, h.page < 4294967296) (h : HomeIn w v l) :
    Calls Try.prog 36 #[v] w fun e w' => e = .returned (.string ⟨(PTwin.mark (l.map (·.page))).toArray⟩) ∧ Below w.heap.size w w' := by
  obtain ⟨pv, cv, rfl, hcv, hcm⟩ := RdS.form h
  have HIN := Lib.hid h
  have HP := Lib.hid hp
  obtain ⟨ps, hps⟩ : ∃ ps, l.map (·.page) = ps := ⟨_, rfl⟩
  have HPL : Hid (ps.length = l.length) := Lib.hid (by rw [← hps, List.length_map])
  have HPA : Hid (∀ k (h : k < l.length) (h2 : k < ps.length), ps[k] = l[k].page) := Lib.hid (fun k h h2 => by subst hps; simp)
  rw [hps]
  unfold maxLen at hcm
  have hu8 : IntKind.u8.wrap (l.length : Int) = (l.length : Nat) := by rw [IntKind.wrap_u8]; omega
  have hcv2 := conv_two w l.length (by omega)
  have HBL := Lib.hid ((Below.refl w.heap.size w).alloc (Nat.le_refl _) (.cells #[.int .u8 1, .int .u8 (l.length : Nat)] 5))
  clear h hp hps
  go_enter Try.func36, Try.ntmps36
  go_wp2
  go_loopw [3, 15] (fun sv iv wr => ∃ k : Nat, k ≤ l.length ∧ sv = .string ⟨(frontK l.length ps k).toArray⟩ ∧ iv = .int .i64 k ∧ Hid (Below w.heap.size w wr)) (fun _ iv _ => l.length - (intOf iv).toNat)
  case atStart => exact ⟨0, by omega, rfl, rfl, HBL⟩
  case round =>
    clear hcv2 HBL
    obtain ⟨k, hk, rfl, rfl, HB⟩ := hrel
    by_cases hlt : k < l.length
    · have i1 : (k : Int) < l.length := by omega
      have k0 : (0 : Int) ≤ k := by omega
      obtain ⟨g, off, rfl, hg, c0, c1⟩ := home_cells (l := l) (c := cv) (p := pv) (show HomeIn wr _ l from RdS.step HIN.out HB.out) hlt
      have hp4 := HP.out _ (List.getElem_mem hlt)
      obtain ⟨p, hpp⟩ : ∃ p, l[k].page = p := ⟨_, rfl⟩
      obtain ⟨B, hBB⟩ : ∃ B : ByteArray, (⟨l[k].bytes.toArray⟩ : ByteArray) = B := ⟨_, rfl⟩
      rw [hpp] at c0 hp4
      rw [hBB] at c1
      have HPU : Hid (PWord.put p 4 = (PWord.be 4 p, true)) := Lib.hid (put_yes p 4 (by omega) (by omega) (Nat.div_eq_of_lt (by omega)))
      have hkp : k < ps.length := by rw [HPL.out]; exact hlt
      obtain ⟨t, ht⟩ : ∃ t, (⟨(frontK l.length ps k).toArray⟩ : ByteArray) = t := ⟨_, rfl⟩
      have hts : t.size ≤ 100 := by rw [← ht, size_mk, frontK_length _ _ _ (by omega)]; omega
      obtain ⟨x, hx⟩ : ∃ x : ByteArray, (⟨(PWord.be 4 p).toArray⟩ : ByteArray) = x := ⟨_, rfl⟩
      have hxs : x.size = 4 := by rw [← hx, size_mk, PWord.be_length]
      have HX := Lib.hid hx
      have HAP : Hid (t ++ x = ⟨(frontK l.length ps (k + 1)).toArray⟩) := Lib.hid (by
        have e := frontK_succ l.length ps k hkp
        rw [HPA.out k hlt hkp, hpp] at e
        rw [← ht, ← hx, app_mk, e])
      have hw : IntKind.u64.wrap (p : Int) = p := by rw [IntKind.wrap_u64]; omega
      rw [ht]
      have HLT := Lib.hid hlt
      clear hpp hBB ht hlt hkp hx
      go_wp2_with fail
      refine (put_any p 4 (by omega) _).mono ?_
      rintro e w2 ⟨rfl, hb⟩
      have HR2 := Lib.hid ((HB.out.alloc HB.out.size _).step hb)
      rw [HPU.out, HX.out]
      clear hb
      go_wp2
      exact ⟨⟨k + 1, by have := HLT.out; omega, by rw [HAP.out], by go_num, HR2⟩, by have := HLT.out; simp [intOf]; omega⟩
    · obtain rfl : k = l.length := by omega
      have i1 : ¬ (l.length : Int) < l.length := by omega
      obtain ⟨t, ht⟩ : ∃ t, (⟨(frontK l.length ps l.length).toArray⟩ : ByteArray) = t := ⟨_, rfl⟩
      have hts0 : t.size = 2 + 4 * l.length := by rw [← ht, size_mk, frontK_length _ _ _ (by rw [HPL.out]; exact Nat.le_refl _)]
      obtain ⟨M, hM⟩ : ∃ M : Nat, 124 - (2 + 4 * l.length) = M := ⟨_, rfl⟩
      have hM2 : M ≤ 124 := by omega
      obtain ⟨N, hN⟩ : ∃ N : Nat, t.size = N := ⟨_, rfl⟩
      have hw1 : IntKind.i64.wrap (124 - (N : Int)) = M := by rw [IntWalk.i64_in _ (by omega)]; omega
      have hmk := make_bytes M (by omega)
      have hcv : ∀ W : World, (convert 35 9 (.slice (some ⟨W.heap.size, 0, none⟩) M M)).run Try.prog (W.alloc (.cells (madeB M) 5)) = .ok (.string ⟨(List.replicate M 0).toArray⟩) (W.alloc (.cells (madeB M) 5)) := fun W => conv_sl (Sl.of_made W W.heap.size (Nat.le_refl _) 5 M (by unfold maxLen; omega))
      obtain ⟨z, hz⟩ : ∃ z, (⟨(List.replicate M 0).toArray⟩ : ByteArray) = z := ⟨_, rfl⟩
      rw [hz] at hcv
      have hzs : z.size = M := by rw [← hz, size_mk, List.length_replicate]
      have HR : Hid (PSum.sealL (t ++ z).data.toList = PTwin.mark ps) := Lib.hid (by
        rw [← ht, ← hz, app_mk]
        have e := frontK_all ps
        rw [HPL.out] at e
        show PSum.sealL (frontK l.length ps l.length ++ List.replicate M 0) = _
        rw [e]
        unfold PTwin.mark
        rw [PTwin.front_length, HPL.out, hM])
      have HSZ : Hid ((t ++ z).size ≤ 1000000) := Lib.hid (by rw [ByteArray.size_append]; omega)
      have HB2 := Lib.hid (HB.out.alloc HB.out.size (.cells (madeB M) 5))
      rw [ht]
      have hNs : N ≤ 100 := by omega
      clear ht hz hM hk hts0
      go_wp2_with fail
      refine (seal_any (t ++ z) HSZ.out _).mono ?_
      rintro e w2 ⟨rfl, hb⟩
      have HB3 := Lib.hid (HB2.out.step hb)
      rw [HR.out]
      clear hb
      go_wp2
      go_ret
      exact ⟨rfl, HB3.out⟩
end Go.Proofs.Ytdkhmhlphhammaa
