/-
  Twin: Read: a page's four sectors.
-/
import Derived.Test.YtdkhmhlphhammaaTwA
namespace PDsk
theorem now_length {D : Dsk} (h : D.Ok) {k : Nat} (hk : k < D.sure.length) : (now D k).length = 128 := by
  unfold now
  split
  · rename_i p hp
    have := List.mem_of_find?_eq_some hp
    exact (h.2.2.2.1 p (List.mem_reverse.1 this)).2
  · rw [List.getD_eq_getElem?_getD, List.getElem?_eq_getElem hk]
    exact h.2.2.1 _ (List.getElem_mem hk)
theorem read_now {D : Dsk} (hf : D.fuse ≠ 0) {k : Nat} (hk : k < D.sure.length) : read D k = (now D k, 0) := by
  unfold read
  rw [if_neg hf, if_neg (by omega), Int.toNat_natCast]
end PDsk
namespace Go.Proofs.Ytdkhmhlphhammaa
open Go.RowKit
def accP (D : PDsk.Dsk) (F k : Nat) : List UInt8 := (List.range k).flatMap fun i => PDsk.now D (F + i)
theorem accP_succ (D : PDsk.Dsk) (F k : Nat) : accP D F (k + 1) = accP D F k ++ PDsk.now D (F + k) := by simp [accP, List.range_succ]
theorem accP_four (D : PDsk.Dsk) (base p : Nat) : accP D (base + p * 4) 4 = PTwin.pageAt D base p := by simp [accP, List.range_succ, PTwin.pageAt]
theorem accP_length {D : PDsk.Dsk} (h : D.Ok) (F : Nat) (hF : F + 4 ≤ D.sure.length) : ∀ k, k ≤ 4 → (accP D F k).length = 128 * k
  | 0, _ => rfl
  | k + 1, hk => by rw [accP_succ, List.length_append, accP_length h F hF k (by omega), PDsk.now_length h (by omega)]; omega
theorem pageAt_length {D : PDsk.Dsk} (h : D.Ok) {base p : Nat} (hF : base + p * 4 + 4 ≤ D.sure.length) : (PTwin.pageAt D base p).length = 512 := by
  rw [← accP_four, accP_length h _ hF 4 (by omega)]
theorem readT_any {b : Nat} {D : PDsk.Dsk} {own : List Nat} (w : World) (h : IsDisk w b D own) (hf : D.fuse ≠ 0) (base page : Nat) (hF : base + page * 4 + 4 ≤ D.sure.length) :
    Calls Try.prog 19 #[.pointer (some ⟨b, 0, none⟩), .int .i64 base, .int .u32 page] w (ReadPost (PTwin.pageAt D base page) 0 w) := by
  have H := Lib.hid h
  have hns := h.1.2.1
  obtain ⟨n, hn⟩ : ∃ n, n = D.sure.length := ⟨_, rfl⟩
  have HL : Hid (∀ W, IsDisk W b D own → Calls Try.prog 22 #[.pointer (some ⟨b, 0, none⟩)] W fun e w' => e = .returned (.int .i64 (n : Nat)) ∧ W = w') := Lib.hid (fun W hW => by rw [hn]; exact len_any W hW)
  obtain ⟨Q, hQ⟩ : ∃ Q : Nat, page * 4 = Q := ⟨_, rfl⟩
  obtain ⟨F, hFF⟩ : ∃ F : Nat, base + Q = F := ⟨_, rfl⟩
  have HD : Hid (∀ W (k K : Nat), IsDisk W b D own → k < 4 → K = F + k → Calls Try.prog 23 #[.pointer (some ⟨b, 0, none⟩), .int .i64 K] W fun e w' => e = .returned (.tuple #[.string ⟨(PDsk.now D (F + k)).toArray⟩, .int .i64 0]) ∧ Below W.heap.size W w') := Lib.hid (fun W k K hW hk hK => by
    subst hK
    have := read_any W hW ((F + k : Nat) : Int) (by omega)
    rw [PDsk.read_now hf (by omega)] at this
    exact this)
  have HA : Hid (accP D F 4 = PTwin.pageAt D base page) := Lib.hid (by rw [← hFF, ← hQ]; exact accP_four D base page)
  have HLen : Hid (∀ k, k ≤ 4 → (accP D F k).length = 128 * k) := Lib.hid (accP_length h.1 F (by omega))
  have HNow : Hid (∀ k, k < 4 → (PDsk.now D (F + k)).length = 128) := Lib.hid (fun k hk => PDsk.now_length h.1 (by omega))
  obtain ⟨m, hm⟩ : ∃ m : Int, (n : Int) - 4 = m := ⟨_, rfl⟩
  have w1 : IntKind.i64.wrap (page : Int) = page := IntWalk.i64_in _ (by omega)
  have w2 : IntKind.i64.wrap ((page : Int) * 4) = Q := by rw [IntWalk.i64_in _ (by omega)]; omega
  have w3 : IntKind.i64.wrap ((base : Int) + Q) = F := by rw [IntWalk.i64_in _ (by omega)]; omega
  have w4 : IntKind.i64.wrap ((n : Int) - 4) = m := by rw [IntWalk.i64_in _ (by omega)]; omega
  have i0 : ¬ (base : Int) < 0 := by omega
  have i1 : ¬ (n : Int) < base := by omega
  have i2 : ¬ m < (F : Int) := by omega
  have hFs : F ≤ 16384 := by omega
  clear h hf hQ hFF hm hn hns hF
  go_enter Try.func19, Try.ntmps19
  go_wp2_with fail
  refine (HL.out _ H.out).mono ?_; rintro e w1 ⟨rfl, rfl⟩
  go_wp2_with fail
  refine (HL.out _ H.out).mono ?_; rintro e w1 ⟨rfl, rfl⟩
  go_wp2
  go_loopw [8, 31] (fun ov iv wr => ∃ k : Nat, k ≤ 4 ∧ ov = .string ⟨(accP D F k).toArray⟩ ∧ iv = .int .i64 k ∧ Hid (Below w.heap.size w wr)) (fun _ iv _ => 4 - (intOf iv).toNat)
  case atStart => exact ⟨0, by omega, rfl, rfl, Lib.hid (Below.refl _ _)⟩
  case round =>
    obtain ⟨k, hk, rfl, rfl, HB⟩ := hrel
    by_cases hlt : k < 4
    · have j1 : (k : Int) < 4 := by omega
      obtain ⟨K, hK⟩ : ∃ K : Nat, K = F + k := ⟨_, rfl⟩
      have w5 : IntKind.i64.wrap ((F : Int) + k) = K := by rw [IntWalk.i64_in _ (by omega)]; omega
      have HK := Lib.hid hK
      have HLT := Lib.hid hlt
      obtain ⟨t, ht⟩ : ∃ t, (⟨(accP D F k).toArray⟩ : ByteArray) = t := ⟨_, rfl⟩
      obtain ⟨x, hx⟩ : ∃ t, (⟨(PDsk.now D (F + k)).toArray⟩ : ByteArray) = t := ⟨_, rfl⟩
      have hts : t.size ≤ 512 := by rw [← ht, size_mk, HLen.out k hk]; omega
      have hxs : x.size = 128 := by rw [← hx, size_mk, HNow.out k hlt]
      have HAP : Hid (t ++ x = ⟨(accP D F (k + 1)).toArray⟩) := Lib.hid (by rw [← ht, ← hx, app_mk, accP_succ])
      have HX := Lib.hid hx
      rw [ht]
      clear hK hlt ht hx
      go_wp2_with fail
      refine (HD.out _ k K (H.out.below HB.out) HLT.out HK.out).mono ?_
      rintro e w2 ⟨rfl, hb⟩
      replace HB := Lib.hid (HB.out.step hb)
      rw [HX.out]
      clear hb
      go_wp2
      exact ⟨⟨k + 1, by have := HLT.out; omega, by rw [HAP.out], by go_num, HB⟩, by have := HLT.out; simp [intOf]; omega⟩
    · obtain rfl : k = 4 := by omega
      rw [HA.out]
      go_wp2
      go_ret2
      exact ⟨rfl, HB.out⟩
end Go.Proofs.Ytdkhmhlphhammaa
