/-
  Masters: Store; what works.
-/
import Derived.Test.YtmbialiledjigaaMst7
namespace Go.Proofs.Ytmbialiledjigaa
open Go.RowKit
open PMst (Mst)
theorem ret_i {k : IntKind} {a b : Int} (h : a = b) : Ending.returned (.int k a) = .returned (.int k b) := by rw [h]
theorem mstore_nil (a : Int) (m : Mst) (w : World) : Calls Try.prog 17 #[.pointer none, .int .i64 a, mv m] w fun e w' => e = .returned (.int .i64 1) ∧ Below w.heap.size w w' := by
  unfold mv
  go_enter Try.func17, Try.ntmps17
  go_wp2
  go_ret
  exact ⟨rfl, (Below.refl _ _).alloc (Nat.le_refl _) _⟩
theorem mstore_any {b : Nat} {D : PDsk.Dsk} {own : List Nat} (w : World) (h : IsDisk w b D own) (a : Int) (ha1 : 0 ≤ a) (ha2 : a ≤ 1000000) (m : Mst) (hm : m.Ok) (hll : D.loose.length ≤ 1000000) :
    Calls Try.prog 17 #[.pointer (some ⟨b, 0, none⟩), .int .i64 a, mv m] w (StepPost (.int .i64 (PMst.st D a m).2) b (PMst.st D a m).1 own w) := by
  have HME := Lib.hid (menc_any m hm)
  have hm1 := hm.1
  unfold mv at HME ⊢
  have hN : (w.alloc (.cells #[.int .u64 m.count, .int .u64 m.life, .int .u64 m.check, .int .u64 m.first, .bool m.clean] 24)).heap[w.heap.size]? = some (.cells #[.int .u64 m.count, .int .u64 m.life, .int .u64 m.check, .int .u64 m.first, .bool m.clean] 24 (0, 0)) := heap_alloc_new w _
  have HB := Lib.hid (((Below.refl w.heap.size w).alloc (Nat.le_refl _) (.cells #[.int .u64 m.count, .int .u64 m.life, .int .u64 m.check, .int .u64 m.first, .bool m.clean] 24)))
  have HD := Lib.hid h
  cases hmay : PMst.may m
  · have HST : Hid (PMst.st D a m = (D, 2)) := Lib.hid (by unfold PMst.st; rw [hmay]; rfl)
    have he : PMst.err m = 2 := by unfold PMst.err; rw [hmay]; rfl
    rw [he] at HME
    clear he hmay hN h hm
    go_enter Try.func17, Try.ntmps17
    go_wp2_with fail
    refine (HME.out _).mono ?_
    rintro e w1 ⟨rfl, hb⟩
    have HB1 := Lib.hid (HB.out.step hb)
    clear hb
    go_wp2
    go_ret
    exact ⟨own, ret_i (by rw [HST.out]), by rw [HST.out]; exact HD.out.below HB1.out, Stepped.of_below HB1.out own⟩
  · have HST : Hid (PMst.st D a m = if (PDsk.write D (a + (m.count % 2 : Nat)) (PMst.enc m)).2 = 0 then PDsk.sync (PDsk.write D (a + (m.count % 2 : Nat)) (PMst.enc m)).1 else PDsk.write D (a + (m.count % 2 : Nat)) (PMst.enc m)) := Lib.hid (by unfold PMst.st; rw [hmay]; rfl)
    have he : PMst.err m = 0 := by unfold PMst.err; rw [hmay]; rfl
    have HLE := Lib.hid (PMst.enc_length hmay)
    rw [he] at HME
    clear he hmay h hm
    have hmod : (m.count : Int) % 2 = ((m.count % 2 : Nat) : Int) := by omega
    have hmlt : ((m.count % 2 : Nat) : Int) ≤ 1 := by omega
    obtain ⟨q, hq⟩ : ∃ q, m.count % 2 = q := ⟨_, rfl⟩
    rw [hq] at HST hmod hmlt
    clear hq
    go_enter Try.func17, Try.ntmps17
    go_wp2_with fail
    refine (HME.out _).mono ?_
    rintro e w1 ⟨rfl, hb⟩
    have hlt := (Array.getElem?_eq_some_iff.1 hN).1
    have c0 := (cells5 ((hb.block _ hlt).trans hN)).1
    have HB1 := Lib.hid (HB.out.step hb)
    clear hb hlt hN
    go_wp2_with fail
    refine (write_any _ (HD.out.below HB1.out) (a + (q : Int)) (⟨(PMst.enc m).toArray⟩ : ByteArray) (by rw [size_mk, HLE.out]; unfold maxLen; omega) (by omega) (by omega) hll).mono ?_
    rintro e w2 ⟨own2, rfl, hd, hs⟩
    have hdata : (⟨(PMst.enc m).toArray⟩ : ByteArray).data.toList = PMst.enc m := rfl
    rw [hdata] at hd ⊢
    have HS2 := Lib.hid ((Stepped.of_below HB1.out own).trans hs)
    have HD2 := Lib.hid hd
    clear hd hs hdata
    obtain ⟨W, hW⟩ : ∃ W, PDsk.write D (a + (q : Int)) (PMst.enc m) = W := ⟨_, rfl⟩
    rw [hW] at HST HD2 ⊢
    clear hW
    obtain ⟨D2, r⟩ := W
    dsimp only at HST HD2 ⊢
    by_cases hr : r = 0
    · subst hr
      have HSF : Hid (PMst.st D a m = PDsk.sync D2) := Lib.hid (by rw [HST.out]; exact if_pos rfl)
      go_wp2_with fail
      refine (sync_any _ HD2.out).mono ?_
      rintro e w3 ⟨own3, rfl, hd, hs⟩
      have HS3 := Lib.hid (HS2.out.trans hs)
      have HD3 := Lib.hid hd
      clear hd hs
      go_wp2
      go_ret
      exact ⟨own3, ret_i (by rw [HSF.out]), by rw [HSF.out]; exact HD3.out, HS3.out⟩
    · have hrb : (r == 0) = false := by simpa using hr
      have HSF : Hid (PMst.st D a m = (D2, r)) := Lib.hid (by rw [HST.out]; exact if_neg hr)
      clear hr
      go_wp2
      go_ret
      exact ⟨own2, ret_i (by rw [HSF.out]), by rw [HSF.out]; exact HD2.out, HS2.out⟩
end Go.Proofs.Ytmbialiledjigaa
