/-
  MasterLoads: which of what two sectors have is loaded. No conditions.
-/
import Derived.Test.YtmbialiledjigaaMSector
import Derived.Deep.RegionHeld3
namespace PMst
def twoD (x y : List UInt8) : PDsk.Dsk := { PDsk.new 5 with loose := [(2, x), (3, y)] }
theorem two_w1 {x : List UInt8} (hx : x.length = 128) : PDsk.write (PDsk.new 5) 2 x = ({ PDsk.new 5 with loose := [(2, x)] }, 0) := by
  unfold PDsk.write
  rw [if_neg (by simp [PDsk.new]), if_neg (by simp [PDsk.new, hx])]
  simp [PDsk.new, PDsk.burn]
theorem two_w2 {x y : List UInt8} (hy : y.length = 128) : PDsk.write { PDsk.new 5 with loose := [(2, x)] } 3 y = (twoD x y, 0) := by
  unfold PDsk.write
  rw [if_neg (by simp [PDsk.new]), if_neg (by simp [PDsk.new, hy])]
  simp [PDsk.new, PDsk.burn, twoD]
theorem two_r2 (x y : List UInt8) : PDsk.read (twoD x y) 2 = (x, 0) := by
  unfold PDsk.read PDsk.now twoD
  simp [PDsk.new]
theorem two_r3 (x y : List UInt8) : PDsk.read (twoD x y) (2 + 1) = (y, 0) := by
  unfold PDsk.read PDsk.now twoD
  simp [PDsk.new]
theorem two_ld (x y : List UInt8) : ld (twoD x y) 2 = rload x y := by
  unfold ld
  rw [two_r2, two_r3, if_pos rfl, if_pos rfl, load_rload]
theorem two_r4 (x y : List UInt8) : (PDsk.read (twoD x y) 4).2 = 0 := by
  unfold PDsk.read twoD
  simp [PDsk.new]
theorem two_r5 (x y : List UInt8) : (PDsk.read (twoD x y) (4 + 1)).2 = 2 := by
  unfold PDsk.read twoD
  simp [PDsk.new]
theorem two_ld4 (x y : List UInt8) : ld (twoD x y) 4 = (⟨0, 0, 0, 0, false⟩, 2) := by
  unfold ld
  rw [two_r4, two_r5, if_pos rfl, if_neg (by decide)]; rfl
end PMst
namespace Go.Proofs.Ytmbialiledjigaa
open Go.RowKit
open PMst (Mst)
theorem rload_open (x y : ByteArray) (hx : x.size ≤ maxLen) (hy : y.size ≤ maxLen) (w : World) : Calls Try.prog 16 #[.string x, .string y] w fun e w' => e = .returned (.tuple #[.agg #[.int .u64 (PMst.rload x.data.toList y.data.toList).1.count, .int .u64 (PMst.rload x.data.toList y.data.toList).1.life, .int .u64 (PMst.rload x.data.toList y.data.toList).1.check, .int .u64 (PMst.rload x.data.toList y.data.toList).1.first, .bool (PMst.rload x.data.toList y.data.toList).1.clean], .int .i64 (PMst.rload x.data.toList y.data.toList).2]) ∧ Below w.heap.size w w' := rload12_any x y hx hy w
theorem mloadnil_open (a : Int) (h1 : 0 ≤ a) (h2 : a ≤ 1000000) (w : World) : Calls Try.prog 15 #[.pointer none, .int .i64 a] w fun e w' => e = .returned (.tuple #[.agg #[.int .u64 0, .int .u64 0, .int .u64 0, .int .u64 0, .bool false], .int .i64 1]) ∧ Below w.heap.size w w' := mload_nil a h1 h2 w
theorem mload_to {b : Nat} {D : PDsk.Dsk} {own : List Nat} (w : World) (h : IsDisk w b D own) (a : Int) (ha1 : 0 ≤ a) (ha2 : a ≤ 1000000) {m : Mst} {e0 : Int} (hl : PMst.ld D a = (m, e0)) :
    Calls Try.prog 15 #[.pointer (some ⟨b, 0, none⟩), .int .i64 a] w fun e w' => e = .returned (.tuple #[.agg #[.int .u64 m.count, .int .u64 m.life, .int .u64 m.check, .int .u64 m.first, .bool m.clean], .int .i64 e0]) ∧ Below w.heap.size w w' := by
  refine (mload_any w h a ha1 ha2).mono ?_
  rintro e w' ⟨rfl, hb⟩
  exact ⟨by rw [hl]; rfl, hb⟩
set_option maxRecDepth 100000 in
set_option maxHeartbeats 8000000 in
theorem masterLoads_ok (a b : Mst) (ha : a.Ok) (hb : b.Ok) (k1 k2 : Nat) (hk1 : k1 < 256) (hk2 : k2 < 256) (s t : ByteArray) (hs : s.size ≤ 200) (ht : t.size ≤ 200) (w : World) : Calls Try.prog 4 #[mv a, mv b, .int .u8 k1, .int .u8 k2, .string s, .string t] w fun e w' => e = .returned (.bool true) ∧ Below w.heap.size w w' := by
  have HS1 := Lib.hid (sector_any a b ha hb k1 hk1 s hs)
  have HS2 := Lib.hid (sector_any a b ha hb k2 hk2 t ht)
  unfold mv at HS1 HS2 ⊢
  have hN := made2 w #[.int .u64 a.count, .int .u64 a.life, .int .u64 a.check, .int .u64 a.first, .bool a.clean] #[.int .u64 b.count, .int .u64 b.life, .int .u64 b.check, .int .u64 b.first, .bool b.clean] 24 24
  have HN := Lib.hid hN
  have f1 : ¬ (200 : Int) < s.size := by omega
  have f2 : ¬ (200 : Int) < t.size := by omega
  clear ha hb hN
  go_enter Try.func4, Try.ntmps4
  go_wp2_with fail
  refine (new_any 5 (by omega) (by omega) _).mono ?_
  rintro e w1 ⟨hB, (⟨hno, rfl⟩ | ⟨_, _, bd, own, rfl, hd, ho⟩)⟩
  · exact absurd (by omega) hno
  have HD := Lib.hid hd
  have hK := keep2 HN.out hB
  have HO : Hid (∀ k ∈ own, w.heap.size ≤ k) := Lib.hid fun k hk => by have := ho k hk; simp at this; omega
  change IsDisk w1 bd (PDsk.new 5) own at hd
  have hK1 : w1.drew.heap[w.heap.size]? = some (.cells #[.int .u64 a.count, .int .u64 a.life, .int .u64 a.check, .int .u64 a.first, .bool a.clean] 24 (0, 0)) := hK.1
  have hK2 : w1.drew.heap[w.heap.size + 1]? = some (.cells #[.int .u64 b.count, .int .u64 b.life, .int .u64 b.check, .int .u64 b.first, .bool b.clean] 24 (0, 0)) := hK.2.1
  have HBW := Lib.hid (hK.2.2.drew)
  have HD1 := Lib.hid (hd.below (Below.refl _ _).drew)
  clear hd ho hB HD hK HN
  go_wp2_with fail
  go_region_held3 (fun w' => w'.cell? ⟨w.heap.size, 0, none⟩ = some (.int .u64 a.count) ∧ w'.cell? ⟨w.heap.size, 1, none⟩ = some (.int .u64 a.life) ∧ w'.cell? ⟨w.heap.size, 2, none⟩ = some (.int .u64 a.check) ∧ w'.cell? ⟨w.heap.size, 3, none⟩ = some (.int .u64 a.first) ∧ w'.cell? ⟨w.heap.size, 4, none⟩ = some (.bool a.clean) ∧ w'.cell? ⟨w.heap.size + 1, 0, none⟩ = some (.int .u64 b.count) ∧ w'.cell? ⟨w.heap.size + 1, 1, none⟩ = some (.int .u64 b.life) ∧ w'.cell? ⟨w.heap.size + 1, 2, none⟩ = some (.int .u64 b.check) ∧ w'.cell? ⟨w.heap.size + 1, 3, none⟩ = some (.int .u64 b.first) ∧ w'.cell? ⟨w.heap.size + 1, 4, none⟩ = some (.bool b.clean))
    (first | exact ⟨(cells5 hK1).1, (cells5 hK1).2.1, (cells5 hK1).2.2.1, (cells5 hK1).2.2.2.1, (cells5 hK1).2.2.2.2, (cells5 hK2).1, (cells5 hK2).2.1, (cells5 hK2).2.2.1, (cells5 hK2).2.2.2.1, (cells5 hK2).2.2.2.2⟩ | go_keep)
    (first
      | (go_at_call 13; ((with_reducible refine (HS1.out _).mono ?_); rintro e w2 ⟨l1, hl1, rfl, hb⟩; have HL1 := Lib.hid hl1; replace hK1 := (hb.block _ (Array.getElem?_eq_some_iff.1 hK1).1).trans hK1; replace hK2 := (hb.block _ (Array.getElem?_eq_some_iff.1 hK2).1).trans hK2; replace HBW := Lib.hid (HBW.out.step hb); replace HD1 := Lib.hid (HD1.out.below hb); clear hb hl1))
      | (go_at_call 13; ((with_reducible refine (HS2.out _).mono ?_); rintro e w3 ⟨l2, hl2, rfl, hb⟩; have HL2 := Lib.hid hl2; replace hK1 := (hb.block _ (Array.getElem?_eq_some_iff.1 hK1).1).trans hK1; replace hK2 := (hb.block _ (Array.getElem?_eq_some_iff.1 hK2).1).trans hK2; replace HBW := Lib.hid (HBW.out.step hb); replace HD1 := Lib.hid (HD1.out.below hb); clear hb hl2)))
  clear hK1 hK2
  obtain ⟨R, re, hR⟩ : ∃ m e, PMst.rload l1 l2 = (m, e) := ⟨_, _, rfl⟩
  have HR := Lib.hid hR
  have HX1 : Hid ((⟨l1.toArray⟩ : ByteArray).size ≤ maxLen) := Lib.hid (by rw [size_mk, HL1.out]; unfold maxLen; omega)
  have HX2 : Hid ((⟨l2.toArray⟩ : ByteArray).size ≤ maxLen) := Lib.hid (by rw [size_mk, HL2.out]; unfold maxLen; omega)
  clear hR
  go_wp2_with fail
  refine (write_any _ HD1.out 2 (⟨l1.toArray⟩ : ByteArray) HX1.out (by omega) (by omega) (by simp [PDsk.new])).mono ?_
  rintro e w4 ⟨own4, rfl, hd, hs⟩
  rw [show (⟨l1.toArray⟩ : ByteArray).data.toList = l1 from rfl, PMst.two_w1 HL1.out] at hd ⊢
  have HD2 := Lib.hid hd
  have HB2 := Lib.hid (Stepped.below HBW.out (Nat.le_refl _) HO.out hs).1
  have HO2 := Lib.hid (Stepped.below HBW.out (Nat.le_refl _) HO.out hs).2
  clear hd hs HD1 HBW HO
  go_wp2_with fail
  refine (write_any _ HD2.out 3 (⟨l2.toArray⟩ : ByteArray) HX2.out (by omega) (by omega) (by simp)).mono ?_
  rintro e w5 ⟨own5, rfl, hd, hs⟩
  rw [show (⟨l2.toArray⟩ : ByteArray).data.toList = l2 from rfl, PMst.two_w2 HL2.out] at hd ⊢
  have HD3 := Lib.hid hd
  have HB3 := Lib.hid (Stepped.below HB2.out (Nat.le_refl _) HO2.out hs).1
  clear hd hs HD2 HB2 HO2
  go_wp2_with fail
  refine (mload_to _ HD3.out 2 (by omega) (by omega) ((PMst.two_ld l1 l2).trans HR.out)).mono ?_
  rintro e w6 ⟨rfl, hb⟩
  have HD4 := Lib.hid ((HD3.out.below hb).below ((Below.refl w6.heap.size w6).alloc (Nat.le_refl _) (.cells #[.int .u64 R.count, .int .u64 R.life, .int .u64 R.check, .int .u64 R.first, .bool R.clean] 24)))
  have HB4 := Lib.hid ((HB3.out.step hb).alloc (HB3.out.step hb).size (.cells #[.int .u64 R.count, .int .u64 R.life, .int .u64 R.check, .int .u64 R.first, .bool R.clean] 24))
  have hP := heap_alloc_new w6 (.cells #[.int .u64 R.count, .int .u64 R.life, .int .u64 R.check, .int .u64 R.first, .bool R.clean] 24)
  clear hb HD3 HB3
  have HP := Lib.hid hP
  clear hP
  go_wp2_with fail
  refine (rload_open (⟨l1.toArray⟩ : ByteArray) (⟨l2.toArray⟩ : ByteArray) HX1.out HX2.out _).mono ?_
  rintro e w7 ⟨rfl, hb⟩
  rw [show (⟨l1.toArray⟩ : ByteArray).data.toList = l1 from rfl, show (⟨l2.toArray⟩ : ByteArray).data.toList = l2 from rfl, HR.out]
  have HP7 := Lib.hid ((hb.block _ (Array.getElem?_eq_some_iff.1 HP.out).1).trans HP.out)
  have HD5 := Lib.hid ((HD4.out.below hb).below ((Below.refl w7.heap.size w7).alloc (Nat.le_refl _) (.cells #[.int .u64 R.count, .int .u64 R.life, .int .u64 R.check, .int .u64 R.first, .bool R.clean] 24)))
  have HB5 := Lib.hid ((HB4.out.step hb).alloc (HB4.out.step hb).size (.cells #[.int .u64 R.count, .int .u64 R.life, .int .u64 R.check, .int .u64 R.first, .bool R.clean] 24))
  have HQ := Lib.hid (heap_alloc_new w7 (.cells #[.int .u64 R.count, .int .u64 R.life, .int .u64 R.check, .int .u64 R.first, .bool R.clean] 24))
  have HP8 := Lib.hid ((Below.heap_alloc w7 (.cells #[.int .u64 R.count, .int .u64 R.life, .int .u64 R.check, .int .u64 R.first, .bool R.clean] 24) _ (Array.getElem?_eq_some_iff.1 HP7.out).1).trans HP7.out)
  clear hb HD4 HB4 HP HP7
  go_wp2_with fail
  refine (mload_to _ HD5.out 4 (by omega) (by omega) (PMst.two_ld4 l1 l2)).mono ?_
  rintro e w8 ⟨rfl, hb⟩
  have HP9 := Lib.hid ((Below.heap_alloc w8 (.cells #[.int .u64 0, .int .u64 0, .int .u64 0, .int .u64 0, .bool false] 24) _ (Array.getElem?_eq_some_iff.1 ((hb.block _ (Array.getElem?_eq_some_iff.1 HP8.out).1).trans HP8.out)).1).trans ((hb.block _ (Array.getElem?_eq_some_iff.1 HP8.out).1).trans HP8.out))
  have HQ9 := Lib.hid ((Below.heap_alloc w8 (.cells #[.int .u64 0, .int .u64 0, .int .u64 0, .int .u64 0, .bool false] 24) _ (Array.getElem?_eq_some_iff.1 ((hb.block _ (Array.getElem?_eq_some_iff.1 HQ.out).1).trans HQ.out)).1).trans ((hb.block _ (Array.getElem?_eq_some_iff.1 HQ.out).1).trans HQ.out))
  have HB6 := Lib.hid ((HB5.out.step hb).alloc (HB5.out.step hb).size (.cells #[.int .u64 0, .int .u64 0, .int .u64 0, .int .u64 0, .bool false] 24))
  clear hb HD5 HB5 HP8 HQ
  go_wp2_with fail
  refine (mloadnil_open 2 (by omega) (by omega) _).mono ?_
  rintro e w9 ⟨rfl, hb⟩
  have hp := (Below.heap_alloc w9 (.cells #[.int .u64 0, .int .u64 0, .int .u64 0, .int .u64 0, .bool false] 24) _ (Array.getElem?_eq_some_iff.1 ((hb.block _ (Array.getElem?_eq_some_iff.1 HP9.out).1).trans HP9.out)).1).trans ((hb.block _ (Array.getElem?_eq_some_iff.1 HP9.out).1).trans HP9.out)
  have hq := (Below.heap_alloc w9 (.cells #[.int .u64 0, .int .u64 0, .int .u64 0, .int .u64 0, .bool false] 24) _ (Array.getElem?_eq_some_iff.1 ((hb.block _ (Array.getElem?_eq_some_iff.1 HQ9.out).1).trans HQ9.out)).1).trans ((hb.block _ (Array.getElem?_eq_some_iff.1 HQ9.out).1).trans HQ9.out)
  have HB7 := Lib.hid ((HB6.out.step hb).alloc (HB6.out.step hb).size (.cells #[.int .u64 0, .int .u64 0, .int .u64 0, .int .u64 0, .bool false] 24))
  obtain ⟨p0, p1, p2, p3, p4⟩ := cells5 hp
  obtain ⟨q0, q1, q2, q3, q4⟩ := cells5 hq
  clear hb HB6 HP9 HQ9 hp hq
  go_wp2_with fail
  refine (works12_any _).mono ?_
  rintro e w10 ⟨rfl, hb⟩
  have HB8 := Lib.hid (HB7.out.step hb)
  clear hb
  go_wp2
  go_ret
  exact ⟨rfl, HB8.out⟩
theorem masterLoads_any (a b : Mst) (ha : a.Ok) (hb : b.Ok) (k1 k2 : Nat) (hk1 : k1 < 256) (hk2 : k2 < 256) (s t : ByteArray) (hs : s.size ≤ maxLen) (ht : t.size ≤ maxLen) (w : World) : Calls Try.prog 4 #[mv a, mv b, .int .u8 k1, .int .u8 k2, .string s, .string t] w fun e w' => e = .returned (.bool true) ∧ Below w.heap.size w w' := by
  by_cases h1 : s.size ≤ 200
  · by_cases h2 : t.size ≤ 200
    · exact masterLoads_ok a b ha hb k1 k2 hk1 hk2 s t h1 h2 w
    have f1 : ¬ (200 : Int) < s.size := by omega
    have f2 : (200 : Int) < t.size := by omega
    have HM := Lib.hid (made2 w #[.int .u64 a.count, .int .u64 a.life, .int .u64 a.check, .int .u64 a.first, .bool a.clean] #[.int .u64 b.count, .int .u64 b.life, .int .u64 b.check, .int .u64 b.first, .bool b.clean] 24 24).2.2
    unfold mv
    unfold maxLen at hs ht
    clear h1 h2 ha hb
    go_enter Try.func4, Try.ntmps4
    go_wp2_with fail
    refine (works12_any _).mono ?_
    rintro e w10 ⟨rfl, hb⟩
    have HB8 := Lib.hid (HM.out.step hb)
    clear hb
    go_wp2
    go_ret
    exact ⟨rfl, HB8.out⟩
  · have f1 : (200 : Int) < s.size := by omega
    have HM := Lib.hid (made2 w #[.int .u64 a.count, .int .u64 a.life, .int .u64 a.check, .int .u64 a.first, .bool a.clean] #[.int .u64 b.count, .int .u64 b.life, .int .u64 b.check, .int .u64 b.first, .bool b.clean] 24 24).2.2
    unfold mv
    unfold maxLen at hs ht
    clear h1 ha hb
    go_enter Try.func4, Try.ntmps4
    go_wp2_with fail
    refine (works12_any _).mono ?_
    rintro e w10 ⟨rfl, hb⟩
    have HB8 := Lib.hid (HM.out.step hb)
    clear hb
    go_wp2
    go_ret
    exact ⟨rfl, HB8.out⟩
end Go.Proofs.Ytmbialiledjigaa
