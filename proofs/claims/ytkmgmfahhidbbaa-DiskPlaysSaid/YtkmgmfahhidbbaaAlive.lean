/-
  alive: some answers that the document fixes.
-/
import Derived.Test.YtkmgmfahhidbbaaRead2
namespace Go.Proofs.Ytkmgmfahhidbbaa
open Go.RowKit
def aD0 : PDsk.Dsk := PDsk.new 2
def aD1 : PDsk.Dsk := (PDsk.write aD0 0 (fullL 120)).1
def aD2 : PDsk.Dsk := (PDsk.sync aD1).1
def aD3 : PDsk.Dsk := (PDsk.write aD2 0 (fullL 121)).1
def aD4 : PDsk.Dsk := (PDsk.write aD3 1 (fullL 122)).1
def aD5 : PDsk.Dsk := PDsk.crash aD4 [false, true]
def aD6 : PDsk.Dsk := (PDsk.setFuse aD5 0).1
def aD7 : PDsk.Dsk := (PDsk.write aD6 0 (fullL 119)).1
theorem ae1 : (PDsk.write aD0 0 (fullL 120)).2 = 0 := by decide +kernel
theorem ae2 : (PDsk.sync aD1).2 = 0 := by decide +kernel
theorem ae5 : PDsk.read aD5 0 = (fullL 120, 0) := by decide +kernel
theorem ae6 : PDsk.read aD5 1 = (fullL 122, 0) := by decide +kernel
theorem ae7 : (PDsk.setFuse aD5 0).2 = 0 := by decide +kernel
theorem ae8 : (PDsk.write aD6 0 (fullL 119)).2 = 40 := by decide +kernel
theorem al0 : aD0.loose.length ≤ 1000000 := by decide +kernel
theorem al2 : aD2.loose.length ≤ 1000000 := by decide +kernel
theorem al3 : aD3.loose.length ≤ 1000000 := by decide +kernel
theorem al6 : aD6.loose.length ≤ 1000000 := by decide +kernel
theorem as7 : aD7.sure.length = 2 := by decide +kernel
theorem al7 : aD7.loose.length = 0 := by decide +kernel
theorem full_size (c : Nat) : (⟨(fullL c).toArray⟩ : ByteArray).size = 128 := by rw [size_mk]; simp [fullL]
theorem full_data (c : Nat) : (⟨(fullL c).toArray⟩ : ByteArray).data.toList = fullL c := rfl
theorem full_max (c : Nat) : (⟨(fullL c).toArray⟩ : ByteArray).size ≤ maxLen := by rw [full_size]; unfold maxLen; omega
/-- A literal slice of bools. -/
theorem rd_new {w : World} {vs : List Value} (t : TypeId) (h : vs.length ≤ maxLen) : Rd (w.alloc (.cells vs.toArray t)) (.slice (some ⟨w.heap.size, 0, none⟩) vs.length vs.length) vs :=
  ⟨_, _, rfl, Nat.le_refl _, h, fun _ => ⟨w.heap.size, 0, rfl, by rw [World.size_alloc]; omega, fun j hj => by
    rw [cell_of_row _ _ _ _ _ _ (heap_alloc_new w _)]; simp [hj]⟩⟩
set_option maxRecDepth 100000 in
set_option maxHeartbeats 4000000 in
theorem alive_any (w : World) : Calls Try.prog 8 #[] w fun e w' => e = .returned (.bool true) ∧ Below w.heap.size w w' := by
  have hB := Below.refl w.heap.size w
  go_enter Try.func8, Try.ntmps8
  go_wp2_with fail
  refine (new_any 2 (by decide) (by decide) _).mono ?_
  rintro e w1 ⟨hb, (⟨h, rfl⟩ | ⟨_, _, b, own0, rfl, hd0, ho0⟩)⟩
  · exact absurd (by decide) h
  replace hB := hB.step hb
  clear hb
  change IsDisk w1 b aD0 own0 at hd0
  have HD := Lib.hid hd0
  have HO := Lib.hid ho0
  clear hd0 ho0
  go_wp2_with fail
  refine (full_any 120 (by decide) _).mono ?_; rintro e wf ⟨rfl, hb⟩
  have HD' := Lib.hid (HD.out.below hb)
  replace hB := hB.step hb
  clear hb HD
  have HD := HD'
  clear HD'
  go_wp2_with fail
  refine (write_any _ HD.out 0 _ (full_max 120) (by decide) (by decide) al0).mono ?_
  rintro e wn ⟨own1, rfl, hd, hs⟩
  obtain ⟨hB', ho'⟩ := Stepped.below hB (Nat.le_refl _) HO.out hs
  change IsDisk wn b aD1 own1 at hd
  rw [show (PDsk.write aD0 0 (⟨(fullL 120).toArray⟩ : ByteArray).data.toList).2 = 0 from ae1]
  have HD' := Lib.hid hd
  have HO' := Lib.hid ho'
  clear HD HO hB hd ho' hs
  have HD := HD'
  have HO := HO'
  have hB := hB'
  clear HD' HO' hB'
  go_wp2_with fail
  refine (sync_any _ HD.out).mono ?_
  rintro e wn ⟨own2, rfl, hd, hs⟩
  obtain ⟨hB', ho'⟩ := Stepped.below hB (Nat.le_refl _) HO.out hs
  change IsDisk wn b aD2 own2 at hd
  rw [ae2]
  have HD' := Lib.hid hd
  have HO' := Lib.hid ho'
  clear HD HO hB hd ho' hs
  have HD := HD'
  have HO := HO'
  have hB := hB'
  clear HD' HO' hB'
  go_wp2_with fail
  refine (full_any 121 (by decide) _).mono ?_; rintro e wf ⟨rfl, hb⟩
  have HD' := Lib.hid (HD.out.below hb)
  replace hB := hB.step hb
  clear hb HD
  have HD := HD'
  clear HD'
  go_wp2_with fail
  refine (write_any _ HD.out 0 _ (full_max 121) (by decide) (by decide) al2).mono ?_
  rintro e wn ⟨own3, rfl, hd, hs⟩
  obtain ⟨hB', ho'⟩ := Stepped.below hB (Nat.le_refl _) HO.out hs
  change IsDisk wn b aD3 own3 at hd
  have HD' := Lib.hid hd
  have HO' := Lib.hid ho'
  clear HD HO hB hd ho' hs
  have HD := HD'
  have HO := HO'
  have hB := hB'
  clear HD' HO' hB'
  go_wp2_with fail
  refine (full_any 122 (by decide) _).mono ?_; rintro e wf ⟨rfl, hb⟩
  have HD' := Lib.hid (HD.out.below hb)
  replace hB := hB.step hb
  clear hb HD
  have HD := HD'
  clear HD'
  go_wp2_with fail
  refine (write_any _ HD.out 1 _ (full_max 122) (by decide) (by decide) al3).mono ?_
  rintro e wn ⟨own4, rfl, hd, hs⟩
  obtain ⟨hB', ho'⟩ := Stepped.below hB (Nat.le_refl _) HO.out hs
  change IsDisk wn b aD4 own4 at hd
  have HD' := Lib.hid hd
  have HO' := Lib.hid ho'
  clear HD HO hB hd ho' hs
  have HD := HD'
  have HO := HO'
  have hB := hB'
  clear HD' HO' hB'
  go_wp2_with fail
  have HA := Lib.hid (fun (o : Obj) => HD.out.below ((Below.refl _ _).alloc (Nat.le_refl _) o))
  have HLT := Lib.hid HD.out.lt
  replace hB := hB.alloc hB.size (.cells #[.bool false, .bool true] 4)
  clear HD
  have HD := Lib.hid (HA.out (.cells #[.bool false, .bool true] 4))
  clear HA
  refine (crash_any _ HD.out _ [false, true] (rd_new (vs := [.bool false, .bool true]) 4 (by decide)) (fun k e hm => by simp [Value.ownBlock] at e; have := HLT.out k hm; omega)).mono ?_
  rintro e wn ⟨own5, rfl, hd, hs⟩
  obtain ⟨hB', ho'⟩ := Stepped.below hB (Nat.le_refl _) HO.out hs
  change IsDisk wn b aD5 own5 at hd
  have HD' := Lib.hid hd
  have HO' := Lib.hid ho'
  clear HD HO hB hd ho' hs HLT
  have HD := HD'
  have HO := HO'
  have hB := hB'
  clear HD' HO' hB'
  go_wp2_with fail
  refine (read_any _ HD.out 0 (by decide)).mono ?_
  rintro e wn ⟨rfl, hb⟩
  rw [ae5]
  have HD' := Lib.hid (HD.out.below hb)
  replace hB := hB.step hb
  clear hb HD
  have HD := HD'
  clear HD'
  go_wp2_with fail
  refine (read_any _ HD.out 1 (by decide)).mono ?_
  rintro e wn ⟨rfl, hb⟩
  rw [ae6]
  have HD' := Lib.hid (HD.out.below hb)
  replace hB := hB.step hb
  clear hb HD
  have HD := HD'
  clear HD'
  go_wp2_with fail
  refine (fuse_any _ HD.out 0 (by decide) (by decide)).mono ?_
  rintro e wn ⟨rfl, hd, hs⟩
  obtain ⟨hB', ho'⟩ := Stepped.below hB (Nat.le_refl _) HO.out hs
  change IsDisk wn b aD6 own5 at hd
  rw [ae7]
  have HD' := Lib.hid hd
  have HO' := Lib.hid ho'
  clear HD HO hB hd ho' hs
  have HD := HD'
  have HO := HO'
  have hB := hB'
  clear HD' HO' hB'
  go_wp2_with fail
  refine (full_any 119 (by decide) _).mono ?_; rintro e wf ⟨rfl, hb⟩
  have HD' := Lib.hid (HD.out.below hb)
  replace hB := hB.step hb
  clear hb HD
  have HD := HD'
  clear HD'
  go_wp2_with fail
  refine (write_any _ HD.out 0 _ (full_max 119) (by decide) (by decide) al6).mono ?_
  rintro e wn ⟨own7, rfl, hd, hs⟩
  obtain ⟨hB', ho'⟩ := Stepped.below hB (Nat.le_refl _) HO.out hs
  change IsDisk wn b aD7 own7 at hd
  rw [show (PDsk.write aD6 0 (⟨(fullL 119).toArray⟩ : ByteArray).data.toList).2 = 40 from ae8]
  have HD' := Lib.hid hd
  have HO' := Lib.hid ho'
  clear HD HO hB hd ho' hs
  have HD := HD'
  have HO := HO'
  have hB := hB'
  clear HD' HO' hB'
  go_wp2_with fail
  refine (full_any 120 (by decide) _).mono ?_; rintro e wf ⟨rfl, hb⟩
  have HD' := Lib.hid (HD.out.below hb)
  replace hB := hB.step hb
  clear hb HD
  have HD := HD'
  clear HD'
  go_wp2_with fail
  refine (full_any 122 (by decide) _).mono ?_; rintro e wf ⟨rfl, hb⟩
  have HD' := Lib.hid (HD.out.below hb)
  replace hB := hB.step hb
  clear hb HD
  have HD := HD'
  clear HD'
  go_wp2_with fail
  refine (len_any _ HD.out).mono ?_; rintro e wn ⟨rfl, rfl⟩
  rw [as7]
  go_wp2_with fail
  refine (loose_any _ HD.out).mono ?_; rintro e wn ⟨rfl, rfl⟩
  rw [al7]
  go_wp2
  go_ret
  exact ⟨rfl, hB⟩
end Go.Proofs.Ytkmgmfahhidbbaa
