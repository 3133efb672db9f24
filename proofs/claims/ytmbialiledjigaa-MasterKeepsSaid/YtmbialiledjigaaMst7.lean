/-
  Masters: Load of the document, Store.
-/
import Derived.Test.YtmbialiledjigaaMst5
import Derived.Test.YtmbialiledjigaaMst6
namespace PMst
def st (D : PDsk.Dsk) (a : Int) (m : Mst) : PDsk.Dsk × Int :=
  if may m then
    if (PDsk.write D (a + (m.count % 2 : Nat)) (enc m)).2 = 0 then PDsk.sync (PDsk.write D (a + (m.count % 2 : Nat)) (enc m)).1 else PDsk.write D (a + (m.count % 2 : Nat)) (enc m)
  else (D, 2)
theorem one_cases (s : List UInt8) : ((dec s).2 = 0 ∧ (((dec s).1.count : Int) % 2) = 0 ∧ rone s = true ∧ got s = (dec s).1) ∨ ((dec s).2 = 0 ∧ (((dec s).1.count : Int) % 2 == 0) = false ∧ rone s = false) ∨ ((dec s).2 = 7 ∧ rone s = false) := by
  unfold rone
  rcases dec_cases s with ⟨h, h1, h2⟩ | ⟨h, h2⟩
  · rw [h, h1, h2]
    by_cases hp : (got s).count % 2 = 0
    · left; exact ⟨rfl, by omega, by simp [hp], rfl⟩
    · right; left; exact ⟨rfl, by simp; omega, by simp; omega⟩
  · right; right; exact ⟨h2, by rw [h]; rfl⟩
theorem two_cases (s : List UInt8) : ((dec s).2 = 0 ∧ (((dec s).1.count : Int) % 2) = 1 ∧ rtwo s = true ∧ got s = (dec s).1) ∨ ((dec s).2 = 0 ∧ (((dec s).1.count : Int) % 2 == 1) = false ∧ rtwo s = false) ∨ ((dec s).2 = 7 ∧ rtwo s = false) := by
  unfold rtwo
  rcases dec_cases s with ⟨h, h1, h2⟩ | ⟨h, h2⟩
  · rw [h, h1, h2]
    by_cases hp : (got s).count % 2 = 1
    · left; exact ⟨rfl, by omega, by simp [hp], rfl⟩
    · right; left; exact ⟨rfl, by simp; omega, by simp; omega⟩
  · right; right; exact ⟨h2, by rw [h]; rfl⟩
end PMst
namespace Go.Proofs.Ytmbialiledjigaa
open Go.RowKit
open PMst (Mst)
theorem rdec_open (s : ByteArray) (hs : s.size ≤ maxLen) (w : World) : Calls Try.prog 11 #[.string s] w fun e w' => e = .returned (.tuple #[.agg #[.int .u64 (PMst.dec s.data.toList).1.count, .int .u64 (PMst.dec s.data.toList).1.life, .int .u64 (PMst.dec s.data.toList).1.check, .int .u64 (PMst.dec s.data.toList).1.first, .bool (PMst.dec s.data.toList).1.clean], .int .i64 (PMst.dec s.data.toList).2]) ∧ Below w.heap.size w w' := rdec_any s hs w
set_option maxHeartbeats 8000000 in
theorem rload12_any (x y : ByteArray) (hx : x.size ≤ maxLen) (hy : y.size ≤ maxLen) (w : World) : Calls Try.prog 16 #[.string x, .string y] w fun e w' => e = .returned (.tuple #[mv (PMst.rload x.data.toList y.data.toList).1, .int .i64 (PMst.rload x.data.toList y.data.toList).2]) ∧ Below w.heap.size w w' := by
  have HXX := Lib.hid (PMst.one_cases x.data.toList)
  have HYY := Lib.hid (PMst.two_cases y.data.toList)
  have HRL : Hid (PMst.rload x.data.toList y.data.toList = if PMst.rone x.data.toList && (!PMst.rtwo y.data.toList || decide ((PMst.got y.data.toList).count < (PMst.got x.data.toList).count)) then (PMst.got x.data.toList, 0) else if PMst.rtwo y.data.toList then (PMst.got y.data.toList, 0) else (PMst.zero, 120)) := Lib.hid rfl
  have HI0 := Lib.hid (size_mst PMst.zero)
  have HZS0 : Hid (∀ m : Mst, (five PMst.zero).size = (five m).size) := Lib.hid fun _ => rfl
  have H10 := Lib.hid (five_all PMst.zero)
  have HB0 : Hid (Best w (w.alloc (.cells #[.int .u64 0, .int .u64 0, .int .u64 0, .int .u64 0, .bool false] 24)) PMst.zero) := Lib.hid ⟨heap_alloc_new w _, (Below.refl _ _).alloc (Nat.le_refl _) _⟩
  go_enter Try.func16, Try.ntmps16
  go_wp2_with fail
  refine (rdec_open x hx _).mono ?_
  rintro e w1 ⟨rfl, hb⟩
  have HB1 := Lib.hid (HB0.out.keep hb)
  clear hb HB0
  generalize PMst.dec x.data.toList = X at *
  obtain ⟨G0, e0⟩ := X
  dsimp only
  go_wp2_with fail
  refine (rdec_open y hy _).mono ?_
  rintro e w2 ⟨rfl, hb⟩
  have hNx : (w1.alloc (.cells #[.int .u64 G0.count, .int .u64 G0.life, .int .u64 G0.check, .int .u64 G0.first, .bool G0.clean] 24)).heap[w1.heap.size]? = some (.cells (five G0) 24 (0, 0)) := heap_alloc_new w1 _
  have hNx2 := (hb.block _ (by rw [World.size_alloc]; omega)).trans hNx
  have HB2 := Lib.hid ((HB1.out.box #[.int .u64 G0.count, .int .u64 G0.life, .int .u64 G0.check, .int .u64 G0.first, .bool G0.clean] 24).keep hb)
  generalize PMst.dec y.data.toList = Y at *
  obtain ⟨G1, e1⟩ := Y
  dsimp only
  have HB3 := Lib.hid (HB2.out.box #[.int .u64 G1.count, .int .u64 G1.life, .int .u64 G1.check, .int .u64 G1.first, .bool G1.clean] 24)
  have HZ := Lib.hid HB3.out.1
  have hlt2 : w1.heap.size < w2.heap.size := (Array.getElem?_eq_some_iff.1 hNx2).1
  have hNx3 : (w2.alloc (.cells #[.int .u64 G1.count, .int .u64 G1.life, .int .u64 G1.check, .int .u64 G1.first, .bool G1.clean] 24)).heap[w1.heap.size]? = some (.cells (five G0) 24 (0, 0)) := (Below.heap_alloc _ _ _ hlt2).trans hNx2
  obtain ⟨x0, x1, x2, x3, x4⟩ := cells5 hNx3
  have HIX := Lib.hid (size_mst G0)
  have HIY := Lib.hid (size_mst G1)
  have HAX := Lib.hid (five_all G0)
  have HAY := Lib.hid (five_all G1)
  have HPX := Lib.hid (HB3.out.put G0)
  have HPY := Lib.hid (HB3.out.put G1)
  clear hb hNx hNx2 hNx3 HB1 HB2 hlt2
  have hxx := HXX.out
  have hyy := HYY.out
  dsimp only at hxx hyy
  generalize PMst.rone x.data.toList = o1 at *
  generalize PMst.rtwo y.data.toList = o2 at *
  generalize PMst.got x.data.toList = gx at *
  generalize PMst.got y.data.toList = gy at *
  clear HXX HYY
  rcases hxx with ⟨rfl, hp0, rfl, rfl⟩ | ⟨rfl, hp0, rfl⟩ | ⟨rfl, rfl⟩
  · rcases hyy with ⟨rfl, hp1, rfl, rfl⟩ | ⟨rfl, hp1, rfl⟩ | ⟨rfl, rfl⟩
    · by_cases hc : gy.count < gx.count
      · have HRL2 : Hid (PMst.rload x.data.toList y.data.toList = (gx, 0)) := Lib.hid (by rw [HRL.out]; simp [hc])
        clear HRL
        go_wp2_with ((with_reducible refine wpList_row_put rfl 24 (.tmp 4) (.tmp 50) rfl w.heap.size 24 (five PMst.zero) (five gx) ?_ ?_ HZ.out HIX.out (HZS0.out _) HAX.out ?_); (· rfl); (· rfl))
        (try simp only [Exit.inBlock, Exit.then])
        refine bodyPost_ret (v := .tuple #[mv gx, .int .i64 0]) ?_ ?_ ?_
        · exact res_mst (m := gx) rfl _ _ w.heap.size rfl rfl HPX.out.1
        · rfl
        · exact ⟨by rw [HRL2.out], HPX.out.2⟩
      · have HRL2 : Hid (PMst.rload x.data.toList y.data.toList = (gy, 0)) := Lib.hid (by rw [HRL.out]; simp [hc])
        have hcb : decide (gy.count < gx.count) = false := by simpa using hc
        clear HRL
        go_wp2_with ((with_reducible refine wpList_row_put rfl 24 (.tmp 4) (.tmp 52) rfl w.heap.size 24 (five PMst.zero) (five gy) ?_ ?_ HZ.out HIY.out (HZS0.out _) HAY.out ?_); (· rfl); (· rfl))
        (try simp only [Exit.inBlock, Exit.then])
        refine bodyPost_ret (v := .tuple #[mv gy, .int .i64 0]) ?_ ?_ ?_
        · exact res_mst (m := gy) rfl _ _ w.heap.size rfl rfl HPY.out.1
        · rfl
        · exact ⟨by rw [HRL2.out], HPY.out.2⟩
    · have HRL2 : Hid (PMst.rload x.data.toList y.data.toList = (gx, 0)) := Lib.hid (by rw [HRL.out]; simp)
      clear HRL
      go_wp2_with ((with_reducible refine wpList_row_put rfl 24 (.tmp 4) (.tmp 50) rfl w.heap.size 24 (five PMst.zero) (five gx) ?_ ?_ HZ.out HIX.out (HZS0.out _) HAX.out ?_); (· rfl); (· rfl))
      (try simp only [Exit.inBlock, Exit.then])
      refine bodyPost_ret (v := .tuple #[mv gx, .int .i64 0]) ?_ ?_ ?_
      · exact res_mst (m := gx) rfl _ _ w.heap.size rfl rfl HPX.out.1
      · rfl
      · exact ⟨by rw [HRL2.out], HPX.out.2⟩
    · have HRL2 : Hid (PMst.rload x.data.toList y.data.toList = (gx, 0)) := Lib.hid (by rw [HRL.out]; simp)
      clear HRL
      go_wp2_with ((with_reducible refine wpList_row_put rfl 24 (.tmp 4) (.tmp 50) rfl w.heap.size 24 (five PMst.zero) (five gx) ?_ ?_ HZ.out HIX.out (HZS0.out _) HAX.out ?_); (· rfl); (· rfl))
      (try simp only [Exit.inBlock, Exit.then])
      refine bodyPost_ret (v := .tuple #[mv gx, .int .i64 0]) ?_ ?_ ?_
      · exact res_mst (m := gx) rfl _ _ w.heap.size rfl rfl HPX.out.1
      · rfl
      · exact ⟨by rw [HRL2.out], HPX.out.2⟩
  · rcases hyy with ⟨rfl, hp1, rfl, rfl⟩ | ⟨rfl, hp1, rfl⟩ | ⟨rfl, rfl⟩
    · have HRL2 : Hid (PMst.rload x.data.toList y.data.toList = (gy, 0)) := Lib.hid (by rw [HRL.out]; simp)
      clear HRL
      go_wp2_with ((with_reducible refine wpList_row_put rfl 24 (.tmp 4) (.tmp 52) rfl w.heap.size 24 (five PMst.zero) (five gy) ?_ ?_ HZ.out HIY.out (HZS0.out _) HAY.out ?_); (· rfl); (· rfl))
      (try simp only [Exit.inBlock, Exit.then])
      refine bodyPost_ret (v := .tuple #[mv gy, .int .i64 0]) ?_ ?_ ?_
      · exact res_mst (m := gy) rfl _ _ w.heap.size rfl rfl HPY.out.1
      · rfl
      · exact ⟨by rw [HRL2.out], HPY.out.2⟩
    · have HRL2 : Hid (PMst.rload x.data.toList y.data.toList = (PMst.zero, 120)) := Lib.hid (by rw [HRL.out]; simp)
      clear HRL
      go_wp2_with ((with_reducible refine wpList_row_same rfl 24 (.tmp 4) (.tmp 53) rfl w.heap.size 24 (five PMst.zero) ?_ ?_ HZ.out HI0.out H10.out ?_); (· rfl); (· rfl))
      (try simp only [Exit.inBlock, Exit.then])
      refine bodyPost_ret (v := .tuple #[mv PMst.zero, .int .i64 120]) ?_ ?_ ?_
      · exact res_mst (m := PMst.zero) rfl _ _ w.heap.size rfl rfl HZ.out
      · rfl
      · exact ⟨by rw [HRL2.out], HB3.out.2⟩
    · have HRL2 : Hid (PMst.rload x.data.toList y.data.toList = (PMst.zero, 120)) := Lib.hid (by rw [HRL.out]; simp)
      clear HRL
      go_wp2_with ((with_reducible refine wpList_row_same rfl 24 (.tmp 4) (.tmp 53) rfl w.heap.size 24 (five PMst.zero) ?_ ?_ HZ.out HI0.out H10.out ?_); (· rfl); (· rfl))
      (try simp only [Exit.inBlock, Exit.then])
      refine bodyPost_ret (v := .tuple #[mv PMst.zero, .int .i64 120]) ?_ ?_ ?_
      · exact res_mst (m := PMst.zero) rfl _ _ w.heap.size rfl rfl HZ.out
      · rfl
      · exact ⟨by rw [HRL2.out], HB3.out.2⟩
  · rcases hyy with ⟨rfl, hp1, rfl, rfl⟩ | ⟨rfl, hp1, rfl⟩ | ⟨rfl, rfl⟩
    · have HRL2 : Hid (PMst.rload x.data.toList y.data.toList = (gy, 0)) := Lib.hid (by rw [HRL.out]; simp)
      clear HRL
      go_wp2_with ((with_reducible refine wpList_row_put rfl 24 (.tmp 4) (.tmp 52) rfl w.heap.size 24 (five PMst.zero) (five gy) ?_ ?_ HZ.out HIY.out (HZS0.out _) HAY.out ?_); (· rfl); (· rfl))
      (try simp only [Exit.inBlock, Exit.then])
      refine bodyPost_ret (v := .tuple #[mv gy, .int .i64 0]) ?_ ?_ ?_
      · exact res_mst (m := gy) rfl _ _ w.heap.size rfl rfl HPY.out.1
      · rfl
      · exact ⟨by rw [HRL2.out], HPY.out.2⟩
    · have HRL2 : Hid (PMst.rload x.data.toList y.data.toList = (PMst.zero, 120)) := Lib.hid (by rw [HRL.out]; simp)
      clear HRL
      go_wp2_with ((with_reducible refine wpList_row_same rfl 24 (.tmp 4) (.tmp 53) rfl w.heap.size 24 (five PMst.zero) ?_ ?_ HZ.out HI0.out H10.out ?_); (· rfl); (· rfl))
      (try simp only [Exit.inBlock, Exit.then])
      refine bodyPost_ret (v := .tuple #[mv PMst.zero, .int .i64 120]) ?_ ?_ ?_
      · exact res_mst (m := PMst.zero) rfl _ _ w.heap.size rfl rfl HZ.out
      · rfl
      · exact ⟨by rw [HRL2.out], HB3.out.2⟩
    · have HRL2 : Hid (PMst.rload x.data.toList y.data.toList = (PMst.zero, 120)) := Lib.hid (by rw [HRL.out]; simp)
      clear HRL
      go_wp2_with ((with_reducible refine wpList_row_same rfl 24 (.tmp 4) (.tmp 53) rfl w.heap.size 24 (five PMst.zero) ?_ ?_ HZ.out HI0.out H10.out ?_); (· rfl); (· rfl))
      (try simp only [Exit.inBlock, Exit.then])
      refine bodyPost_ret (v := .tuple #[mv PMst.zero, .int .i64 120]) ?_ ?_ ?_
      · exact res_mst (m := PMst.zero) rfl _ _ w.heap.size rfl rfl HZ.out
      · rfl
      · exact ⟨by rw [HRL2.out], HB3.out.2⟩
end Go.Proofs.Ytmbialiledjigaa
