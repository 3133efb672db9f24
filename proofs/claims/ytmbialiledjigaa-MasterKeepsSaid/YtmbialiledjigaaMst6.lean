/-
  Masters: Load of the program.
-/
import Derived.Test.YtmbialiledjigaaMst4
namespace PDsk
theorem now_length {D : Dsk} (h : D.Ok) {k : Nat} (hk : k < D.sure.length) : (now D k).length = 128 := by
  unfold now
  split
  · rename_i p hp
    have := List.mem_of_find?_eq_some hp
    exact (h.2.2.2.1 p (List.mem_reverse.1 this)).2
  · rw [List.getD_eq_getElem?_getD, List.getElem?_eq_getElem hk]
    exact h.2.2.1 _ (List.getElem_mem hk)
theorem read_length {D : Dsk} (h : D.Ok) (k : Int) : (read D k).1.length ≤ 128 := by
  unfold read
  split
  · simp
  split
  · simp
  · rename_i h1 h2
    rw [now_length h (by omega)]; omega
end PDsk
namespace PMst
def ld (D : PDsk.Dsk) (a : Int) : Mst × Int :=
  if (PDsk.read D a).2 = 0 then
    if (PDsk.read D (a + 1)).2 = 0 then load (PDsk.read D a).1 (PDsk.read D (a + 1)).1 else (zero, (PDsk.read D (a + 1)).2)
  else (zero, (PDsk.read D a).2)
theorem dec_cases (s : List UInt8) : (good s = true ∧ (dec s).1 = got s ∧ (dec s).2 = 0) ∨ (good s = false ∧ (dec s).2 = 7) := by
  unfold dec
  cases h : good s
  · exact .inr ⟨rfl, rfl⟩
  · exact .inl ⟨rfl, rfl, rfl⟩
end PMst
namespace Go.Proofs.Ytmbialiledjigaa
open Go.RowKit
open PMst (Mst)
theorem mdec_open (s : ByteArray) (hs : s.size ≤ maxLen) (w : World) : Calls Try.prog 10 #[.string s] w fun e w' => e = .returned (.tuple #[.agg #[.int .u64 (PMst.dec s.data.toList).1.count, .int .u64 (PMst.dec s.data.toList).1.life, .int .u64 (PMst.dec s.data.toList).1.check, .int .u64 (PMst.dec s.data.toList).1.first, .bool (PMst.dec s.data.toList).1.clean], .int .i64 (PMst.dec s.data.toList).2]) ∧ Below w.heap.size w w' := mdec_any s hs w
theorem five_all (m : Mst) : (five m).all (·.oneCell') = true := by simp [five, Value.oneCell']
theorem z_all : zM.all (·.oneCell') = true := by simp [zM, Value.oneCell']
theorem size_mst (m : Mst) : (Try.prog.info? 24).map (·.size) = some (five m).size := by kernel_rfl
theorem size_zM : (Try.prog.info? 24).map (·.size) = some zM.size := by kernel_rfl
/-- the result's block -/
def Best (w wr : World) (B : Mst) : Prop := wr.heap[w.heap.size]? = some (.cells (five B) 24 (0, 0)) ∧ Below w.heap.size w wr
theorem Best.keep {w wr w2 : World} {B : Mst} (h : Best w wr B) (hb : Below wr.heap.size wr w2) : Best w w2 B := ⟨(hb.block _ (Array.getElem?_eq_some_iff.1 h.1).1).trans h.1, h.2.step hb⟩
theorem Best.box {w wr : World} {B : Mst} (h : Best w wr B) (C : Array Value) (t : TypeId) : Best w (wr.alloc (.cells C t)) B := h.keep ((Below.refl _ _).alloc (Nat.le_refl _) _)
theorem Best.put {w wr : World} {B : Mst} (h : Best w wr B) (C : Mst) : Best w (wr.setRow w.heap.size (five C)) C := ⟨setRow_heap _ _ _ _ _ _ h.1, below_setRow h.2 (Nat.le_refl _) _⟩
theorem mload_nil (a : Int) (h1 : 0 ≤ a) (h2 : a ≤ 1000000) (w : World) : Calls Try.prog 15 #[.pointer none, .int .i64 a] w fun e w' => e = .returned (.tuple #[mv PMst.zero, .int .i64 1]) ∧ Below w.heap.size w w' := by
  have HZS := Lib.hid (size_mst PMst.zero)
  have HZ1 := Lib.hid (five_all PMst.zero)
  have HB0 : Hid (Best w (w.alloc (.cells zM 24)) PMst.zero) := Lib.hid ⟨heap_alloc_new w _, (Below.refl _ _).alloc (Nat.le_refl _) _⟩
  go_enter Try.func15, Try.ntmps15
  go_wp2
  go_loopw [11] (fun iv wr => iv = .int .i64 0 ∧ wr = w.alloc (.cells zM 24)) (fun iv _ => 2 - (intOf iv).toNat)
  case atStart => exact ⟨rfl, rfl⟩
  case round =>
    obtain ⟨rfl, rfl⟩ := hrel
    go_wp2_with fail
    refine (read_nil a _).mono ?_
    rintro e w2 ⟨rfl, hb⟩
    have HB1 := Lib.hid (HB0.out.keep hb)
    have HZ := Lib.hid HB1.out.1
    clear hb
    go_wp2_with ((with_reducible refine wpList_row_same rfl 24 (.tmp 4) (.tmp 24) rfl w.heap.size 24 (five PMst.zero) ?_ ?_ HZ.out HZS.out HZ1.out ?_); (· rfl); (· rfl))
    (try simp only [Exit.inBlock, Exit.then])
    refine bodyPost_ret (v := .tuple #[mv PMst.zero, .int .i64 1]) ?_ ?_ ?_
    · exact res_mst (m := PMst.zero) rfl _ _ w.heap.size rfl rfl HZ.out
    · rfl
    · exact ⟨rfl, HB1.out.2⟩
def bestN (s0 s1 : List UInt8) : Nat → Mst
  | 0 => PMst.zero
  | 1 => PMst.step PMst.zero 0 s0
  | _ => PMst.step (PMst.step PMst.zero 0 s0) 1 s1
set_option maxHeartbeats 4000000 in
theorem mload_any {b : Nat} {D : PDsk.Dsk} {own : List Nat} (w : World) (h : IsDisk w b D own) (a : Int) (ha1 : 0 ≤ a) (ha2 : a ≤ 1000000) : Calls Try.prog 15 #[.pointer (some ⟨b, 0, none⟩), .int .i64 a] w fun e w' => e = .returned (.tuple #[mv (PMst.ld D a).1, .int .i64 (PMst.ld D a).2]) ∧ Below w.heap.size w w' := by
  obtain ⟨s0, hs0⟩ : ∃ s, (PDsk.read D a).1 = s := ⟨_, rfl⟩
  obtain ⟨s1, hs1⟩ : ∃ s, (PDsk.read D (a + 1)).1 = s := ⟨_, rfl⟩
  obtain ⟨e0, he0⟩ : ∃ s, (PDsk.read D a).2 = s := ⟨_, rfl⟩
  obtain ⟨e1, he1⟩ : ∃ s, (PDsk.read D (a + 1)).2 = s := ⟨_, rfl⟩
  have HL0 : Hid ((⟨s0.toArray⟩ : ByteArray).size ≤ maxLen) := Lib.hid (by rw [size_mk, ← hs0]; have := PDsk.read_length h.1 a; unfold maxLen; omega)
  have HL1 : Hid ((⟨s1.toArray⟩ : ByteArray).size ≤ maxLen) := Lib.hid (by rw [size_mk, ← hs1]; have := PDsk.read_length h.1 (a + 1); unfold maxLen; omega)
  have HS0 := Lib.hid hs0
  have HS1 := Lib.hid hs1
  have HE0 := Lib.hid he0
  have HE1 := Lib.hid he1
  have HD := Lib.hid h
  have HI0 := Lib.hid (size_mst PMst.zero)
  have HZS0 : Hid (∀ m : Mst, (five m).size = (five PMst.zero).size) := Lib.hid fun _ => rfl
  have H10 := Lib.hid (five_all PMst.zero)
  clear hs0 hs1 he0 he1 h
  go_enter Try.func15, Try.ntmps15
  go_wp2
  go_loopw [11] (fun iv wr => ∃ k : Nat, k ≤ 2 ∧ iv = .int .i64 k ∧ (Hid (1 ≤ k → e0 = 0)) ∧ (Hid (2 ≤ k → e1 = 0)) ∧ Hid (Best w wr (bestN s0 s1 k))) (fun iv _ => 2 - (intOf iv).toNat)
  case atStart => exact ⟨0, by omega, rfl, Lib.hid (by omega), Lib.hid (by omega), Lib.hid ⟨heap_alloc_new w _, (Below.refl _ _).alloc (Nat.le_refl _) _⟩⟩
  case round =>
    obtain ⟨k, hk, rfl, hz0, hz1, HR⟩ := hrel
    have hcase : k = 0 ∨ k = 1 ∨ k = 2 := by omega
    rcases hcase with rfl | rfl | rfl
    · obtain ⟨B0, hB0⟩ : ∃ B, bestN s0 s1 0 = B := ⟨_, rfl⟩
      have HB0E := Lib.hid hB0
      have HR : Hid (Best w wr B0) := Lib.hid (by rw [← hB0]; exact HR.out)
      clear hB0
      go_wp2_with fail
      refine (read_any _ (HD.out.below HR.out.2) a (by omega)).mono ?_
      rintro e w2 ⟨rfl, hb⟩
      have HB1 := Lib.hid (HR.out.keep hb)
      have HZ := Lib.hid HB1.out.1
      clear hb HR
      by_cases he : e0 = 0
      · rw [HE0.out, he]
        rw [HS0.out]
        go_wp2_with fail
        refine (mdec_open (⟨s0.toArray⟩ : ByteArray) HL0.out _).mono ?_
        rintro e w3 ⟨rfl, hb⟩
        have HB2 := Lib.hid (HB1.out.keep hb)
        have HZ2 := Lib.hid HB2.out.1
        clear hb HZ HB1
        have hdata : (⟨s0.toArray⟩ : ByteArray).data.toList = s0 := rfl
        rw [hdata]
        clear hdata
        rcases PMst.dec_cases s0 with ⟨hg, h1, h2⟩ | ⟨hg, h2⟩
        · rw [h1, h2]
          clear h1 h2
          have HST : Hid (PMst.step B0 0 s0 = if decide ((PMst.got s0).count % 2 = 0) && decide (B0.count < (PMst.got s0).count) then PMst.got s0 else B0) := Lib.hid (by unfold PMst.step; rw [hg]; rfl)
          clear hg
          generalize PMst.got s0 = G at *
          by_cases hp : G.count % 2 = 0
          · by_cases hc : B0.count < G.count
            · have HS2 : Hid (PMst.step B0 0 s0 = G) := Lib.hid (by rw [HST.out]; simp [hp]; omega)
              have hpi : ((G.count : Int) % 2) = 0 := by omega
              have hbox := Lib.hid (HB2.out.box #[.int .u64 G.count, .int .u64 G.life, .int .u64 G.check, .int .u64 G.first, .bool G.clean] 24)
              have HZ3 := Lib.hid hbox.out.1
              have d0 := (cells5 HZ3.out).1
              have HI2 := Lib.hid (size_mst G)
              have HZS : Hid ((five B0).size = (five G).size) := Lib.hid rfl
              have H1 := Lib.hid (five_all G)
              have HP := Lib.hid (hbox.out.put G)
              clear hp HST
              go_wp2_with ((with_reducible refine wpList_row_put rfl 24 (.tmp 4) (.tmp 48) rfl w.heap.size 24 (five B0) (five G) ?_ ?_ HZ3.out HI2.out HZS.out H1.out ?_); (· rfl); (· rfl))
              go_wp2
              exact ⟨⟨1, by omega, by go_num, Lib.hid (fun _ => he), Lib.hid (by omega), Lib.hid (by rw [show bestN s0 s1 1 = G by rw [← HS2.out, ← HB0E.out]; rfl]; exact HP.out)⟩, by simp [intOf]⟩
            · have HS2 : Hid (PMst.step B0 0 s0 = B0) := Lib.hid (by rw [HST.out]; rw [if_neg]; simp; omega)
              have hpi : ((G.count : Int) % 2) = 0 := by omega
              have hbox := Lib.hid (HB2.out.box #[.int .u64 G.count, .int .u64 G.life, .int .u64 G.check, .int .u64 G.first, .bool G.clean] 24)
              have d0 := (cells5 hbox.out.1).1
              have hnc : decide (B0.count < G.count) = false := by simpa using hc
              clear hp HST
              go_wp2
              exact ⟨⟨1, by omega, by go_num, Lib.hid (fun _ => he), Lib.hid (by omega), Lib.hid (by rw [show bestN s0 s1 1 = B0 by rw [← HS2.out, ← HB0E.out]; rfl]; exact hbox.out)⟩, by simp [intOf]⟩
          · have HS2 : Hid (PMst.step B0 0 s0 = B0) := Lib.hid (by rw [HST.out]; rw [if_neg]; simp; omega)
            have hpi : (((G.count : Int) % 2) == 0) = false := by simp; omega
            have hbox := Lib.hid (HB2.out.box #[.int .u64 G.count, .int .u64 G.life, .int .u64 G.check, .int .u64 G.first, .bool G.clean] 24)
            clear hp HST
            go_wp2
            exact ⟨⟨1, by omega, by go_num, Lib.hid (fun _ => he), Lib.hid (by omega), Lib.hid (by rw [show bestN s0 s1 1 = B0 by rw [← HS2.out, ← HB0E.out]; rfl]; exact hbox.out)⟩, by simp [intOf]⟩
        · rw [h2]
          have HS2 : Hid (PMst.step B0 0 s0 = B0) := Lib.hid (by unfold PMst.step; rw [hg]; rfl)
          generalize (PMst.dec s0).1 = G at *
          have hbox := Lib.hid (HB2.out.box #[.int .u64 G.count, .int .u64 G.life, .int .u64 G.check, .int .u64 G.first, .bool G.clean] 24)
          clear h2 hg
          go_wp2
          exact ⟨⟨1, by omega, by go_num, Lib.hid (fun _ => he), Lib.hid (by omega), Lib.hid (by rw [show bestN s0 s1 1 = B0 by rw [← HS2.out, ← HB0E.out]; rfl]; exact hbox.out)⟩, by simp [intOf]⟩
      · have hei : (e0 == 0) = false := by simpa using he
        have HLD : Hid (PMst.ld D a = (PMst.zero, e0)) := Lib.hid (by unfold PMst.ld; rw [HE0.out, if_neg he])
        have HP := Lib.hid (HB1.out.put PMst.zero)
        rw [HE0.out]
        clear he
        go_wp2_with ((with_reducible refine wpList_row_put rfl 24 (.tmp 4) (.tmp 24) rfl w.heap.size 24 (five B0) (five PMst.zero) ?_ ?_ HZ.out HI0.out (HZS0.out _) H10.out ?_); (· rfl); (· rfl))
        (try simp only [Exit.inBlock, Exit.then])
        refine bodyPost_ret (v := .tuple #[mv PMst.zero, .int .i64 e0]) ?_ ?_ ?_
        · exact res_mst (m := PMst.zero) rfl _ _ w.heap.size rfl rfl HP.out.1
        · rfl
        · exact ⟨by rw [HLD.out], HP.out.2⟩
    · obtain ⟨B1, hB1⟩ : ∃ B, bestN s0 s1 1 = B := ⟨_, rfl⟩
      have HB1E := Lib.hid hB1
      have HR : Hid (Best w wr B1) := Lib.hid (by rw [← hB1]; exact HR.out)
      clear hB1
      go_wp2_with fail
      refine (read_any _ (HD.out.below HR.out.2) (a + 1) (by omega)).mono ?_
      rintro e w2 ⟨rfl, hb⟩
      have HB1 := Lib.hid (HR.out.keep hb)
      have HZ := Lib.hid HB1.out.1
      clear hb HR
      by_cases he : e1 = 0
      · rw [HE1.out, he]
        rw [HS1.out]
        go_wp2_with fail
        refine (mdec_open (⟨s1.toArray⟩ : ByteArray) HL1.out _).mono ?_
        rintro e w3 ⟨rfl, hb⟩
        have HB2 := Lib.hid (HB1.out.keep hb)
        have HZ2 := Lib.hid HB2.out.1
        clear hb HZ HB1
        have hdata : (⟨s1.toArray⟩ : ByteArray).data.toList = s1 := rfl
        rw [hdata]
        clear hdata
        rcases PMst.dec_cases s1 with ⟨hg, h1, h2⟩ | ⟨hg, h2⟩
        · rw [h1, h2]
          clear h1 h2
          have HST : Hid (PMst.step B1 1 s1 = if decide ((PMst.got s1).count % 2 = 1) && decide (B1.count < (PMst.got s1).count) then PMst.got s1 else B1) := Lib.hid (by unfold PMst.step; rw [hg]; rfl)
          clear hg
          generalize PMst.got s1 = G at *
          by_cases hp : G.count % 2 = 1
          · by_cases hc : B1.count < G.count
            · have HS2 : Hid (PMst.step B1 1 s1 = G) := Lib.hid (by rw [HST.out]; simp [hp]; omega)
              have hpi : ((G.count : Int) % 2) = 1 := by omega
              have hbox := Lib.hid (HB2.out.box #[.int .u64 G.count, .int .u64 G.life, .int .u64 G.check, .int .u64 G.first, .bool G.clean] 24)
              have HZ3 := Lib.hid hbox.out.1
              have d0 := (cells5 HZ3.out).1
              have HI2 := Lib.hid (size_mst G)
              have HZS : Hid ((five B1).size = (five G).size) := Lib.hid rfl
              have H1 := Lib.hid (five_all G)
              have HP := Lib.hid (hbox.out.put G)
              clear hp HST
              go_wp2_with ((with_reducible refine wpList_row_put rfl 24 (.tmp 4) (.tmp 48) rfl w.heap.size 24 (five B1) (five G) ?_ ?_ HZ3.out HI2.out HZS.out H1.out ?_); (· rfl); (· rfl))
              go_wp2
              exact ⟨⟨2, by omega, by go_num, Lib.hid (fun _ => hz0.out (by omega)), Lib.hid (fun _ => he), Lib.hid (by rw [show bestN s0 s1 2 = G by rw [← HS2.out, ← HB1E.out]; rfl]; exact HP.out)⟩, by simp [intOf]⟩
            · have HS2 : Hid (PMst.step B1 1 s1 = B1) := Lib.hid (by rw [HST.out]; rw [if_neg]; simp; omega)
              have hpi : ((G.count : Int) % 2) = 1 := by omega
              have hbox := Lib.hid (HB2.out.box #[.int .u64 G.count, .int .u64 G.life, .int .u64 G.check, .int .u64 G.first, .bool G.clean] 24)
              have d0 := (cells5 hbox.out.1).1
              have hnc : decide (B1.count < G.count) = false := by simpa using hc
              clear hp HST
              go_wp2
              exact ⟨⟨2, by omega, by go_num, Lib.hid (fun _ => hz0.out (by omega)), Lib.hid (fun _ => he), Lib.hid (by rw [show bestN s0 s1 2 = B1 by rw [← HS2.out, ← HB1E.out]; rfl]; exact hbox.out)⟩, by simp [intOf]⟩
          · have HS2 : Hid (PMst.step B1 1 s1 = B1) := Lib.hid (by rw [HST.out]; rw [if_neg]; simp; omega)
            have hpi : (((G.count : Int) % 2) == 1) = false := by simp; omega
            have hbox := Lib.hid (HB2.out.box #[.int .u64 G.count, .int .u64 G.life, .int .u64 G.check, .int .u64 G.first, .bool G.clean] 24)
            clear hp HST
            go_wp2
            exact ⟨⟨2, by omega, by go_num, Lib.hid (fun _ => hz0.out (by omega)), Lib.hid (fun _ => he), Lib.hid (by rw [show bestN s0 s1 2 = B1 by rw [← HS2.out, ← HB1E.out]; rfl]; exact hbox.out)⟩, by simp [intOf]⟩
        · rw [h2]
          have HS2 : Hid (PMst.step B1 1 s1 = B1) := Lib.hid (by unfold PMst.step; rw [hg]; rfl)
          generalize (PMst.dec s1).1 = G at *
          have hbox := Lib.hid (HB2.out.box #[.int .u64 G.count, .int .u64 G.life, .int .u64 G.check, .int .u64 G.first, .bool G.clean] 24)
          clear h2 hg
          go_wp2
          exact ⟨⟨2, by omega, by go_num, Lib.hid (fun _ => hz0.out (by omega)), Lib.hid (fun _ => he), Lib.hid (by rw [show bestN s0 s1 2 = B1 by rw [← HS2.out, ← HB1E.out]; rfl]; exact hbox.out)⟩, by simp [intOf]⟩
      · have hei : (e1 == 0) = false := by simpa using he
        have HLD : Hid (PMst.ld D a = (PMst.zero, e1)) := Lib.hid (by unfold PMst.ld; rw [HE0.out, HE1.out, if_pos (hz0.out (by omega)), if_neg he])
        have HP := Lib.hid (HB1.out.put PMst.zero)
        rw [HE1.out]
        clear he
        go_wp2_with ((with_reducible refine wpList_row_put rfl 24 (.tmp 4) (.tmp 24) rfl w.heap.size 24 (five B1) (five PMst.zero) ?_ ?_ HZ.out HI0.out (HZS0.out _) H10.out ?_); (· rfl); (· rfl))
        (try simp only [Exit.inBlock, Exit.then])
        refine bodyPost_ret (v := .tuple #[mv PMst.zero, .int .i64 e1]) ?_ ?_ ?_
        · exact res_mst (m := PMst.zero) rfl _ _ w.heap.size rfl rfl HP.out.1
        · rfl
        · exact ⟨by rw [HLD.out], HP.out.2⟩
    · obtain ⟨B2, hB2⟩ : ∃ B, bestN s0 s1 2 = B := ⟨_, rfl⟩
      have HLD : Hid (PMst.ld D a = if B2.count = 0 then (PMst.zero, 120) else (B2, 0)) := Lib.hid (by
        unfold PMst.ld
        rw [HE0.out, HE1.out, if_pos (hz0.out (by omega)), if_pos (hz1.out (by omega)), HS0.out, HS1.out]
        unfold PMst.load
        rw [show PMst.step (PMst.step PMst.zero 0 s0) 1 s1 = B2 from hB2])
      have HR : Hid (Best w wr B2) := Lib.hid (by rw [← hB2]; exact HR.out)
      have HZ := Lib.hid HR.out.1
      obtain ⟨d0, d1, d2, d3, d4⟩ := cells5 HZ.out
      clear hB2
      by_cases hc : B2.count = 0
      · have hci : (B2.count : Int) = 0 := by omega
        have HLD2 : Hid (PMst.ld D a = (PMst.zero, 120)) := Lib.hid (by rw [HLD.out, if_pos hc])
        have HP := Lib.hid (HR.out.put PMst.zero)
        clear hc
        go_wp2_with ((with_reducible refine wpList_row_put rfl 24 (.tmp 4) (.tmp 53) rfl w.heap.size 24 (five B2) (five PMst.zero) ?_ ?_ HZ.out HI0.out (HZS0.out _) H10.out ?_); (· rfl); (· rfl))
        (try simp only [Exit.inBlock, Exit.then])
        refine bodyPost_ret (v := .tuple #[mv PMst.zero, .int .i64 120]) ?_ ?_ ?_
        · exact res_mst (m := PMst.zero) rfl _ _ w.heap.size rfl rfl HP.out.1
        · rfl
        · exact ⟨by rw [HLD2.out], HP.out.2⟩
      · have hci : ((B2.count : Int) == 0) = false := by simp; omega
        have HLD2 : Hid (PMst.ld D a = (B2, 0)) := Lib.hid (by rw [HLD.out, if_neg hc])
        have HI2 := Lib.hid (size_mst B2)
        have H1 := Lib.hid (five_all B2)
        clear hc
        go_wp2_with ((with_reducible refine wpList_row_same rfl 24 (.tmp 4) (.tmp 54) rfl w.heap.size 24 (five B2) ?_ ?_ HZ.out HI2.out H1.out ?_); (· rfl); (· rfl))
        (try simp only [Exit.inBlock, Exit.then])
        refine bodyPost_ret (v := .tuple #[mv B2, .int .i64 0]) ?_ ?_ ?_
        · exact res_mst (m := B2) rfl _ _ w.heap.size rfl rfl HZ.out
        · rfl
        · exact ⟨by rw [HLD2.out], HR.out.2⟩
end Go.Proofs.Ytmbialiledjigaa
