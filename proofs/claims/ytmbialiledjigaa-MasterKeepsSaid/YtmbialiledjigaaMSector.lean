/-
  A sector of one of two masters, or of any text.
-/
import Derived.Test.YtmbialiledjigaaMst9
import Derived.Lib.BufferWrite
namespace Go
theorem run_copy_str {P : Program} (w : World) (dT sT ty elem : TypeId) (b o n cap : Nat) (t : ByteArray)
    (hu : P.underlying dT = some (.slice elem)) (hz : (P.info? elem).map (·.size) = some 1) (hth : w.there b o n) :
    (Builtin.copy_ #[dT, sT] ty #[.slice (some ⟨b, o, none⟩) n cap, .string t]).run P w = .ok (goInt (Nat.min t.size n)) (w.setCells b o (bytesV (t.data.toList.take n))) := by
  have hl : (bytesV (t.data.toList.take n)).length ≤ n := by rw [bytesV_length, List.length_take]; omega
  have hst := run_storeCells_cells (P := P) b o (bytesV (t.data.toList.take n)) 0 w (fun j hj => by simpa using (hth j (by omega)).1) (fun j hj => by simpa using (hth j (by omega)).2) (bytesV_one _)
  have hm : List.take (Nat.min t.size n) (t.data.toList.map fun x => Value.int .u8 (x.toNat : Int)) = bytesV (t.data.toList.take n) := by
    unfold bytesV
    rw [← List.map_take]
    congr 1
    have e : t.data.toList.length = t.size := by simp
    by_cases h : t.size ≤ n
    · rw [show Nat.min t.size n = t.size from Nat.min_eq_left h, List.take_of_length_le (by omega), List.take_of_length_le (by omega)]
    · rw [show Nat.min t.size n = n from Nat.min_eq_right (by omega)]
  cases hq : P.info? elem with
  | none => simp [hq] at hz
  | some i =>
    simp [Builtin.copy_, run_underlying hu, Builtin.lenOf, Builtin.firstCells, sizeOf, typeInfo, hq]
    rw [hm, hst]
    simp [Result.andThen]
theorem wpList_copy_str {P : Program} {dT sT elem : TypeId} (hu : P.underlying dT = some (.slice elem)) (hz : (P.info? elem).map (·.size) = some 1) {ops : Array Oper} {rest : List Oper} {o : Oper} {a : Act} {w : World} {Q : Exit → Act → World → Prop} {d x : Operand} {g off n c : Nat} {t : ByteArray}
    (hgd : o.guard = none) (ho : o.op = .call { callee := .builtin .copy, args := #[d, x], argTypes := #[dT, sT] }) (hd : a.eval d = .slice (some ⟨g, off, none⟩) n c) (hx : a.eval x = .string t) (hth : w.there g off n)
    (h : wpList P ops Q rest (a.put o.dst (goInt (Nat.min t.size n))) (w.setCells g off (bytesV (t.data.toList.take n)))) : wpList P ops Q (o :: rest) a w := by
  refine wpList_plain hgd fun K hK => ?_
  have hr := run_copy_str (P := P) w dT sT o.type elem g off n c t hu hz hth
  unfold Oper.wp execOp
  simp only [ho, resolve, invoke, builtin, Sem.run_bind, Sem.run_pure, Result.andThen_ok, List.map_toArray, List.map_cons, List.map_nil, hd, hx, hr]
  exact hK _ _ h
end Go
namespace Go.Proofs.Ytmbialiledjigaa
open Go.RowKit
open PMst (Mst)
theorem size_u8 : (Try.prog.info? 5).map (·.size) = some 1 := by kernel_rfl
def SecPost (w : World) (e : Ending) (w' : World) : Prop := ∃ l : List UInt8, l.length = 128 ∧ e = .returned (.string ⟨l.toArray⟩) ∧ Below w.heap.size w w'
theorem sec_sl (w1 : World) (base : Nat) (hb : base ≤ w1.heap.size) (t : ByteArray) : ∃ l : List UInt8, l.length = 128 ∧ Sl ((w1.alloc (.cells (madeB 128) 5)).setCells w1.heap.size 0 (bytesV (t.data.toList.take 128))) base 5 1 (.slice (some ⟨w1.heap.size, 0, none⟩) 128 128) 128 (bytesV l) := by
  have hS := Sl.of_made w1 base hb 5 128 (by unfold maxLen; omega)
  have hlen : (bytesV (t.data.toList.take 128)).length ≤ 128 := by rw [bytesV_length, List.length_take]; omega
  have h := Sl.setCells (bytesV (t.data.toList.take 128)) 0 _ _ hS (by omega)
  rw [List.take_zero, List.nil_append, Nat.zero_add, Nat.zero_add] at h
  refine ⟨t.data.toList.take 128 ++ (List.replicate 128 0).drop (t.data.toList.take 128).length, by simp; omega, ?_⟩
  rw [bytesV_append]
  have e : bytesV ((List.replicate 128 (0 : UInt8)).drop (t.data.toList.take 128).length) = (bytesV (List.replicate 128 0)).drop (bytesV (t.data.toList.take 128)).length := by
    rw [bytesV_length]; unfold bytesV; rw [List.map_drop]
  rw [e]
  exact h
theorem sec_there (w1 : World) : (w1.alloc (.cells (madeB 128) 5)).there w1.heap.size 0 128 := by
  have hS := Sl.of_made w1 w1.heap.size (Nat.le_refl _) 5 128 (by unfold maxLen; omega)
  exact Sl.there hS (a := 0) (m := 128) (by omega)
theorem below_setCells {B : Nat} {w0 w : World} {g : Nat} (h : Below B w0 w) (hg : B ≤ g) : ∀ (vs : List Value) (o : Nat), Below B w0 (w.setCells g o vs) := by
  intro vs
  induction vs generalizing w with
  | nil => intro o; exact h
  | cons v vs ih => intro o; exact ih (h.setCell (p := ⟨g, o, none⟩) hg v) (o + 1)
set_option maxHeartbeats 4000000 in
theorem sector_any (a b : Mst) (ha : a.Ok) (hb : b.Ok) (k : Nat) (hk : k < 256) (s : ByteArray) (hs : s.size ≤ 200) (w : World) : Calls Try.prog 13 #[mv a, mv b, .int .u8 k, .string s] w (SecPost w) := by
  have HMA := Lib.hid (renc_any a ha)
  have HMB := Lib.hid (renc_any b hb)
  have hB0 : ∀ A B t u, Below w.heap.size w ((w.alloc (.cells A t)).alloc (.cells B u)) := fun A B t u => (made2 w A B t u).2.2
  have HB0 := Lib.hid hB0
  unfold mv at HMA HMB ⊢
  have hmod : ((k : Int) % 3) = ((k % 3 : Nat) : Int) := by omega
  have hm3 : k % 3 < 3 := Nat.mod_lt _ (by decide)
  clear hB0 ha hb
  obtain ⟨q, hq⟩ : ∃ q, k % 3 = q := ⟨_, rfl⟩
  rw [hq] at hmod hm3
  clear hq
  have hqc : q = 0 ∨ q = 1 ∨ q = 2 := by omega
  rcases hqc with rfl | rfl | rfl
  · have hmi : ((k : Int) % 3) = 0 := by omega
    clear hmod hm3
    obtain ⟨t, ht⟩ : ∃ t, (⟨(PMst.enc a).toArray⟩ : ByteArray) = t := ⟨_, rfl⟩
    rw [ht] at HMA
    clear ht
    cases hte : t.toList.isEmpty
    · go_enter Try.func13, Try.ntmps13
      go_wp2_with fail
      refine (HMA.out _).mono ?_
      rintro e w1 ⟨rfl, hb⟩
      have hB := (HB0.out _ _ _ _).step hb
      clear hb
      have hmk : ∀ w, (Instr.makeSlice 25 (.int .i64 128) (.int .i64 128)).run Try.prog w = .ok (.slice (some ⟨w.heap.size, 0, none⟩) 128 128) (w.alloc (.cells (madeB 128) 5)) := fun w => make_bytes 128 (by omega) w
      have HTH := Lib.hid (sec_there w1)
      obtain ⟨l, hl, hS⟩ := sec_sl w1 w.heap.size hB.size t
      have hcv := conv_sl hS
      have HL := Lib.hid hl
      have HBB := Lib.hid (below_setCells (hB.alloc hB.size (.cells (madeB 128) 5)) hB.size (bytesV ((t).data.toList.take 128)) 0)
      clear hl hS hB
      go_wp2_with (with_reducible refine wpList_copy_str Try.underlying25 size_u8 rfl rfl rfl rfl HTH.out ?_)
      go_wp2
      go_ret
      exact ⟨l, HL.out, rfl, HBB.out⟩
    · go_enter Try.func13, Try.ntmps13
      go_wp2_with fail
      refine (HMA.out _).mono ?_
      rintro e w1 ⟨rfl, hb⟩
      have hB := (HB0.out _ _ _ _).step hb
      clear hb
      have hmk : ∀ w, (Instr.makeSlice 25 (.int .i64 128) (.int .i64 128)).run Try.prog w = .ok (.slice (some ⟨w.heap.size, 0, none⟩) 128 128) (w.alloc (.cells (madeB 128) 5)) := fun w => make_bytes 128 (by omega) w
      have HTH := Lib.hid (sec_there w1)
      obtain ⟨l, hl, hS⟩ := sec_sl w1 w.heap.size hB.size s
      have hcv := conv_sl hS
      have HL := Lib.hid hl
      have HBB := Lib.hid (below_setCells (hB.alloc hB.size (.cells (madeB 128) 5)) hB.size (bytesV ((s).data.toList.take 128)) 0)
      clear hl hS hB
      go_wp2_with (with_reducible refine wpList_copy_str Try.underlying25 size_u8 rfl rfl rfl rfl HTH.out ?_)
      go_wp2
      go_ret
      exact ⟨l, HL.out, rfl, HBB.out⟩
  · have hmi : ((k : Int) % 3) = 1 := by omega
    clear hmod hm3
    obtain ⟨t, ht⟩ : ∃ t, (⟨(PMst.enc b).toArray⟩ : ByteArray) = t := ⟨_, rfl⟩
    rw [ht] at HMB
    clear ht
    cases hte : t.toList.isEmpty
    · go_enter Try.func13, Try.ntmps13
      go_wp2_with fail
      refine (HMB.out _).mono ?_
      rintro e w1 ⟨rfl, hb⟩
      have hB := (HB0.out _ _ _ _).step hb
      clear hb
      have hmk : ∀ w, (Instr.makeSlice 25 (.int .i64 128) (.int .i64 128)).run Try.prog w = .ok (.slice (some ⟨w.heap.size, 0, none⟩) 128 128) (w.alloc (.cells (madeB 128) 5)) := fun w => make_bytes 128 (by omega) w
      have HTH := Lib.hid (sec_there w1)
      obtain ⟨l, hl, hS⟩ := sec_sl w1 w.heap.size hB.size t
      have hcv := conv_sl hS
      have HL := Lib.hid hl
      have HBB := Lib.hid (below_setCells (hB.alloc hB.size (.cells (madeB 128) 5)) hB.size (bytesV ((t).data.toList.take 128)) 0)
      clear hl hS hB
      go_wp2_with (with_reducible refine wpList_copy_str Try.underlying25 size_u8 rfl rfl rfl rfl HTH.out ?_)
      go_wp2
      go_ret
      exact ⟨l, HL.out, rfl, HBB.out⟩
    · go_enter Try.func13, Try.ntmps13
      go_wp2_with fail
      refine (HMB.out _).mono ?_
      rintro e w1 ⟨rfl, hb⟩
      have hB := (HB0.out _ _ _ _).step hb
      clear hb
      have hmk : ∀ w, (Instr.makeSlice 25 (.int .i64 128) (.int .i64 128)).run Try.prog w = .ok (.slice (some ⟨w.heap.size, 0, none⟩) 128 128) (w.alloc (.cells (madeB 128) 5)) := fun w => make_bytes 128 (by omega) w
      have HTH := Lib.hid (sec_there w1)
      obtain ⟨l, hl, hS⟩ := sec_sl w1 w.heap.size hB.size s
      have hcv := conv_sl hS
      have HL := Lib.hid hl
      have HBB := Lib.hid (below_setCells (hB.alloc hB.size (.cells (madeB 128) 5)) hB.size (bytesV ((s).data.toList.take 128)) 0)
      clear hl hS hB
      go_wp2_with (with_reducible refine wpList_copy_str Try.underlying25 size_u8 rfl rfl rfl rfl HTH.out ?_)
      go_wp2
      go_ret
      exact ⟨l, HL.out, rfl, HBB.out⟩
  · have hmi : ((k : Int) % 3) = 2 := by omega
    clear hmod hm3
    have hB := HB0.out #[.int .u64 a.count, .int .u64 a.life, .int .u64 a.check, .int .u64 a.first, .bool a.clean] #[.int .u64 b.count, .int .u64 b.life, .int .u64 b.check, .int .u64 b.first, .bool b.clean] 24 24
    have hth := sec_there ((w.alloc (.cells #[.int .u64 a.count, .int .u64 a.life, .int .u64 a.check, .int .u64 a.first, .bool a.clean] 24)).alloc (.cells #[.int .u64 b.count, .int .u64 b.life, .int .u64 b.check, .int .u64 b.first, .bool b.clean] 24))
    obtain ⟨l, hl, hS⟩ := sec_sl ((w.alloc (.cells #[.int .u64 a.count, .int .u64 a.life, .int .u64 a.check, .int .u64 a.first, .bool a.clean] 24)).alloc (.cells #[.int .u64 b.count, .int .u64 b.life, .int .u64 b.check, .int .u64 b.first, .bool b.clean] 24)) w.heap.size hB.size s
    have HBB0 := below_setCells (hB.alloc hB.size (.cells (madeB 128) 5)) hB.size (bytesV (s.data.toList.take 128)) 0
    simp only [World.size_alloc] at hth hS HBB0
    have hcv := conv_sl hS
    have HTH := Lib.hid hth
    have HL := Lib.hid hl
    have HBB := Lib.hid HBB0
    have hmk : ∀ w, (Instr.makeSlice 25 (.int .i64 128) (.int .i64 128)).run Try.prog w = .ok (.slice (some ⟨w.heap.size, 0, none⟩) 128 128) (w.alloc (.cells (madeB 128) 5)) := fun w => make_bytes 128 (by omega) w
    clear hl hS hB hth HBB0
    go_enter Try.func13, Try.ntmps13
    go_wp2_with (with_reducible refine wpList_copy_str Try.underlying25 size_u8 rfl rfl rfl rfl HTH.out ?_)
    go_wp2
    go_ret
    exact ⟨l, HL.out, rfl, HBB.out⟩
end Go.Proofs.Ytmbialiledjigaa
