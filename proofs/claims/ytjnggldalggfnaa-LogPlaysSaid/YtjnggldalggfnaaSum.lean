/-
  The sums of the program and of the document: what each function computes, for every text that fits in memory.
-/
import Derived.Test.YtjnggldalggfnaaRows
import Derived.Test.YtjnggldalggfnaaBase
import Derived.WalkKit
import Derived.ProofKit
import Derived.OpenShut
import Derived.ShutString
import Derived.Deep.WholeRow
import Derived.Deep.MidRow
import Derived.Lib.Hide
import Derived.Test.YtjnggldalggfnaaKit
namespace Go.Proofs.Ytjnggldalggfnaa
open Go.RowKit

/-! ### the table -/
def tabN (n k : Nat) : Nat := (PSum.stepN n (BitVec.ofNat 32 k)).toNat
theorem tabN_lt (n k : Nat) : tabN n k < 4294967296 := (PSum.stepN n (BitVec.ofNat 32 k)).isLt
theorem tabN_zero (k : Nat) (h : k < 4294967296) : tabN 0 k = k := by
  unfold tabN PSum.stepN; rw [BitVec.toNat_ofNat]; omega
theorem stepN_succ' (n : Nat) (c : PSum.W) : PSum.stepN (n + 1) c = PSum.step (PSum.stepN n c) := by
  rw [PSum.stepN_add n 1]; rfl
theorem step_nat (x : PSum.W) : (PSum.step x).toNat = (x.toNat / 2) ^^^ (2197175160 * (x.toNat % 2) % 4294967296) := by
  unfold PSum.step
  rw [BitVec.toNat_xor, BitVec.toNat_ushiftRight, Nat.shiftRight_eq_div_pow]
  have h : x.getLsbD 0 = decide (x.toNat % 2 = 1) := by
    rw [BitVec.getLsbD, Nat.testBit_zero]
  rw [h]
  rcases Nat.mod_two_eq_zero_or_one x.toNat with e | e
  · simp [e]
  · simp [e]; rfl
theorem tabN_step (n k : Nat) : bits BinOp.xor IntKind.u32 ((tabN n k : Int) / 2) (2197175160 * bits BinOp.and IntKind.u32 (tabN n k : Int) 1 % 4294967296) = (tabN (n + 1) k : Int) := by
  have hl := tabN_lt n k
  have e1 : bits BinOp.and IntKind.u32 (tabN n k : Int) 1 = ((tabN n k % 2 : Nat) : Int) := by
    have := u32_and_nat (tabN n k) 1 hl (by decide)
    rw [nat_mask1] at this; exact this
  rw [e1]
  have e2 : (tabN n k : Int) / 2 = ((tabN n k / 2 : Nat) : Int) := by omega
  have e3 : 2197175160 * ((tabN n k % 2 : Nat) : Int) % 4294967296 = ((2197175160 * (tabN n k % 2) % 4294967296 : Nat) : Int) := by omega
  rw [e2, e3, u32_xor_nat _ _ (by omega) (by omega)]
  congr 1
  unfold tabN
  rw [stepN_succ', step_nat]
structure TabUpto (C : Array Value) (k : Nat) : Prop where
  size : C.size = 256
  is : ∀ j, j < k → C[j]? = some (.int .u32 (tabN 8 j : Int))
theorem z256_size : Try.zeroCells125.size = 256 := by kernel_rfl
theorem TabUpto.zero : TabUpto Try.zeroCells125 0 := ⟨z256_size, fun j h => by omega⟩
theorem TabUpto.at {C : Array Value} {k : Nat} (h : TabUpto C k) (hk : k < 256) : ∃ v, C[k]? = some v := ⟨C[k]'(by rw [h.size]; exact hk), by simp⟩
theorem TabUpto.put {C : Array Value} {k : Nat} (h : TabUpto C k) (hk : k < 256) : TabUpto (C.setIfInBounds k (.int .u32 (tabN 8 k : Int))) (k + 1) := by
  refine ⟨by simp [h.size], fun j hj => ?_⟩
  rw [Array.getElem?_setIfInBounds]
  by_cases e : k = j
  · subst e; simp [h.size, hk]
  · rw [if_neg e]; exact h.is j (by omega)
/-- The table, whole. -/
def IsTab (C : Array Value) : Prop := TabUpto C 256
theorem IsTab.one {C : Array Value} (h : IsTab C) : C.all (·.oneCell') = true := by
  rw [Array.all_eq_true]
  intro i hi
  have := h.is i (by have := h.size; omega)
  rw [Array.getElem?_eq_getElem hi] at this
  injection this with this
  rw [this]; rfl
theorem IsTab.info {C : Array Value} (h : IsTab C) : (Try.prog.info? 125).map (·.size) = some C.size := by rw [h.size]; kernel_rfl
theorem IsTab.sizes {C : Array Value} (h : IsTab C) : Try.zeroCells125.size = C.size := by rw [h.size, z256_size]
set_option maxRecDepth 100000 in
set_option maxHeartbeats 1000000 in
theorem table_any (w : World) : Calls Try.prog 92 #[] w fun e w' => ∃ C, IsTab C ∧ e = .returned (.agg C) ∧ w' = w.alloc (.cells C 125) := by
  go_enter Try.func92, Try.ntmps92
  go_wp2
  go_loopw [3] (fun i wr => ∃ (k : Nat) (C : Array Value), k ≤ 256 ∧ i = .int .i64 k ∧ TabUpto C k ∧ wr = w.alloc (.cells C 125)) (fun i _ => 256 - (intOf i).toNat)
  case atStart => exact ⟨0, Try.zeroCells125, by omega, rfl, TabUpto.zero, rfl⟩
  case round =>
    obtain ⟨k, C, hk, rfl, hC, rfl⟩ := hrel
    by_cases hlt : k < 256
    · obtain ⟨v, hv⟩ := hC.at hlt
      have hw32 : ((k : Int) % 4294967296) = (k : Int) := by omega
      go_wp2
      go_loop [8, 2] (fun j c => ∃ (n : Nat), n ≤ 8 ∧ j = .int .i64 n ∧ c = .int .u32 (tabN n k)) (fun j _ => 8 - (intOf j).toNat)
      case atStart => exact ⟨0, by omega, rfl, by rw [tabN_zero k (by omega)]⟩
      case round =>
        obtain ⟨n, hn, rfl, rfl⟩ := hrel
        have hs := tabN_lt n k
        by_cases hlt2 : n < 8
        · have hst := Lib.hid (tabN_step n k)
          go_wp2
          go_round
          case rel => exact ⟨n + 1, by omega, by go_num, by rw [hst.out]⟩
          case measure => simp [intOf]; omega
        · have hn8 : n = 8 := by omega
          clear hlt2 hn
          subst hn8
          go_wp2
          go_roundw
          case rel => exact ⟨k + 1, _, by omega, by go_num, hC.put hlt, rfl⟩
          case measure => simp [intOf]; omega
    · have hk8 : k = 256 := by omega
      clear hlt hk
      subst hk8
      have hi := IsTab.info hC
      go_wp2_with (first
        | (refine wpList_load_row rfl 125 (.tmp 0) rfl w.heap.size rfl 125 C (0, 0) _ (heap_alloc_last w _) Try.underlying125 rfl hi ?_)
        | (refine wpList_row_same rfl 125 (.tmp 0) (.tmp 21) rfl w.heap.size 125 C rfl rfl (heap_alloc_last w _) hi (IsTab.one hC) ?_))
      exact bodyPost_ret (v := .agg C) (results_cell_row rfl _ _ w.heap.size 125 C (0, 0) _ rfl (heap_alloc_last w _) Try.underlying125 rfl hi) rfl ⟨C, hC, rfl, rfl⟩

/-! ### gone on over a text -/
def moreN (c : Nat) (l : List UInt8) : Nat := (PSum.more (BitVec.ofNat 32 c) l).toNat
def runN (c : Nat) (l : List UInt8) : Nat := (PSum.run (~~~ BitVec.ofNat 32 c) l).toNat
theorem runN_lt (c : Nat) (l : List UInt8) : runN c l < 4294967296 := (PSum.run (~~~ BitVec.ofNat 32 c) l).isLt
theorem not_nat (c : Nat) (hc : c < 4294967296) : bits BinOp.xor IntKind.u32 IntKind.u32.max (c : Int) = (runN c [] : Int) := by
  have := u32_xor_nat 4294967295 c (by decide) hc
  refine Eq.trans this ?_
  congr 1
  unfold runN PSum.run
  rw [List.foldl_nil, BitVec.toNat_not, BitVec.toNat_ofNat, Nat.mod_eq_of_lt hc]
  have := BitVec.toNat_not (x := BitVec.ofNat 32 c)
  rw [← BitVec.xor_allOnes, BitVec.toNat_xor, BitVec.toNat_allOnes, BitVec.toNat_ofNat, Nat.mod_eq_of_lt hc] at this
  rw [Nat.xor_comm, this]
theorem not_nat' (c : Nat) (l : List UInt8) : bits BinOp.xor IntKind.u32 IntKind.u32.max (runN c l : Int) = (moreN c l : Int) := by
  rw [not_nat _ (runN_lt c l)]
  unfold runN moreN PSum.more PSum.run
  rw [List.foldl_nil]
  simp
theorem idx_nat (r b : Nat) (hb : b < 256) : bits BinOp.xor IntKind.u8 ((r : Int) % 256) (b : Int) = ((r % 256 ^^^ b : Nat) : Int) := by
  have := u8_xor_nat (r % 256) b (by omega) hb
  rw [← this]; congr 1
theorem idx_lt (r b : Nat) (hb : b < 256) : r % 256 ^^^ b < 256 := Nat.xor_lt_two_pow (n := 8) (by omega) hb
theorem run_step (c : Nat) (l : List UInt8) (b : UInt8) : bits BinOp.xor IntKind.u32 (tabN 8 (runN c l % 256 ^^^ b.toNat) : Int) ((runN c l : Int) / 256) = (runN c (l ++ [b]) : Int) := by
  have h := runN_lt c l
  have e : (runN c l : Int) / 256 = ((runN c l / 256 : Nat) : Int) := by omega
  rw [e, u32_xor_nat _ _ (tabN_lt _ _) (by omega)]
  congr 1
  unfold runN tabN
  rw [PSum.run_append]
  show _ = (PSum.upd _ b).toNat
  rw [PSum.upd_tab, BitVec.toNat_xor, BitVec.toNat_ushiftRight, Nat.shiftRight_eq_div_pow]
  rfl
structure MoreW (w : World) (s : ByteArray) (wr : World) : Prop where
  tab : ∀ j, j < 256 → wr.cell? ⟨w.heap.size + 1, j, none⟩ = some (.int .u32 (tabN 8 j : Int))
  byte : ∀ j (h : j < s.size), wr.cell? ⟨w.heap.size + 1 + 1, j, none⟩ = some (.int .u8 (s[j].toNat : Int))
  below : Below w.heap.size w wr
theorem store_tab {C : Array Value} (hC : IsTab C) {ops : Array Oper} {rest : List Oper} {op : Oper} {a : Act} {w : World} {Q : Exit → Act → World → Prop} {x y : Operand} {g : Nat}
    (hgd : op.guard = none) (ho : op.op = .store 125 x y) (hx : a.eval x = .pointer (some ⟨g, 0, none⟩)) (hy : a.eval y = .agg C) (hg : g = w.heap.size)
    (h : wpList Try.prog ops Q rest (a.put op.dst undef) (w.alloc (.cells C 125))) : wpList Try.prog ops Q (op :: rest) a (w.alloc (.cells Try.zeroCells125 125)) :=
  wpList_row_new hgd _ x y ho g _ _ C hx hy hg hC.info hC.sizes hC.one h
set_option maxRecDepth 100000 in
set_option maxHeartbeats 1000000 in
theorem more_any (c : Nat) (hc : c < 4294967296) (s : ByteArray) (hs : s.size ≤ maxLen) (w : World) : Calls Try.prog 89 #[.int .u32 c, .string s] w fun e w' => e = .returned (.int .u32 (moreN c s.data.toList)) ∧ Below w.heap.size w w' := by
  unfold maxLen at hs
  go_enter Try.func89, Try.ntmps89
  go_wp2_with fail
  refine (table_any _).mono ?_; rintro e w' ⟨C, hC, rfl, rfl⟩
  go_wp2_with ((with_reducible apply store_tab hC); (· rfl); (· rfl); (· rfl); (· rfl); (· simp))
  go_loopw [0, 14] (fun cv iv wr => ∃ (k : Nat), k ≤ s.size ∧ iv = .int .i64 k ∧ cv = .int .u32 (runN c (s.data.toList.take k)) ∧ MoreW w s wr) (fun _ iv _ => s.size - (intOf iv).toNat)
  case atStart => 
    refine ⟨0, by omega, rfl, by rw [not_nat c hc]; rfl, ?_, ?_, ?_⟩
    · intro j hj
      rw [World.cell?_drew, World.cell?_alloc_lt _ _ _ (by simp), World.cell?_alloc2_new]
      exact hC.is j hj
    · intro j hj
      have := World.cell?_alloc_mark ((w.alloc (.cells C 125)).alloc (.cells C 125)) (bytesRow s (grownCap ((w.alloc (.cells C 125)).alloc (.cells C 125)) s.size 0 5)) 5 ((bytesRow s (grownCap ((w.alloc (.cells C 125)).alloc (.cells C 125)) s.size 0 5)).size, (bytesRow s (grownCap ((w.alloc (.cells C 125)).alloc (.cells C 125)) s.size 0 5)).size + 1) j
      rw [World.cell?_drew]
      simp only [World.size_alloc] at this
      rw [this]
      exact bytesRow_at s _ j hj
    · exact ((((Below.refl _ _).alloc (Nat.le_refl _) _).alloc (by simp) _).alloc (by simp; omega) _).drew
  case round =>
    obtain ⟨k, hk, rfl, rfl, hW⟩ := hrel
    clear hC
    by_cases hlt : k < s.size
    · have hB := hW.byte k hlt
      have hb := s[k].toNat_lt
      have hlb := idx_lt (runN c (s.data.toList.take k)) s[k].toNat hb
      have hx := idx_nat (runN c (s.data.toList.take k)) s[k].toNat hb
      have ht := hW.tab _ hlb
      have hr := Lib.hid (run_step c (s.data.toList.take k) s[k])
      have hts := Lib.hid (take_snoc s k hlt)
      have hn := runN_lt c (s.data.toList.take k)
      have hlb0 : (0 : Int) ≤ ((runN c (s.data.toList.take k) % 256 ^^^ s[k].toNat : Nat) : Int) := Int.natCast_nonneg _
      have hlb1 : ((runN c (s.data.toList.take k) % 256 ^^^ s[k].toNat : Nat) : Int) < 256 := by omega
      generalize runN c (s.data.toList.take k) % 256 ^^^ s[k].toNat = ix at *
      go_wp2
      go_roundw
      case rel => exact ⟨k + 1, by omega, by go_num, by rw [hts.out, ← hr.out], hW⟩
      case measure => simp [intOf]; omega
    · have hk' : k = s.size := by omega
      have hfin := Lib.hid (not_nat' c (s.data.toList.take k))
      have hal := Lib.hid (show s.data.toList.take k = s.data.toList from List.take_of_length_le (by simp; omega))
      clear hk'
      go_wp2
      go_ret
      rw [hfin.out, hal.out]
      exact ⟨rfl, hW.below⟩

def ofN (l : List UInt8) : Nat := moreN 0 l
theorem ofN_lt (l : List UInt8) : ofN l < 4294967296 := (PSum.more (BitVec.ofNat 32 0) l).isLt
set_option maxHeartbeats 1000000 in
theorem of_any (s : ByteArray) (hs : s.size ≤ maxLen) (w : World) : Calls Try.prog 84 #[.string s] w fun e w' => e = .returned (.int .u32 (ofN s.data.toList)) ∧ Below w.heap.size w w' := by
  go_enter Try.func84, Try.ntmps84
  go_wp2_with fail
  refine (more_any 0 (by decide) s hs _).mono ?_; rintro e w' ⟨rfl, hb⟩
  go_wp2
  go_ret
  exact ⟨rfl, hb⟩
theorem conv_back4 (w : World) (c : PSum.W) : (convert 43 9 (.slice (some ⟨w.heap.size, 0, none⟩) 4 4)).run Try.prog
      (w.alloc (.cells #[.int .u8 ((c.toNat : Int) % 256), .int .u8 ((c.toNat : Int) / 256 % 256), .int .u8 ((c.toNat : Int) / 65536 % 256), .int .u8 ((c.toNat : Int) / 16777216)] 5)) =
    .ok (.string ⟨(PSum.le4 c).toArray⟩) (w.alloc (.cells #[.int .u8 ((c.toNat : Int) % 256), .int .u8 ((c.toNat : Int) / 256 % 256), .int .u8 ((c.toNat : Int) / 65536 % 256), .int .u8 ((c.toNat : Int) / 16777216)] 5)) := by
  refine run_convert_bytes_back (l := PSum.le4 c) (w.alloc _) _ _ _ ⟨w.heap.size, 0, none⟩ 4 Try.underlying43 Try.underlying5 Try.underlying9 ?_
  have := c.isLt
  intro j hj
  have hj4 : j < 4 := hj
  rw [Addr.add_mid, World.cell?_alloc_new]
  match j, hj4 with
  | 0, _ => simp [PSum.le4]
  | 1, _ => simp [PSum.le4]
  | 2, _ => simp [PSum.le4]
  | 3, _ => simp [PSum.le4]; omega
set_option maxHeartbeats 1000000 in
theorem seal_any (s : ByteArray) (hs : s.size ≤ 1000000) (w : World) : Calls Try.prog 75 #[.string s] w fun e w' => e = .returned (.string ⟨(PSum.sealL s.data.toList).toArray⟩) ∧ Below w.heap.size w w' := by
  go_enter Try.func75, Try.ntmps75
  go_wp2_with fail
  refine (of_any s (by unfold maxLen; omega) _).mono ?_; rintro e w' ⟨rfl, hb⟩
  have hn := ofN_lt s.data.toList
  have hcv : ∀ w, _ := fun w => conv_back4 w (PSum.of s.data.toList)
  rw [show (PSum.of s.data.toList).toNat = ofN s.data.toList from rfl] at hcv
  have hl4 := PSum.le4_length (PSum.of s.data.toList)
  go_wp2
  go_ret
  exact ⟨ret_str (app_mk s _), hb.alloc hb.size _⟩

def openS (l : List UInt8) : List UInt8 := if PSum.openOk l then l.take (l.length - 4) else []
/-! ### the document's -/
theorem step_yes (n k : Nat) (h : (tabN n k % 2 : Nat) = 1) : bits BinOp.xor IntKind.u32 ((tabN n k : Int) / 2) 2197175160 = (tabN (n + 1) k : Int) := by
  have hl := tabN_lt n k
  have e2 : (tabN n k : Int) / 2 = ((tabN n k / 2 : Nat) : Int) := by omega
  rw [e2]
  refine (u32_xor_nat _ 2197175160 (by omega) (by decide)).trans ?_
  congr 1
  unfold tabN at *
  rw [stepN_succ', step_nat, h]
theorem step_no (n k : Nat) (h : (tabN n k % 2 : Nat) = 0) : ((tabN n k : Int) / 2) = (tabN (n + 1) k : Int) := by
  have hl := tabN_lt n k
  have e2 : (tabN n k : Int) / 2 = ((tabN n k / 2 : Nat) : Int) := by omega
  rw [e2]
  congr 1
  unfold tabN at *
  rw [stepN_succ', step_nat, h]
  simp
theorem in_nat (c : Nat) (l : List UInt8) (b : UInt8) : bits BinOp.xor IntKind.u32 (runN c l : Int) (b.toNat : Int) = (tabN 0 (runN c l ^^^ b.toNat) : Int) := by
  have hb := b.toNat_lt
  have h := runN_lt c l
  have hx : runN c l ^^^ b.toNat < 4294967296 := Nat.xor_lt_two_pow (n := 32) h (by omega)
  rw [u32_xor_nat _ _ h (by omega), tabN_zero _ hx]
theorem out_nat (c : Nat) (l : List UInt8) (b : UInt8) : tabN 8 (runN c l ^^^ b.toNat) = runN c (l ++ [b]) := by
  unfold runN tabN
  rw [PSum.run_append]
  show _ = (PSum.upd _ b).toNat
  unfold PSum.upd PSum.ext
  congr 2
  apply BitVec.eq_of_toNat_eq
  have hb := b.toNat_lt
  rw [BitVec.toNat_ofNat, BitVec.toNat_xor, BitVec.toNat_ofNat, Nat.mod_eq_of_lt (a := b.toNat) (by omega), Nat.mod_eq_of_lt]
  exact Nat.xor_lt_two_pow (n := 32) (BitVec.isLt _) (by omega)
theorem not_natR (c : Nat) (hc : c < 4294967296) : bits BinOp.xor IntKind.u32 (c : Int) 4294967295 = (runN c [] : Int) := by
  have h1 := u32_xor_nat 4294967295 c (by decide) hc
  have h2 := u32_xor_nat c 4294967295 hc (by decide)
  rw [Nat.xor_comm] at h2
  exact (h2.trans h1.symm).trans (not_nat c hc)
theorem not_natR' (c : Nat) (l : List UInt8) : bits BinOp.xor IntKind.u32 (runN c l : Int) 4294967295 = (moreN c l : Int) := by
  rw [not_natR _ (runN_lt c l), ← not_nat _ (runN_lt c l), not_nat']
set_option maxRecDepth 100000 in
set_option maxHeartbeats 1000000 in
theorem rmore_any (c : Nat) (hc : c < 4294967296) (s : ByteArray) (hs : s.size ≤ maxLen) (w : World) : Calls Try.prog 93 #[.int .u32 c, .string s] w fun e w' => e = .returned (.int .u32 (moreN c s.data.toList)) ∧ w = w' := by
  unfold maxLen at hs
  have hn0 := not_natR c hc
  go_enter Try.func93, Try.ntmps93
  go_wp2
  clear hn0
  go_loop [0, 5] (fun cv iv => ∃ (k : Nat), k ≤ s.size ∧ iv = .int .i64 k ∧ cv = .int .u32 (runN c (s.data.toList.take k))) (fun _ iv => s.size - (intOf iv).toNat)
  case atStart => exact ⟨0, by omega, rfl, rfl⟩
  case round =>
    obtain ⟨k, hk, rfl, rfl⟩ := hrel
    by_cases hlt : k < s.size
    · have hin := in_nat c (s.data.toList.take k) s[k]
      have hb := s[k].toNat_lt
      have hout := Lib.hid (out_nat c (s.data.toList.take k) s[k])
      have hts := Lib.hid (take_snoc s k hlt)
      generalize runN c (s.data.toList.take k) ^^^ s[k].toNat = ix at *
      go_wp2
      clear hin
      go_loop [0, 6] (fun cv jv => ∃ (n : Nat), n ≤ 8 ∧ jv = .int .i64 n ∧ cv = .int .u32 (tabN n ix)) (fun _ jv => 8 - (intOf jv).toNat)
      case atStart => exact ⟨0, by omega, rfl, rfl⟩
      case round =>
        obtain ⟨n, hn, rfl, rfl⟩ := hrel
        have hs := tabN_lt n ix
        by_cases hlt2 : n < 8
        · rcases Nat.mod_two_eq_zero_or_one (tabN n ix) with h2 | h2
          · have hb2 : ((tabN n ix : Int) % 2 == 1) = false := by rw [beq_eq_false_iff_ne]; omega
            have hst := Lib.hid (step_no n ix h2)
            clear h2
            go_wp2
            go_round
            case rel => exact ⟨n + 1, by omega, by go_num, by rw [← hst.out]⟩
            case measure => simp [intOf]; omega
          · have hb2 : ((tabN n ix : Int) % 2 == 1) = true := by rw [beq_iff_eq]; omega
            have hst := Lib.hid (step_yes n ix h2)
            clear h2
            go_wp2
            go_round
            case rel => exact ⟨n + 1, by omega, by go_num, by rw [← hst.out]⟩
            case measure => simp [intOf]; omega
        · have hn8 : n = 8 := by omega
          clear hlt2 hn
          subst hn8
          go_wp2
          go_round
          case rel => exact ⟨k + 1, by omega, by go_num, by rw [hts.out, ← hout.out]⟩
          case measure => simp [intOf]; omega
    · have hk' : k = s.size := by omega
      have hfin := Lib.hid (not_natR' c (s.data.toList.take k))
      have hal := Lib.hid (show s.data.toList.take k = s.data.toList from List.take_of_length_le (by simp; omega))
      clear hk'
      go_wp2
      go_ret
      rw [hfin.out, hal.out]
      exact ⟨rfl, rfl⟩
set_option maxHeartbeats 1000000 in
theorem rof_any (s : ByteArray) (hs : s.size ≤ maxLen) (w : World) : Calls Try.prog 90 #[.string s] w fun e w' => e = .returned (.int .u32 (ofN s.data.toList)) ∧ w = w' := by
  go_enter Try.func90, Try.ntmps90
  go_wp2_with fail
  refine (rmore_any 0 (by decide) s hs _).mono ?_; rintro e w' ⟨rfl, rfl⟩
  go_wp2
  go_ret
  exact ⟨rfl, rfl⟩
def le4N (n k : Nat) : List UInt8 := (List.range k).map fun i => UInt8.ofNat (n / 256 ^ i)
theorem le4N_succ (n k : Nat) : le4N n (k + 1) = le4N n k ++ [UInt8.ofNat (n / 256 ^ k)] := by simp [le4N, List.range_succ]
theorem le4N_four (l : List UInt8) : l ++ le4N (ofN l) 4 = PSum.sealL l := by
  unfold PSum.sealL
  congr 1
  have : ofN l = (PSum.of l).toNat := rfl
  rw [this]
  unfold le4N PSum.le4
  simp [List.range_succ]
theorem div_step (n k : Nat) : ((n / 256 ^ k : Nat) : Int) / 256 = ((n / 256 ^ (k + 1) : Nat) : Int) := by
  rw [Nat.pow_succ, ← Nat.div_div_eq_div_mul]; omega
theorem byte_int (n : Nat) : Value.int .u8 ((n : Int) % 256) = Value.int .u8 (((UInt8.ofNat n).toNat : Nat) : Int) := by
  rw [UInt8.toNat_ofNat']; congr 1
end Go.Proofs.Ytjnggldalggfnaa
