/-
  Parts laid into a variable: whole lists of cells at once.
-/
import Derived.Test.YtjnggldalggfnaaDisk2
import Derived.Laws.Cover3
import Derived.Great.BuildSlice
namespace Go.Proofs.Ytjnggldalggfnaa
set_option maxRecDepth 20000
open Go.RowKit
theorem overlay_eq (off : Nat) : ∀ (vs : List Value) (k : Nat) (cs : Array Value), off + k + vs.length ≤ cs.size →
    (vs.zipIdx k).foldl (fun cs (x : Value × Nat) => cs.setIfInBounds (off + x.2) x.1) cs = (cs.toList.take (off + k) ++ vs ++ cs.toList.drop (off + k + vs.length)).toArray
  | [], k, cs, _ => by simp
  | v :: vs, k, cs, h => by
    rw [List.length_cons] at h
    rw [List.zipIdx_cons, List.foldl_cons, overlay_eq off vs (k + 1) _ (by simp; omega)]
    congr 1
    have := list_seg_step cs.toList (off + k) v vs (by rw [Array.length_toList]; omega)
    simp only [Array.toList_setIfInBounds, List.length_cons]
    rw [show off + (k + 1) = off + k + 1 by omega, this]
theorem fill_agg (place : Nat → Option (Nat × Nat)) (cells : Array Value) (i off size : Nat) (cs : List Value) (rest : List (Nat × Value)) (hp : place i = some (off, size)) (hs : cs.length = size) (h : off + size ≤ cells.size) :
    Instr.fill place cells ((i, .agg cs.toArray) :: rest) = Instr.fill place (cells.toList.take off ++ cs ++ cells.toList.drop (off + size)).toArray rest := by
  subst hs
  have e := overlay_eq off cs 0 cells (by omega)
  rw [Instr.fill, hp]
  simp only [Value.cells, List.size_toArray]
  rw [if_neg (by simp; omega)]
  congr 1
  rw [← Array.foldl_toList, Array.toList_zipIdx]
  simpa using e
/-! ### a write, as a value -/
theorem built_wr0 (parts : List (Nat × Value)) : Try.prog.built 84 parts = Instr.fill (#[(0, 1), (1, 128)][·]?) (#[.int .i64 0] ++ Array.replicate 128 (.int .u8 0)) parts := by kernel_rfl
theorem fill_int (place : Nat → Option (Nat × Nat)) (cells : Array Value) (i off : Nat) (q : IntKind) (k : Int) (rest : List (Nat × Value)) (hp : place i = some (off, 1)) (h : off < cells.size) :
    Instr.fill place cells ((i, .int q k) :: rest) = Instr.fill place (cells.setIfInBounds off (.int q k)) rest := by
  rw [Instr.fill, hp]
  have : ¬ off + 1 > cells.size := by omega
  simp [Value.cells, this]
theorem built_wr (k : Int) (cs : List Value) (h : cs.length = 128) : Try.prog.built 84 [(0, .int .i64 k), (1, .agg cs.toArray)] = some (.int .i64 k :: cs).toArray := by
  rw [built_wr0]
  obtain ⟨Z, hZ⟩ : ∃ Z : Array Value, #[.int .i64 0] ++ Array.replicate 128 (.int .u8 0) = Z := ⟨_, rfl⟩
  have hZs : Z.size = 129 := by rw [← hZ]; simp
  rw [hZ]
  clear hZ
  rw [fill_int _ Z 0 0 .i64 k _ rfl (by omega), fill_agg _ _ 1 1 128 cs [] rfl h (by simp; omega), Instr.fill]
  congr 1
  have e1 : ((Z.setIfInBounds 0 (.int .i64 k)).toList.drop (1 + 128)) = [] := List.drop_eq_nil_of_le (by simp; omega)
  rw [e1]
  have e2 : (Z.setIfInBounds 0 (.int .i64 k)).toList.take 1 = [.int .i64 k] := by
    rw [Array.toList_setIfInBounds]
    cases hz : Z.toList with
    | nil => have : Z.toList.length = 129 := by simpa using hZs
             rw [hz] at this; simp at this
    | cons a l => simp
  rw [e2]
  simp
theorem wp_build_wr {dst : Option Tmp} {x y : Operand} {ty : TypeId} {pos : String} {after : Array Edge} {guard : Option (Nat × Bool)} {a : Act} {w : World} {K : Act → World → Prop} {Q : Exit → Act → World → Prop} (k : Nat) (l : List UInt8)
    (hx : a.eval x = .int .i64 k) (hy : a.eval y = .agg (bytesV l).toArray) (hs : l.length = 128) :
    Oper.wp Try.prog ⟨dst, .build 84 #[(0, x), (1, y)], ty, pos, after, guard⟩ a w K Q ↔ K (a.put dst (.agg (wrV (k, l)).toArray)) w := by
  unfold Oper.wp execOp
  have h := run_build (P := Try.prog) w 84 #[(0, .int .i64 k), (1, .agg (bytesV l).toArray)] _ (built_wr k (bytesV l) (by rw [bytesV_length]; exact hs))
  simp only [List.map_toArray, List.map_cons, List.map_nil, hx, hy, Sem.run_bind, h, Result.andThen_ok, Sem.run_pure]
  rfl
theorem wrV_length (p : Nat × List UInt8) : (wrV p).length = p.2.length + 1 := by simp [wrV, bytesV_length]
theorem wp_bslice_wr {dst : Option Tmp} {x : Operand} {ty : TypeId} {pos : String} {after : Array Edge} {guard : Option (Nat × Bool)} {a : Act} {w : World} {K : Act → World → Prop} {Q : Exit → Act → World → Prop} (p : Nat × List UInt8)
    (hx : a.eval x = .agg (wrV p).toArray) (hs : p.2.length = 128) :
    Oper.wp Try.prog ⟨dst, .buildSlice 75 1 #[(0, x)], ty, pos, after, guard⟩ a w K Q ↔ K (a.put dst (.slice (some ⟨w.heap.size, 0, none⟩) 1 1)) (w.alloc (.cells (wrV p).toArray 84)) := by
  unfold Oper.wp execOp
  have h0 : (Try.prog.info? 84).map (fun i => (i.zero, i.size, i.bytes)) = some (some (.agg (#[.int .i64 0] ++ Array.replicate 128 (.int .u8 0))), 129, 136) := by kernel_rfl
  obtain ⟨i, hi, hz, hsz, hb⟩ := info_parts h0
  have h := run_buildSlice (P := Try.prog) w 75 84 1 #[(0, .agg (wrV p).toArray)] (wrV p).toArray i _ Try.underlying75 hi hz (by rw [hsz]; decide) (by rw [hsz]; decide) (by
    rw [hsz, fill_agg _ _ 0 0 129 (wrV p) [] rfl (by rw [wrV_length, hs]) (by simp), Instr.fill]
    congr 1
    simp)
  simp only [List.map_toArray, List.map_cons, List.map_nil, hx, Sem.run_bind, h, Result.andThen_ok, Sem.run_pure]
  rfl
/-! The same as rules: nothing is asked but what the operands are. -/
def asWr : Value → Value → Value
  | .int .i64 k, .agg cs => .agg (.int .i64 k :: cs.toList).toArray
  | _, _ => undef
def wrOk : Value → Value → Bool
  | .int .i64 k, .agg cs => decide (0 ≤ k) && decide (cs.size = 128)
  | _, _ => false
theorem wrOk_out {v u : Value} (h : wrOk v u = true) : ∃ k cs, v = .int .i64 k ∧ u = .agg cs ∧ cs.size = 128 := by
  unfold wrOk at h
  split at h
  · rename_i k cs
    simp at h
    exact ⟨k, cs, rfl, rfl, h.2⟩
  · cases h
theorem rule_build_wr {dst : Option Tmp} {x y : Operand} {ty : TypeId} {pos : String} {after : Array Edge} {guard : Option (Nat × Bool)} {a : Act} {w : World} {K : Act → World → Prop} {Q : Exit → Act → World → Prop}
    (h : wrOk (a.eval x) (a.eval y) = true) : Oper.wp Try.prog ⟨dst, .build 84 #[(0, x), (1, y)], ty, pos, after, guard⟩ a w K Q ↔ K (a.put dst (asWr (a.eval x) (a.eval y))) w := by
  obtain ⟨k, cs, hx, hy, hs⟩ := wrOk_out h
  have hr := run_build (P := Try.prog) w 84 #[(0, .int .i64 k), (1, .agg cs)] _ (by simpa using built_wr k cs.toList (by simpa using hs))
  unfold Oper.wp execOp
  simp only [List.map_toArray, List.map_cons, List.map_nil, hx, hy, Sem.run_bind, hr, Result.andThen_ok, Sem.run_pure, asWr]
  rfl
/-- One write's cells. -/
def isWr : Value → Bool
  | .agg cs => decide (cs.size = 129)
  | _ => false
theorem isWr_out {v : Value} (h : isWr v = true) : ∃ cs, v = .agg cs ∧ cs.size = 129 := by
  unfold isWr at h
  split at h
  · rename_i cs
    exact ⟨cs, rfl, by simpa using h⟩
  · cases h
theorem rule_bslice_wr {dst : Option Tmp} {x : Operand} {ty : TypeId} {pos : String} {after : Array Edge} {guard : Option (Nat × Bool)} {a : Act} {w : World} {K : Act → World → Prop} {Q : Exit → Act → World → Prop}
    (h : isWr (a.eval x) = true) : Oper.wp Try.prog ⟨dst, .buildSlice 75 1 #[(0, x)], ty, pos, after, guard⟩ a w K Q ↔ K (a.put dst (.slice (some ⟨w.heap.size, 0, none⟩) 1 1)) (w.alloc (.cells (a.eval x).cells 84)) := by
  obtain ⟨cs, hx, hs⟩ := isWr_out h
  unfold Oper.wp execOp
  have h0 : (Try.prog.info? 84).map (fun i => (i.zero, i.size, i.bytes)) = some (some (.agg (#[.int .i64 0] ++ Array.replicate 128 (.int .u8 0))), 129, 136) := by kernel_rfl
  obtain ⟨i, hi, hz, hsz, hb⟩ := info_parts h0
  have h := run_buildSlice (P := Try.prog) w 75 84 1 #[(0, .agg cs)] cs i _ Try.underlying75 hi hz (by rw [hsz]; decide) (by rw [hsz]; decide) (by
    rw [hsz]
    have hf := fill_agg (fun i => some (i * 129, 129)) ((Array.range (1 * 129)).map ((Value.agg (#[.int .i64 0] ++ Array.replicate 128 (.int .u8 0))).cells[· % (Value.agg (#[.int .i64 0] ++ Array.replicate 128 (.int .u8 0))).cells.size]!)) 0 0 129 cs.toList [] rfl (by simpa using hs) (by simp)
    rw [Array.toArray_toList] at hf
    rw [hf, Instr.fill, List.take_zero, List.nil_append, List.drop_eq_nil_of_le (by simp), List.append_nil, Array.toArray_toList])
  simp only [List.map_toArray, List.map_cons, List.map_nil, hx, Sem.run_bind, h, Result.andThen_ok, Sem.run_pure, Value.cells]
  rfl
@[go_sem] theorem wrOk_mk (k : Nat) (l : List UInt8) : wrOk (.int .i64 k) (.agg (bytesV l).toArray) = decide (l.length = 128) := by
  unfold wrOk; simp [bytesV_length]
@[go_sem] theorem asWr_mk (k : Nat) (l : List UInt8) : asWr (.int .i64 k) (.agg (bytesV l).toArray) = .agg (wrV (k, l)).toArray := by
  unfold asWr wrV; simp
@[go_sem] theorem isWr_mk (k : Nat) (l : List UInt8) : isWr (.agg (wrV (k, l)).toArray) = decide (l.length = 128) := by
  unfold isWr; simp [wrV_length]
@[go_sem] theorem cells_wr (p : Nat × List UInt8) : (Value.agg (wrV p).toArray).cells = (wrV p).toArray := rfl
end Go.Proofs.Ytjnggldalggfnaa
