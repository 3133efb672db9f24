/-
  slices.Backward over a disk's writes.
-/
import Derived.Test.YtjnggldalggfnaaDisk6
import Derived.Test.YtjnggldalggfnaaRangeA
import Derived.RangeFuncNested
import Derived.RangeFuncBound
import Derived.RangeFuncCalls
import Derived.RangeFuncLeaves
import Derived.Shelf.Abstract
import Derived.Shelf.RegionOpen
import Derived.OwnWalkIn
import Derived.TacticsInMore
import Derived.LoopNIn
import Derived.LoopIn
namespace Go.Proofs.Ytjnggldalggfnaa
open Go.RowKit Go.Shelf
attribute [local go_sem] Oper.semAt_some
@[go_sem] theorem wide_fn_and (f : FuncId) (p : Prop) : (Fence.wide.fn f ∧ p) = p := by simp [Fence.wide]
theorem back_any (p : Option Addr) (m c : Nat) (w : World) : Calls Try.prog 44 #[.slice p m c] w fun e w' => e = .returned (.func (.func 67) #[] #[.pointer (some ⟨w.heap.size, 0, none⟩)]) ∧ w' = w.alloc (.cells #[.slice p m c] 75) := by
  go_enter Try.func44, Try.ntmps44
  go_wp2
  go_ret
  exact ⟨rfl, rfl⟩
abbrev BItem := (Nat × List UInt8) × Nat
def encB (x : BItem) : Array Value := #[.int .i64 x.2, .agg (wrV x.1).toArray]
def bItems (l : List (Nat × List UInt8)) : List BItem := l.zipIdx.reverse
theorem wpListIn_load_mid {F : Fence} {nF : Nat} {P : Program} {ops : Array Oper} {rest : List Oper} {o : Oper} {a : Act} {w : World} {Q : Exit → Act → World → Prop} (hgd : o.guard = none) (ty : TypeId) (x : Operand) (ho : o.op = .load ty x)
    (b off : Nat) (hx : a.eval x = .pointer (some ⟨b, off, none⟩)) (cs : List Value) (d : TypeDesc) (hc : w.rangeAt b off cs)
    (hu : P.underlying ty = some d) (hd : d.isRow = true) (hi : (P.info? ty).map (·.size) = some cs.length)
    (h : wpListIn F nF P ops Q rest (a.put o.dst (.agg cs.toArray)) w) : wpListIn F nF P ops Q (o :: rest) a w := by
  refine wpListIn_plain hgd fun K hK => ?_
  unfold Oper.wpIn
  refine ⟨?_, ?_⟩
  · simp [Oper.about, ho]
  · rw [Oper.semAt_plain F _ _ (by rw [ho]; intro c hc'; cases hc')]
    simp [execOp, ho, hx, run_loadAt_mid w b off ty cs d hc hu hd hi, Result.andThen]
    exact hK _ _ h
theorem bItems_step (l : List (Nat × List UInt8)) (i : Nat) (h : i < l.length) : (l.zipIdx.drop i).reverse = (l.zipIdx.drop (i + 1)).reverse ++ [(l[i], i)] := by
  have e : l.zipIdx[i]'(by simpa using h) = (l[i], i) := by simp
  rw [List.drop_eq_getElem_cons (by simpa using h), List.reverse_cons, e]
theorem bItems_pre (l : List (Nat × List UInt8)) (i : Nat) : (l.zipIdx.drop i).reverse <+: bItems l := by
  refine ⟨(l.zipIdx.take i).reverse, ?_⟩
  rw [← List.reverse_append, List.take_append_drop]; rfl
def KeepB (bl : Nat) (v : Value) (A B : World) : Prop := B.heap[bl]? = A.heap[bl]? ∧ ∀ k, v.ownBlock = some k → B.heap[k]? = A.heap[k]?
set_option maxRecDepth 100000 in
set_option maxHeartbeats 4000000 in
theorem back1_seq (n : Nat) (hn : 1 ≤ n) (bl : Nat) (p : Option Addr) (c : Nat) (l : List (Nat × List UInt8)) (hlv : ∀ q ∈ l, (wrV q).length = 129) (w : World)
    (hbl : Boxed w bl 75 (.slice p l.length c)) (hsl : Sl w 0 84 129 (.slice p l.length c) l.length (looseV l)) :
    Seq Fence.wide n Try.prog 67 #[.pointer (some ⟨bl, 0, none⟩)] encB (fun pre x => pre ++ [x] <+: bItems l) [] (KeepB bl (.slice p l.length c))
      (fun xs => xs = bItems l) (fun pre => pre <+: bItems l) (bItems l).length w := by
  intro ly J Jx W hW hJ hJx hY h0
  have hB0 : Boxed W bl 75 (.slice p l.length c) := (hW.block bl hbl.lt).trans hbl
  have hS0 : Sl W 0 84 129 (.slice p l.length c) l.length (looseV l) := hsl.keep fun k e => hW.block k (hsl.lt k e).2
  have hm63 : l.length ≤ maxLen := by
    rcases hsl.2 with ⟨_, h0⟩ | ⟨_, _, _, _, _, h0, _, _, _, h5, h6, _⟩
    · rw [h0]; exact Nat.zero_le _
    · omega
  unfold maxLen at hm63
  have hlen : (bItems l).length = l.length := by simp [bItems]
  have HS0 := Lib.hid hS0
  have HLEN := Lib.hid hlen
  have HLV := Lib.hid hlv
  clear hsl hW hlen hlv hbl hS0
  have hc0 := hB0.cell
  refine callsIn_of_wp Try.func67 rfl trivial ?_ rfl
  simp only [Try.ntmps67, List.size_toArray, List.length_cons, List.length_nil, Nat.reduceAdd, Nat.reduceSub, Array.replicate_succ, Array.replicate_zero, List.push_toArray, List.append_toArray, List.nil_append, List.cons_append]
  gi_wp2
  gi_loopw [3] (fun iv wr => ∃ r : Nat, r ≤ l.length ∧ iv = .int .i64 ((r : Int) - 1) ∧ Boxed wr bl 75 (.slice p l.length c) ∧ Hid (Sl wr 0 84 129 (.slice p l.length c) l.length (looseV l)) ∧ J (l.zipIdx.drop r).reverse wr) (fun iv _ => (intOf iv + 1).toNat)
  case atStart => exact ⟨l.length, Nat.le_refl _, rfl, hB0, HS0, by rw [List.drop_eq_nil_of_le (by simp)]; exact h0⟩
  case round =>
    obtain ⟨r, hr, rfl, hB, hSl, hJ1⟩ := hrel
    have hc1 := hB.cell
    clear hc0
    by_cases hz : r = 0
    · subst hz
      rw [List.drop_zero] at hJ1
      gi_wp2
      go_end0
      exact ⟨⟨_, rfl⟩, .inl ⟨_, rfl, hJ1⟩⟩
    · obtain ⟨i, rfl⟩ : ∃ i, r = i + 1 := ⟨r - 1, by omega⟩
      clear hz
      obtain ⟨gl, ol, rfl⟩ : ∃ gl ol, p = some ⟨gl, ol, none⟩ := by
        rcases hSl.out.2 with ⟨_, h0⟩ | ⟨g, off, _, _, _, h0, _⟩
        · omega
        · simp at h0; exact ⟨g, off, h0.1⟩
      have hrange := Sl.rangeAt hSl.out (flat_part wrV 129 l i hr HLV.out)
      have hi64 : (Try.prog.info? 84).map (·.size) = some (wrV l[i]).length := by rw [HLV.out _ (List.getElem_mem hr)]; exact size_wr
      have hstep := bItems_step l i hr
      have hpx := bItems_pre l i
      rw [hstep] at hpx
      obtain ⟨fn, tmps, assign, body, hy, hR⟩ := hY (l.zipIdx.drop (i + 1)).reverse (l[i], i) wr hJ1 (by rw [HLEN.out]; simp; omega) hpx
      dsimp only [encB] at hy
      have HST := Lib.hid hstep
      have HPX := Lib.hid hpx
      have HR := Lib.hid hrange
      have HI := Lib.hid hi64
      clear hstep hpx hrange hi64
      generalize l[i] = q at *
      have e1 : ((i + 1 : Nat) : Int) - 1 = i := by omega
      rw [e1]
      have i0 : (0 : Int) ≤ i := by omega
      have i1 : (i : Int) < l.length := by omega
      gi_wp2_with ((with_reducible refine wpListIn_load_mid rfl _ _ rfl gl (ol + i * 129) rfl (wrV q) _ HR.out Try.underlying84 rfl HI.out ?_))
      refine hR.mono ?_
      rintro e W3 (⟨rfl, hJ3, hq1, hq2⟩ | ⟨rfl, hJx3⟩)
      · have hB3 : Boxed W3 bl 75 (.slice (some ⟨gl, ol, none⟩) l.length c) := hq1.trans hB
        have hS3 := Lib.hid (hSl.out.keep hq2)
        clear hc1
        gi_wp2
        go_roundw
        case rel => exact ⟨i, by omega, rfl, hB3, hS3, by rw [HST.out]; exact hJ3⟩
        case measure => simp [intOf]
      · gi_wp2
        refine bodyPost_ret (results_none rfl _ _ _) rfl ?_
        exact ⟨⟨_, rfl⟩, .inr ⟨_, HPX.out, hJx3⟩⟩
end Go.Proofs.Ytjnggldalggfnaa
