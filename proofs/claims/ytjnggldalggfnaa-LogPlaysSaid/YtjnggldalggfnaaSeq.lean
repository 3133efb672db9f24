/-
  The iterator over frames, one behind the other: its contract.
-/
import Derived.RangeFuncNested
import Derived.RangeFuncBound
import Derived.RangeFuncCalls
import Derived.RangeFuncLeaves
import Derived.Shelf.Abstract
import Derived.Shelf.RegionOpen
import Derived.WalkKit
import Derived.OwnWalkIn
import Derived.TacticsInMore
import Derived.LoopNIn
import Derived.LoopIn
import Derived.Test.YtjnggldalggfnaaFrm
import Derived.Test.YtjnggldalggfnaaPScan
import Derived.Test.YtjnggldalggfnaaRange
namespace Go.Proofs.Ytjnggldalggfnaa
open Go.RowKit
attribute [local go_sem] Oper.semAt_some
/-- A word of a world: how long the text in box b is. -/
def boxLen (b : Nat) (W : World) : Nat := match W.cell? ⟨b, 0, none⟩ with | some (.string s) => s.size | _ => 0
def encItem (x : List UInt8 × Int) : Array Value := #[.string ⟨x.1.toArray⟩, .int .i64 x.2]
set_option maxRecDepth 100000 in
set_option maxHeartbeats 4000000 in
theorem frames1_seq (n : Nat) (hn : 1 ≤ n) (bs bl : Nat) (hne : bs ≠ bl) (s : ByteArray) (lsn : Nat) (hl : lsn < 18446744073709551616) (hs : s.size ≤ maxLen) (w : World)
    (hbs : Boxed w bs 9 (.string s)) (hbl : Boxed w bl 22 (.int .u64 lsn)) :
    Seq Fence.wide n Try.prog 78 #[.pointer (some ⟨bs, 0, none⟩), .pointer (some ⟨bl, 0, none⟩)] encItem (fun pre x => pre ++ [x] <+: PFrm.items (s.size + 1) s.data.toList lsn) [bs, bl] (fun A B => B.heap[bs]? = A.heap[bs]? ∧ B.heap[bl]? = A.heap[bl]?)
      (fun xs => xs = PFrm.items (s.size + 1) s.data.toList lsn) (fun pre => pre <+: PFrm.items (s.size + 1) s.data.toList lsn) (PFrm.items (s.size + 1) s.data.toList lsn).length w := by
  intro l J Jx W hW hJ hJx hY h0
  have hS0 : Boxed W bs 9 (.string s) := (hW.block bs hbs.lt).trans hbs
  have hL0 : Boxed W bl 22 (.int .u64 lsn) := (hW.block bl hbl.lt).trans hbl
  refine callsIn_of_wp Try.func78 rfl trivial ?_ rfl
  simp only [Try.ntmps78, List.size_toArray, List.length_cons, List.length_nil, Nat.reduceAdd, Nat.reduceSub, Array.replicate_succ, Array.replicate_zero, List.push_toArray, List.append_toArray, List.nil_append, List.cons_append]
  gi_wp2
  gi_loopw [] (fun wr => ∃ (pre rest : List (List UInt8 × Int)) (t : ByteArray) (m fuel : Nat), PFrm.items (s.size + 1) s.data.toList lsn = pre ++ rest ∧ rest = PFrm.items fuel t.data.toList m ∧ t.size < fuel ∧ t.size ≤ maxLen ∧ m < 18446744073709551616 ∧ Boxed wr bs 9 (.string t) ∧ Boxed wr bl 22 (.int .u64 m) ∧ J pre wr) (fun wr => boxLen bs wr)
  case atStart => exact ⟨[], _, s, lsn, s.size + 1, rfl, rfl, by omega, hs, hl, hS0, hL0, h0⟩
  case round =>
    obtain ⟨pre, rest, t, m, fuel, hx, rfl, hf, ht, hm, hbs1, hbl1, hJ1⟩ := hrel
    have hs1 := hbs1.cell
    have hl1 := hbl1.cell
    by_cases hz : t.size = 0
    · have hz' : (t.size : Int) = 0 := by omega
      have hrest := PFrm.items_zero fuel t.data.toList m (by rw [list_size]; exact hz)
      rw [hrest, List.append_nil] at hx
      have hx' := Lib.hid hx
      clear hx hrest
      gi_wp2
      go_end0
      exact ⟨⟨_, rfl⟩, .inl ⟨pre, hx'.out.symm, hJ1⟩⟩
    have hz' : 0 < (t.size : Int) := by omega
    obtain ⟨f, rfl⟩ : ∃ f, fuel = f + 1 := ⟨fuel - 1, by omega⟩
    obtain ⟨t1, n1, c1, hd⟩ : ∃ t1 n1 c1, PFrm.decode t.data.toList m = (t1, n1, c1) := ⟨_, _, _, rfl⟩
    have hd' := Lib.hid hd
    by_cases hc : c1 = 0
    · subst hc
      obtain ⟨k, hk, hk1, hk2, hk3, hk4, hk5⟩ := PFrm.decode_ok t.data.toList m (by rw [hd])
      rw [PFrm.items_ok f _ _ (by rw [list_size]; exact hz) (by rw [hd])] at hx
      rw [hd] at hk hk1 hx
      simp only at hk hk1 hx
      subst hk
      rw [list_size] at hk4
      have hx' := Lib.hid hx
      clear hx hd
      gi_wp2_with fail
      refine ⟨trivial, (callsIn_wide.2 (decode_any t m hm ht wr)).mono ?_⟩
      rintro e w2 ⟨rfl, hb⟩
      rw [hd'.out]
      have hbs2 : Boxed w2 bs 9 (.string t) := (hb.block bs hbs1.lt).trans hbs1
      have hbl2 : Boxed w2 bl 22 (.int .u64 m) := (hb.block bl hbl1.lt).trans hbl1
      have hJ2 := hJ _ _ _ hJ1 (Turns.of_below hb)
      obtain ⟨fn, tmps, assign, body, hy, hR⟩ := hY pre (t1, 0) w2 hJ2 (by rw [hx'.out, List.length_append, List.length_cons]; omega) ⟨_, (List.append_assoc pre [_] _).trans hx'.out.symm⟩
      dsimp only [encItem] at hy
      clear hs1 hl1
      gi_wp2_with fail
      refine hR.mono ?_
      rintro e W3 (⟨rfl, hJ3, hq1, hq2⟩ | ⟨rfl, hJx3⟩)
      · have hbs3 : Boxed W3 bs 9 (.string t) := hq1.trans hbs2
        have hbl3 : Boxed W3 bl 22 (.int .u64 m) := hq2.trans hbl2
        have hs3 : W3.drew.cell? ⟨bs, 0, none⟩ = some (.string t) := hbs3.cell
        have hl3 : W3.drew.cell? ⟨bl, 0, none⟩ = some (.int .u64 m) := hbl3.cell
        have hf3 : W3.drew.frozen? ⟨bs, 0, none⟩ = false := hbs3.frozen
        have hg3 : W3.drew.frozen? ⟨bl, 0, none⟩ = false := hbl3.frozen
        have hkt : (14 : Int) + k ≤ t.size := by omega
        have hl4 : ∀ v, (W3.setCell ⟨bs, 0, none⟩ v).drew.cell? ⟨bl, 0, none⟩ = some (.int .u64 m) := fun v => (Boxed.other hbl3 (fun e => hne e.symm) v).cell
        have hg4 : ∀ v, (W3.setCell ⟨bs, 0, none⟩ v).drew.frozen? ⟨bl, 0, none⟩ = false := fun v => (Boxed.other hbl3 (fun e => hne e.symm) v).frozen
        have hs4 : ∀ v, (W3.setCell ⟨bl, 0, none⟩ v).drew.cell? ⟨bs, 0, none⟩ = some (.string t) := fun v => (Boxed.other hbs3 hne v).cell
        have hf4 : ∀ v, (W3.setCell ⟨bl, 0, none⟩ v).drew.frozen? ⟨bs, 0, none⟩ = false := fun v => (Boxed.other hbs3 hne v).frozen
        gi_wp2_with fail
        refine wpIn_wide.2 ?_
        go_region
        have hw : IntKind.u64.wrap ((m : Int) + (14 + k)) = (((m + (14 + k)) % 18446744073709551616 : Nat) : Int) := by
          have : IntKind.u64.wrap ((m : Int) + (14 + k)) = ((m : Int) + (14 + k)) % 18446744073709551616 := rfl
          rw [this]; omega
        rw [hw]
        have hdr : (t.extract (14 + k) t.size).data.toList = t.data.toList.drop (14 + k) := by
          rw [extract_end]
        have hsz : (t.extract (14 + k) t.size).size = t.size - (14 + k) := by
          rw [ByteArray.size_extract]; omega
        have hB1 : Boxed ((W3.setCell ⟨bs, 0, none⟩ (.string (t.extract (14 + k) t.size))).setCell ⟨bl, 0, none⟩ (.int .u64 (((m + (14 + k)) % 18446744073709551616 : Nat) : Int))).drew bs 9 (.string (t.extract (14 + k) t.size)) :=
          Boxed.other (Boxed.set _ hbs3) hne _
        have hB2 : Boxed ((W3.setCell ⟨bs, 0, none⟩ (.string (t.extract (14 + k) t.size))).setCell ⟨bl, 0, none⟩ (.int .u64 (((m + (14 + k)) % 18446744073709551616 : Nat) : Int))).drew bl 22 (.int .u64 (((m + (14 + k)) % 18446744073709551616 : Nat) : Int)) :=
          Boxed.set _ (Boxed.other hbl3 (fun e => hne e.symm) _)
        have hJ4 := hJ _ _ _ hJ3 ((((Turns.refl [bs, bl] W3).set (b := bs) (off := 0) (by simp) (.string (t.extract (14 + k) t.size))).set (b := bl) (off := 0) (by simp) (.int .u64 (((m + (14 + k)) % 18446744073709551616 : Nat) : Int))).drew)
        go_roundw
        case rel =>
          have hit : PFrm.items (s.size + 1) s.data.toList lsn = (pre ++ [(t1, 0)]) ++ PFrm.items f (t.extract (14 + k) t.size).data.toList ((m + (14 + k)) % 18446744073709551616) := by
            rw [hx'.out, hdr]; simp; rw [show ((14 : Int) + (k : Int)).toNat = 14 + k by omega]
          iterate 29 apply Exists.intro
          exact ⟨⟨pre ++ [(t1, 0)], _, t.extract (14 + k) t.size, (m + (14 + k)) % 18446744073709551616, f, hit, rfl, by omega, by omega, by omega, hB1, hB2, hJ4⟩, rfl⟩
        case measure =>
          unfold boxLen
          rw [hbs1.cell, hB1.cell]
          show (t.extract (14 + k) t.size).size < t.size
          omega
      · gi_wp2
        refine bodyPost_ret (results_none rfl _ _ _) rfl ?_
        exact ⟨⟨_, rfl⟩, .inr ⟨pre ++ [(t1, 0)], ⟨_, (List.append_assoc pre [_] _).trans hx'.out.symm⟩, hJx3⟩⟩
    · rw [PFrm.items_bad f _ _ (by rw [list_size]; exact hz) (by rw [hd]; exact hc)] at hx
      rw [hd] at hx
      simp only at hx
      have hc' : (c1 != 0) = true := by simpa using hc
      have hx' := Lib.hid hx
      clear hx hd
      gi_wp2_with fail
      refine ⟨trivial, (callsIn_wide.2 (decode_any t m hm ht wr)).mono ?_⟩
      rintro e w2 ⟨rfl, hb⟩
      rw [hd'.out]
      have hJ2 := hJ _ _ _ hJ1 (Turns.of_below hb)
      obtain ⟨fn, tmps, assign, body, hy, hR⟩ := hY pre (t1, c1) w2 hJ2 (by rw [hx'.out, List.length_append, List.length_cons]; omega) ⟨[], by rw [hx'.out]; simp⟩
      dsimp only [encItem] at hy
      clear hs1 hl1
      gi_wp2_with fail
      refine hR.mono ?_
      rintro e W3 (⟨rfl, hJ3, hq1, hq2⟩ | ⟨rfl, hJx3⟩)
      · gi_wp2
        refine bodyPost_ret (results_none rfl _ _ _) rfl ?_
        exact ⟨⟨_, rfl⟩, .inl ⟨pre ++ [(t1, c1)], hx'.out.symm, hJ3⟩⟩
      · gi_wp2
        refine bodyPost_ret (results_none rfl _ _ _) rfl ?_
        exact ⟨⟨_, rfl⟩, .inr ⟨pre ++ [(t1, c1)], ⟨[], by rw [hx'.out]; simp⟩, hJx3⟩⟩
end Go.Proofs.Ytjnggldalggfnaa
