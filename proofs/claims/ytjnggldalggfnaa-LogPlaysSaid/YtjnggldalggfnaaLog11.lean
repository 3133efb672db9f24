/-
  slices.DeleteFunc of the numbers below a number, from a rising row.
-/
import Derived.Test.YtjnggldalggfnaaLog10
namespace PLog
/-- the row while it is pulled together: j numbers were looked at, r are to go -/
def pulled {α : Type} (xs : List α) (r j : Nat) : List α := (xs.drop r).take (j - r) ++ xs.drop (j - r)
theorem pulled_length {α : Type} (xs : List α) (r j : Nat) (hr : r ≤ xs.length) (hj : j ≤ xs.length) : (pulled xs r j).length = xs.length := by
  unfold pulled; rw [List.length_append, List.length_take, List.length_drop, List.length_drop]; omega
theorem pulled_start {α : Type} (xs : List α) (r j : Nat) (h : j ≤ r) : pulled xs r j = xs := by unfold pulled; rw [show j - r = 0 by omega]; simp
theorem pulled_at {α : Type} (xs : List α) (r j : Nat) (hr : r ≤ xs.length) (hj : j < xs.length) : (pulled xs r j)[j]'(by rw [pulled_length xs r j hr (by omega)]; exact hj) = xs[j] := by
  unfold pulled
  have hl : ((xs.drop r).take (j - r)).length = j - r := by rw [List.length_take, List.length_drop]; omega
  rw [List.getElem_append_right (by omega)]
  rw [List.getElem_drop]
  congr 1
  omega
theorem pulled_set {α : Type} (xs : List α) (r j : Nat) (h : r ≤ j) (hj : j < xs.length) : (pulled xs r j).set (j - r) xs[j] = pulled xs r (j + 1) := by
  unfold pulled
  have hl : ((xs.drop r).take (j - r)).length = j - r := by rw [List.length_take, List.length_drop]; omega
  rw [List.set_append_right _ _ (by omega), hl, Nat.sub_self, show j + 1 - r = (j - r) + 1 by omega]
  have e1 : xs.drop (j - r) = xs[j - r]'(by omega) :: xs.drop (j - r + 1) := List.drop_eq_getElem_cons (by omega)
  have e2 : (xs.drop r).take (j - r + 1) = (xs.drop r).take (j - r) ++ [xs[j]] := by
    rw [List.take_succ_eq_append_getElem (by rw [List.length_drop]; omega), List.getElem_drop]
    congr 2
    congr 1
    omega
  rw [e1, List.set_cons_zero, e2, List.append_assoc]
  rfl
theorem pulled_end {α : Type} (xs : List α) (r : Nat) (_ : r ≤ xs.length) : (pulled xs r xs.length).take (xs.length - r) = xs.drop r := by
  unfold pulled
  rw [List.take_append_of_le_length (by rw [List.length_take, List.length_drop]; omega), List.take_take, Nat.min_self, List.take_of_length_le (by rw [List.length_drop]; omega)]
def lowAt (r : Nat) : Int := if r = 0 then -1 else 0
theorem rank_zero {xs : List Nat} {t : Nat} (h : ∀ k (h : k < xs.length), t ≤ xs[k]) : rank xs t = 0 := rank_of (Nat.zero_le _) (fun _ _ hk => absurd hk (Nat.not_lt_zero _)) (fun k hk _ => h k hk)
/-- where a number of a rising row lies -/
theorem rank_lt {xs : List Nat} (hs : ∀ i j (hij : i < j) (hj : j < xs.length), xs[i]'(Nat.lt_trans hij hj) < xs[j]) (t k : Nat) (hk : k < xs.length) : xs[k] < t ↔ k < rank xs t := by
  -- the rank is found by counting
  have key : ∀ n, n ≤ xs.length → (∀ i (h : i < xs.length), i < n → xs[i] < t) → ∃ i, n ≤ i ∧ i ≤ xs.length ∧ (∀ k (h : k < xs.length), k < i → xs[k] < t) ∧ (∀ k (h : k < xs.length), i ≤ k → t ≤ xs[k]) := by
    intro n hn
    induction hm : xs.length - n generalizing n with
    | zero => intro h; exact ⟨n, Nat.le_refl _, hn, h, fun k h hk => by omega⟩
    | succ m ih =>
      intro h
      have hlt : n < xs.length := by omega
      by_cases hc : xs[n] < t
      · obtain ⟨i, h1, h2⟩ := ih (n + 1) (by omega) (by omega) (fun i hi hin => by
          rcases Nat.lt_or_ge i n with e | e
          · exact h i hi e
          · have : i = n := by omega
            subst this; exact hc)
        exact ⟨i, by omega, h2⟩
      · refine ⟨n, Nat.le_refl _, hn, h, fun k hk hnk => ?_⟩
        rcases Nat.eq_or_lt_of_le hnk with e | e
        · subst e; omega
        · have := hs n k e hk; omega
  obtain ⟨i, _, h2, h3, h4⟩ := key 0 (Nat.zero_le _) (fun i _ hi => absurd hi (Nat.not_lt_zero _))
  have hr := rank_of h2 h3 h4
  rw [hr]
  constructor
  · intro h
    rcases Nat.lt_or_ge k i with e | e
    · exact e
    · have := h4 k hk e; omega
  · exact h3 k hk
end PLog
namespace Go
theorem Sl.front {w : World} {base : Nat} {e : TypeId} {n g off c : Nat} {xs : List Value} (h : Sl w base e 1 (.slice (some ⟨g, off, none⟩) n c) n xs) {i : Nat} (h2 : i ≤ n) :
    Sl w base e 1 (.slice (some ⟨g, off, none⟩) i c) i (xs.take i) := by
  obtain ⟨hl, hh⟩ := h
  rcases hh with ⟨e, _⟩ | ⟨g', off', cap, cur, fz, e, hb, hgg, hf, hnc, hcm, hcs, htake⟩
  · cases e
  · simp at e
    obtain ⟨⟨rfl, rfl⟩, rfl⟩ := e
    refine ⟨by rw [List.length_take]; omega, .inr ⟨g, off, c, cur, fz, rfl, hb, hgg, hf, by omega, hcm, hcs, ?_⟩⟩
    rw [← htake, List.take_take]
    congr 1
    omega
/-- 'clear(s)' of a slice of one-cell elements -/
theorem wpList_clear_cells {P : Program} {t elem : TypeId} {z : Value} (hu : P.underlying t = some (.slice elem)) (hz : ∀ w, (zeroValue elem).run P w = .ok z w) (hz1 : z.cells.size = 1) (h1 : ∀ u ∈ (Builtin.zeroCells z.cells 1).toList, u.oneCell' = true)
    {ops : Array Oper} {rest : List Oper} {o : Oper} {a : Act} {w : World} {Q : Exit → Act → World → Prop} {d : Operand} {g off n c : Nat}
    (hgd : o.guard = none) (ho : o.op = .call { callee := .builtin .clear, args := #[d], argTypes := #[t] }) (hd : a.eval d = .slice (some ⟨g, off, none⟩) n c) (hth : w.there g off n)
    (h : ∀ vs : List Value, vs.length = n → wpList P ops Q rest (a.put o.dst (.tuple #[])) (w.setCells g off vs)) : wpList P ops Q (o :: rest) a w := by
  refine wpList_plain hgd fun K hK => ?_
  have hlen : (Builtin.zeroCells z.cells n).toList.length = n := by rw [Array.length_toList, size_zeroCells, hz1, Nat.mul_one]
  have hone : ∀ u ∈ (Builtin.zeroCells z.cells n).toList, u.oneCell' = true := by
    intro u hu
    apply h1
    simp [Builtin.zeroCells, hz1] at hu ⊢
    obtain ⟨_, _, e⟩ := hu
    rw [← e, Nat.mod_one]
    simp [hz1]
  have hst := run_storeCells_cells (P := P) g off (Builtin.zeroCells z.cells n).toList 0 w (fun j hj => by simpa using (hth j (by omega)).1) (fun j hj => by simpa using (hth j (by omega)).2) hone
  have hr : (Builtin.clear_ #[t] o.type #[.slice (some ⟨g, off, none⟩) n c]).run P w = .ok (.tuple #[]) (w.setCells g off (Builtin.zeroCells z.cells n).toList) := by
    cases n with
    | zero =>
      have e : (Builtin.zeroCells z.cells 0).toList = [] := List.eq_nil_of_length_eq_zero hlen
      rw [e]
      simp [Builtin.clear_, run_underlying hu]
      rfl
    | succ n =>
      simp [Builtin.clear_, run_underlying hu, hz, Result.andThen]
      rw [hst]
      rfl
  unfold Oper.wp execOp
  simp only [ho, resolve, invoke, builtin, Sem.run_bind, Sem.run_pure, Result.andThen_ok, List.map_toArray, List.map_cons, List.map_nil, hd, hr]
  exact hK _ _ (h _ hlen)
end Go
namespace Go.Proofs.Ytjnggldalggfnaa
open Go.RowKit
theorem keep1_any (n : Int) (B x : Nat) (w : World) (hc : w.cell? ⟨B, 0, none⟩ = some (.int .u64 x)) : Calls Try.prog 41 #[.int .u64 n, .pointer (some ⟨B, 0, none⟩)] w fun e w' => e = .returned (.bool (decide (n < x))) ∧ w = w' := by
  go_enter Try.func41, Try.ntmps41
  go_wp2
  go_ret
  exact ⟨rfl, rfl⟩
theorem keep1_yes (n : Int) (B x : Nat) (w : World) (hc : w.cell? ⟨B, 0, none⟩ = some (.int .u64 x)) (h : n < x) : Calls Try.prog 41 #[.int .u64 n, .pointer (some ⟨B, 0, none⟩)] w fun e w' => e = .returned (.bool true) ∧ w = w' := by
  have := keep1_any n B x w hc
  rwa [show decide (n < (x : Int)) = true from by simpa using h] at this
theorem keep1_no (n : Int) (B x : Nat) (w : World) (hc : w.cell? ⟨B, 0, none⟩ = some (.int .u64 x)) (h : ¬ n < x) : Calls Try.prog 41 #[.int .u64 n, .pointer (some ⟨B, 0, none⟩)] w fun e w' => e = .returned (.bool false) ∧ w = w' := by
  have := keep1_any n B x w hc
  rwa [show decide (n < (x : Int)) = false from by simpa using h] at this
def delF (B : Nat) : Value := .func (.func 41) #[] #[.pointer (some ⟨B, 0, none⟩)]
theorem indexf_any (w : World) (v : Value) (xs : List Nat) (hr : Rd w v (u64V xs)) (hs : ∀ i j (hij : i < j) (hj : j < xs.length), xs[i]'(Nat.lt_trans hij hj) < xs[j]) (hl : xs.length ≤ 1000000) (B x : Nat) (hc : w.cell? ⟨B, 0, none⟩ = some (.int .u64 x)) :
    Calls Try.prog 66 #[v, delF B] w fun e w' => e = .returned (.int .i64 (PLog.lowAt (PLog.rank xs x))) ∧ w = w' := by
  obtain ⟨p, c, hv, hnc, hcm, hcell⟩ := hr
  rw [u64V_length] at hv hnc
  subst hv
  obtain ⟨n, hn⟩ : ∃ n, xs.length = n := ⟨_, rfl⟩
  have HN := Lib.hid hn
  rw [hn] at hnc
  have HC : Hid (∀ k (hk : k < n), ∃ g off, p = some ⟨g, off, none⟩ ∧ w.cell? ⟨g, off + k, none⟩ = some (.int .u64 (xs[k]'(by rw [HN.out]; exact hk) : Nat))) := Lib.hid (fun k hk => by
    have hk' : k < (u64V xs).length := by rw [u64V_length, hn]; exact hk
    obtain ⟨g, off, e1, e2, e3⟩ := hcell (fun e => by rw [e] at hk'; simp at hk')
    refine ⟨g, off, e1, ?_⟩
    rw [e3 k hk', u64V_at])
  have HRL := Lib.hid (fun k hk => PLog.rank_lt hs x k hk)
  have HK1 : Hid (∀ n : Int, n < x → Calls Try.prog 41 #[.int .u64 n, .pointer (some ⟨B, 0, none⟩)] w fun e w' => e = .returned (.bool true) ∧ w = w') := Lib.hid (fun n h => keep1_yes n B x w hc h)
  have HK0 : Hid (∀ n : Int, ¬ n < x → Calls Try.prog 41 #[.int .u64 n, .pointer (some ⟨B, 0, none⟩)] w fun e w' => e = .returned (.bool false) ∧ w = w') := Lib.hid (fun n h => keep1_no n B x w hc h)
  obtain ⟨r, hrr⟩ : ∃ r, PLog.rank xs x = r := ⟨_, rfl⟩
  have hrn : r ≤ n := by rw [← hrr, ← hn]; exact PLog.rank_le xs x
  rw [hrr] at HRL
  rw [hrr]
  rw [hn] at hl ⊢
  unfold delF
  clear hn hcell hs hnc hcm hrr hc
  by_cases h0 : r = 0
  · have HQ : Hid (PLog.lowAt r = -1) := Lib.hid (by unfold PLog.lowAt; exact if_pos h0)
    have HR0 := Lib.hid h0
    clear h0 hrn
    go_enter Try.func66, Try.ntmps66
    go_wp2
    go_loop [8] (fun iv => ∃ i : Nat, i ≤ n ∧ iv = .int .i64 i) (fun iv => n - (intOf iv).toNat)
    case atStart => exact ⟨0, Nat.zero_le _, rfl⟩
    case round =>
      obtain ⟨i, hin, rfl⟩ := hrel
      by_cases hlt : i < n
      · obtain ⟨g, off, hp, hc⟩ := HC.out i hlt
        subst hp
        obtain ⟨y, hy⟩ : ∃ y, xs[i]'(by rw [HN.out]; exact hlt) = y := ⟨_, rfl⟩
        rw [hy] at hc
        have HC0 := Lib.hid (HK0.out (y : Int) (by
          have := (HRL.out i (by rw [HN.out]; exact hlt))
          rw [hy, HR0.out] at this
          omega))
        have i0 : (0 : Int) ≤ i := by omega
        have i1 : (i : Int) < n := by omega
        have w1 : IntKind.i64.wrap ((i : Int) + 1) = (i + 1 : Nat) := by rw [IntWalk.i64_in _ (by omega)]; omega
        clear hy
        go_wp2_with fail
        refine HC0.out.mono ?_; rintro e w1 ⟨rfl, rfl⟩
        go_wp2
        go_round
        case rel => exact ⟨i + 1, by omega, rfl⟩
        case measure => simp [intOf]; omega
      · have i1 : ¬ (i : Int) < n := by omega
        go_wp2
        go_ret
        rw [HQ.out]
        exact ⟨rfl, rfl⟩
  · have HQ : Hid (PLog.lowAt r = 0) := Lib.hid (by unfold PLog.lowAt; exact if_neg h0)
    have hn0 : 0 < n := by omega
    obtain ⟨g, off, hp, hc⟩ := HC.out 0 hn0
    subst hp
    obtain ⟨y, hy⟩ : ∃ y, xs[0]'(by rw [HN.out]; exact hn0) = y := ⟨_, rfl⟩
    rw [hy] at hc
    have HC0 := Lib.hid (HK1.out (y : Int) (by
      have := (HRL.out 0 (by rw [HN.out]; exact hn0))
      rw [hy] at this
      omega))
    rw [Nat.add_zero] at hc
    clear hy h0 hrn
    go_enter Try.func66, Try.ntmps66
    go_wp2
    go_loop [8] (fun iv => iv = .int .i64 0) (fun _ => 0)
    case atStart => rfl
    case round =>
      subst hrel
      have i0 : (0 : Int) < n := by omega
      go_wp2_with fail
      refine HC0.out.mono ?_; rintro e w1 ⟨rfl, rfl⟩
      go_wp2
      go_ret
      rw [HQ.out]
      exact ⟨rfl, rfl⟩
theorem zero_u64 (w : World) : (zeroValue 22).run Try.prog w = .ok (.int .u64 0) w := by kernel_rfl
def DelPost (v : Value) (xs : List Nat) (r : Nat) (w : World) (e : Ending) (w' : World) : Prop := ∃ v', e = .returned v' ∧ Sl w' 0 22 1 v' (xs.drop r).length (u64V (xs.drop r)) ∧ v'.ownBlock = v.ownBlock ∧ Turns (ownsOf v) w w'
set_option maxRecDepth 20000 in
set_option maxHeartbeats 2000000 in
theorem delf_any (w : World) (v : Value) (xs : List Nat) (hv : Sl w 0 22 1 v xs.length (u64V xs)) (hs : ∀ i j (hij : i < j) (hj : j < xs.length), xs[i]'(Nat.lt_trans hij hj) < xs[j]) (hl : xs.length ≤ 1000000) (B x : Nat) (hc : w.cell? ⟨B, 0, none⟩ = some (.int .u64 x)) (hB : B ∉ ownsOf v) :
    Calls Try.prog 40 #[v, delF B] w (DelPost v xs (PLog.rank xs x) w) := by
  have HIX := Lib.hid (indexf_any w v xs (Rd.of_sl hv) hs hl B x hc)
  have HRL := Lib.hid (fun k hk => PLog.rank_lt hs x k hk)
  obtain ⟨r, hrr⟩ : ∃ r, PLog.rank xs x = r := ⟨_, rfl⟩
  have hrn : r ≤ xs.length := by rw [← hrr]; exact PLog.rank_le xs x
  rw [hrr] at HRL HIX
  rw [hrr]
  have HSV := Lib.hid hv
  obtain ⟨p, c, rfl⟩ := Sl.form hv
  by_cases h0 : r = 0
  · have e0 : PLog.lowAt r = -1 := by unfold PLog.lowAt; exact if_pos h0
    rw [e0] at HIX
    have HR0 := Lib.hid h0
    clear h0 hrn hv hs hc hB hrr e0
    unfold delF at HIX ⊢
    go_enter Try.func40, Try.ntmps40
    go_wp2_with fail
    refine HIX.out.mono ?_; rintro e w1 ⟨rfl, rfl⟩
    go_wp2
    go_ret
    unfold DelPost
    rw [HR0.out, List.drop_zero]
    exact ⟨_, rfl, HSV.out, rfl, Turns.refl _ _⟩
  obtain ⟨n, hn⟩ : ∃ n, xs.length = n := ⟨_, rfl⟩
  have HN := Lib.hid hn
  have hn0 : 0 < n := by omega
  obtain ⟨g, off, c', hpc, hnc, hcm, hgl⟩ := Sl.some_of hv (by omega)
  simp at hpc
  obtain ⟨rfl, rfl⟩ := hpc
  have e0 : PLog.lowAt r = 0 := by unfold PLog.lowAt; exact if_neg h0
  rw [e0] at HIX
  have hBg : B ≠ g := fun e => hB (by subst e; simp [ownsOf, Value.ownBlock])
  have hBl := cell_lt hc
  have HKY : Hid (∀ (W : World) (y : Nat), W.heap[B]? = w.heap[B]? → y < x → Calls Try.prog 41 #[.int .u64 y, .pointer (some ⟨B, 0, none⟩)] W fun e w' => e = .returned (.bool true) ∧ W = w') := Lib.hid (fun W y hW h => keep1_yes y B x W ((World.cell?_of_block (a := ⟨B, 0, none⟩) hW).trans hc) (by omega))
  have HKN : Hid (∀ (W : World) (y : Nat), W.heap[B]? = w.heap[B]? → ¬ y < x → Calls Try.prog 41 #[.int .u64 y, .pointer (some ⟨B, 0, none⟩)] W fun e w' => e = .returned (.bool false) ∧ W = w') := Lib.hid (fun W y hW h => keep1_no y B x W ((World.cell?_of_block (a := ⟨B, 0, none⟩) hW).trans hc) (by omega))
  have HPL : Hid (∀ j, j ≤ n → (PLog.pulled xs r j).length = n) := Lib.hid (fun j hj => by rw [PLog.pulled_length xs r j hrn (by omega), hn])
  have HRN := Lib.hid hrn
  have hr1 : 1 ≤ r := by omega
  have hrn' : r ≤ n := by omega
  have hln : n ≤ 1000000 := by omega
  rw [hn] at HSV hnc HIX ⊢
  have HBG := Lib.hid hBg
  have HZ := Lib.hid (fun (W : World) => zero_u64 W)
  clear hrn hv hs hc hB hrr e0 h0 hl hBg hn
  unfold delF at HIX ⊢
  go_enter Try.func40, Try.ntmps40
  go_wp2_with fail
  refine HIX.out.mono ?_; rintro e w1 ⟨rfl, rfl⟩
  go_wp2
  go_loopw [5, 6] (fun iv jv wr => ∃ j : Nat, 1 ≤ j ∧ j ≤ n ∧ iv = .int .i64 ((j - r : Nat) : Int) ∧ jv = .int .i64 (j : Int) ∧ Hid (Sl wr 0 22 1 (.slice (some ⟨g, off, none⟩) n c) n (u64V (PLog.pulled xs r j))) ∧ Hid (Turns [g] w wr)) (fun _ jv _ => n - (intOf jv).toNat)
  case atStart => exact ⟨1, Nat.le_refl _, hn0, by rw [show 1 - r = 0 by omega]; rfl, rfl, Lib.hid (by rw [PLog.pulled_start xs r 1 hr1]; exact HSV.out), Lib.hid (Turns.refl _ _)⟩
  case round =>
    obtain ⟨j, hj1, hjn, rfl, rfl, HS, HT⟩ := hrel
    obtain ⟨i, hi⟩ : ∃ i, i = j - r := ⟨_, rfl⟩
    rw [← hi]
    have HWB : Hid (wr.heap[B]? = w.heap[B]?) := Lib.hid (HT.out.block B hBl (by simp; exact HBG.out))
    by_cases hlt : j < n
    · have hjx : j < xs.length := by rw [HN.out]; exact hlt
      obtain ⟨y, hy⟩ : ∃ y, xs[j]'hjx = y := ⟨_, rfl⟩
      have hcell : wr.cell? ⟨g, off + j, none⟩ = some (.int .u64 (y : Int)) := by
        have hjl : j < (u64V (PLog.pulled xs r j)).length := by rw [u64V_length, HPL.out j (by omega)]; exact hlt
        rw [HS.out.cell hjl, u64V_at (by rw [HPL.out j (by omega)]; exact hlt), PLog.pulled_at xs r j HRN.out hjx, hy]
      have j0 : (0 : Int) ≤ j := by omega
      have j1 : (j : Int) < n := by omega
      have w1 : IntKind.i64.wrap ((j : Int) + 1) = (j + 1 : Nat) := by rw [IntWalk.i64_in _ (by omega)]; omega
      by_cases hyx : y < x
      · have hjr : j < r := (HRL.out j hjx).1 (by rw [hy]; exact hyx)
        have HC := Lib.hid (HKY.out wr y HWB.out hyx)
        have HPN : Hid (PLog.pulled xs r (j + 1) = PLog.pulled xs r j) := Lib.hid (by rw [PLog.pulled_start xs r (j + 1) (by omega), PLog.pulled_start xs r j (by omega)])
        have HI := Lib.hid hi
        clear hy hjx hyx hi
        go_wp2_with fail
        refine HC.out.mono ?_; rintro e w1 ⟨rfl, rfl⟩
        go_wp2
        go_roundw
        case rel => exact ⟨j + 1, by omega, by omega, by rw [show j + 1 - r = i by have := HI.out; omega], rfl, Lib.hid (by rw [HPN.out]; exact HS.out), HT⟩
        case measure => simp [intOf]; omega
      · have hjr : r ≤ j := by
          rcases Nat.lt_or_ge j r with e | e
          · have := (HRL.out j hjx).2 e; rw [hy] at this; omega
          · exact e
        have HC := Lib.hid (HKN.out wr y HWB.out hyx)
        have hin : i < n := by omega
        have i0 : (0 : Int) ≤ i := by omega
        have i1 : (i : Int) < n := by omega
        have w2 : IntKind.i64.wrap ((i : Int) + 1) = (i + 1 : Nat) := by rw [IntWalk.i64_in _ (by omega)]; omega
        have hfro : wr.frozen? ⟨g, off + i, none⟩ = false := Sl.unshut HS.out (by omega)
        obtain ⟨c5, hc5⟩ : ∃ c5, wr.cell? ⟨g, off + i, none⟩ = some c5 := by
          have hil : i < (u64V (PLog.pulled xs r j)).length := by rw [u64V_length, HPL.out j (by omega)]; exact hin
          exact ⟨_, HS.out.cell hil⟩
        have HPN : Hid ((u64V (PLog.pulled xs r j)).set i (.int .u64 (y : Int)) = u64V (PLog.pulled xs r (j + 1))) := Lib.hid (by
          rw [← PLog.pulled_set xs r j hjr hjx, hy, ← hi]
          unfold u64V
          rw [List.map_set])
        have HI := Lib.hid hi
        clear hy hjx hyx hi
        go_wp2_with fail
        refine HC.out.mono ?_; rintro e w1 ⟨rfl, rfl⟩
        go_wp2
        go_roundw
        case rel => exact ⟨j + 1, by omega, by omega, by (rw [show j + 1 - r = i + 1 by have := HI.out; omega]; first | rfl | go_num | simp), rfl, Lib.hid (by rw [← HPN.out]; exact Sl.set HS.out (by omega) _), Lib.hid (HT.out.set (by simp) _)⟩
        case measure => simp [intOf]; omega
    · have hje : j = n := by omega
      have j1 : ¬ (j : Int) < n := by omega
      have hin : i ≤ n := by omega
      have i0 : (0 : Int) ≤ i := by omega
      have i1 : (i : Int) ≤ n := by omega
      have i2 : (i : Int) ≤ c := by omega
      have zc : ¬ c = i := by omega
      have HTH := Lib.hid (Sl.there HS.out (a := i) (m := n - i) (by omega))
      have HEND : Hid ((PLog.pulled xs r j).take i = xs.drop r) := Lib.hid (by rw [hi, hje, ← HN.out]; exact PLog.pulled_end xs r HRN.out)
      have HDL : Hid ((xs.drop r).length = i) := Lib.hid (by rw [List.length_drop, HN.out, hi, hje])
      have HLJ := Lib.hid (HPL.out j hjn)
      clear hi hje
      have HZ1 : Hid ((Value.int .u64 0).cells.size = 1) := Lib.hid rfl
      have HZ2 : Hid (∀ u ∈ (Builtin.zeroCells (Value.int .u64 0).cells 1).toList, u.oneCell' = true) := Lib.hid (by
        intro u hu
        have e : (Builtin.zeroCells (Value.int .u64 0).cells 1).toList = [.int .u64 0] := by kernel_rfl
        rw [e] at hu
        simp at hu
        subst hu
        rfl)
      go_wp2_with ((with_reducible refine wpList_clear_cells Try.underlying56 HZ.out HZ1.out HZ2.out rfl rfl rfl HTH.out ?_); intro zs hzs)
      have HSE := Lib.hid (Sl.setCells zs i _ _ HS.out (by omega))
      go_wp2
      go_ret
      refine ⟨_, rfl, ?_, rfl, ?_⟩
      · have hf := Sl.front HSE.out hin
        rw [HDL.out]
        have e : ((u64V (PLog.pulled xs r j)).take i ++ zs ++ (u64V (PLog.pulled xs r j)).drop (i + zs.length)).take i = u64V (xs.drop r) := by
          rw [List.append_assoc, List.take_append_of_le_length (by rw [List.length_take, u64V_length, HLJ.out]; omega), List.take_take, Nat.min_self, ← HEND.out]
          unfold u64V
          rw [List.map_take]
        rw [e] at hf
        exact hf
      · exact Turns.mono (Turns.setCells HT.out (by simp) zs) (fun k hk => by simp at hk; subst hk; simp [ownsOf, Value.ownBlock])
end Go.Proofs.Ytjnggldalggfnaa
