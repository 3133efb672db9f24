/-
  Log: Keep.
-/
import Derived.Test.YtjnggldalggfnaaLog11
import Derived.Test.YtjnggldalggfnaaRdS
namespace PLog
theorem framesOf_drop (L : Lg) (j : Nat) : L.bytes = (L.head ++ framesOf L.first (L.texts.take j)) ++ framesOf (endOf L.first (L.texts.take j)) (L.texts.drop j) := by
  unfold Lg.bytes
  rw [List.append_assoc, ← framesOf_append, List.take_append_drop]
structure KeepAt (L : Lg) (x : Nat) : Prop where
  pos : x = endOf L.first (L.texts.take (rank L.starts x))
  le : rank L.starts x ≤ L.texts.length
theorem keepAt_of {L : Lg} {x : Nat} (h : isAt L x = true ∨ x = L.next) : KeepAt L x := by
  rcases h with h | h
  · obtain ⟨j, hj, rfl⟩ := (isAt_iff L x).1 h
    have hr : rank L.starts (endOf L.first (L.texts.take j)) = j := rank_starts L.texts L.first j (by omega)
    exact ⟨by rw [hr], by rw [hr]; omega⟩
  · have e : L.next = endOf L.first (L.texts.take L.texts.length) := by rw [List.take_length]; rfl
    have hr : rank L.starts L.next = L.texts.length := by rw [e]; exact rank_starts L.texts L.first _ (Nat.le_refl _)
    subst h
    exact ⟨by rw [hr]; exact e, by rw [hr]; exact Nat.le_refl _⟩
def kept (L : Lg) (x : Nat) : Lg := { L with head := (L.bytes.take (x - begin L.first)).drop (begin x - begin L.first), texts := L.texts.drop (rank L.starts x), first := x }
theorem kept_facts {L : Lg} (hk : L.Ok) {x : Nat} (h : KeepAt L x) (hf : x ≤ L.forced) :
    L.first ≤ x ∧ x ≤ L.next ∧ begin x - begin L.first ≤ L.bytes.length ∧ (kept L x).bytes = L.bytes.drop (begin x - begin L.first) ∧ (kept L x).starts = L.starts.drop (rank L.starts x) ∧ (kept L x).next = L.next ∧ (kept L x).Ok := by
  obtain ⟨h1, h2⟩ := h
  obtain ⟨j, hj⟩ : ∃ j, rank L.starts x = j := ⟨_, rfl⟩
  rw [hj] at h1 h2
  have hlo : L.first ≤ x := by rw [h1]; exact endOf_take_le L.texts L.first 0 j (Nat.zero_le _)
  have hhi : x ≤ L.next := by
    have := endOf_take_le L.texts L.first j L.texts.length h2
    rw [List.take_length] at this
    rw [h1]; exact this
  have hbm := begin_mono hlo
  have hbl := hk.bytes_length
  have hb1 := begin_le x
  have hb2 := begin_le L.first
  have hhd := hk.head
  have hfl := framesOf_length (L.texts.take j) L.first
  rw [← h1] at hfl
  have hA : (L.head ++ framesOf L.first (L.texts.take j)).length = x - begin L.first := by rw [List.length_append]; omega
  have hbd := framesOf_drop L j
  rw [← h1] at hbd
  have hnext : endOf x (L.texts.drop j) = L.next := by
    have : L.texts = L.texts.take j ++ L.texts.drop j := (List.take_append_drop j L.texts).symm
    show _ = endOf L.first L.texts
    rw [show endOf L.first L.texts = endOf L.first (L.texts.take j ++ L.texts.drop j) by rw [List.take_append_drop], endOf_append, ← h1]
  have hstarts : L.starts.drop j = startsOf x (L.texts.drop j) := by
    show (startsOf L.first L.texts).drop j = _
    rw [show startsOf L.first L.texts = startsOf L.first (L.texts.take j ++ L.texts.drop j) by rw [List.take_append_drop], startsOf_append, ← h1, List.drop_left' (by rw [startsOf_length, List.length_take]; omega)]
  have hkb : (kept L x).bytes = L.bytes.drop (begin x - begin L.first) := by
    show (L.bytes.take (x - begin L.first)).drop (begin x - begin L.first) ++ framesOf x (L.texts.drop (rank L.starts x)) = _
    rw [hj]
    have e1 : L.bytes.take (x - begin L.first) = L.head ++ framesOf L.first (L.texts.take j) := by rw [hbd, List.take_left' hA]
    rw [e1, hbd]
    obtain ⟨A, hAe⟩ : ∃ A, L.head ++ framesOf L.first (L.texts.take j) = A := ⟨_, rfl⟩
    rw [hAe] at hA ⊢
    rw [List.drop_append_of_le_length (by rw [hA]; omega)]
  refine ⟨hlo, hhi, by omega, hkb, ?_, ?_, ?_⟩
  · show startsOf x (L.texts.drop (rank L.starts x)) = _
    rw [hj, hstarts]
  · show endOf x (L.texts.drop (rank L.starts x)) = _
    rw [hj, hnext]
  · refine ⟨hk.n4, hk.n5, hk.place, hk.life, hk.life5, (by have := hk.first; show 110 ≤ x; omega), ?_, (fun t ht => hk.texts t (List.mem_of_mem_drop ht)), hf, ?_, ?_, ?_⟩
    · show begin x + ((L.bytes.take (x - begin L.first)).drop (begin x - begin L.first)).length = x
      rw [List.length_drop, List.length_take]; omega
    · show L.forced ≤ endOf x (L.texts.drop (rank L.starts x))
      rw [hj, hnext]; exact hk.forced5
    · show endOf x (L.texts.drop (rank L.starts x)) ≤ _
      rw [hj, hnext]; exact hk.next5
    · show endOf x (L.texts.drop (rank L.starts x)) - begin x + L.reserved ≤ L.n * 110
      rw [hj, hnext]
      have := hk.ring
      omega
theorem keep_yes {L : Lg} {x : Nat} (h1 : L.first ≤ x) (h2 : x ≤ L.forced) (h3 : isAt L x = true ∨ x = L.next) : keep L x = (kept L x, 0) := by
  unfold keep
  rw [if_neg]
  · rfl
  · rintro (h | h | ⟨h, h'⟩)
    · omega
    · omega
    · rcases h3 with h3 | h3
      · rw [h] at h3; cases h3
      · exact h' h3
end PLog
namespace Go.Proofs.Ytjnggldalggfnaa
open Go.RowKit
/-- 'append(nil, s...)' as one step of a region that draws -/
theorem step_append_nils {P : Program} {ops : Array Oper} {o : Oper} {a : Act} {w : World} {K : Act → World → Prop} {Q : Exit → Act → World → Prop} {E0 : Prop} {t e : TypeId} {size bytes : Nat} (E : ElemT P t e size bytes)
    (hg : o.guard = none) {s x : Operand} (hop : o.op = Op.call { callee := Callee.builtin Builtin.append, args := #[s, x], argTypes := #[t, t] })
    (hs : a.eval s = .slice none 0 0) {p : Option Addr} {m c : Nat} {xs : List Value} (hr : RdS w size (.slice p m c) m xs) (hx : a.eval x = .slice p m c) (h1 : ∀ u ∈ xs, u.oneCell' = true) (hbytes : m * bytes ≤ 140737488355328)
    (hK : ∀ v' w', Sl w' w.heap.size e size v' m xs → Below w.heap.size w w' → K (a.put o.dst v') w') :
    if Region.wanted o (yielded ops a.tmps) = true then Oper.wp P o a w K Q else E0 := by
  have hw : Region.wanted o (yielded ops a.tmps) = true := by simp [Region.wanted, hg]
  rw [if_pos hw]
  obtain ⟨e0, p', c', e1, e2, e3, e4⟩ := hr
  simp at e1
  obtain ⟨rfl, rfl⟩ := e1
  have hrun : ∃ v' w', (Builtin.append_ #[t, t] o.type #[.slice none 0 0, .slice p m c]).run P w = .ok v' w' ∧ Sl w' w.heap.size e size v' m xs ∧ Below w.heap.size w w' := by
    obtain ⟨ht, h0, i, z, hi, hz, hsize, hby, hzs⟩ := E
    cases p with
    | some ad =>
      obtain ⟨v', w', r1, r2, r3, r4, r5⟩ := run_append_sl (P := P) w w.heap.size t o.type e i z size bytes ht hi hz hsize hby hzs h0 (.slice none 0 0) 0 [] (Sl.nil w w.heap.size e size) ad m c xs e0 (by
        intro j u hu
        obtain ⟨hlt, he⟩ := List.getElem?_eq_some_iff.1 hu
        have hm : m ≠ 0 := by intro e; subst e; simp at e0; subst e0; simp at hlt
        obtain ⟨g', off, e5, e6, e7⟩ := e4 hm
        simp at e5
        subst e5
        rw [Addr.add_mid, e7 j hlt, he]) h1 (by unfold maxLen at e3 ⊢; omega) (by rw [Nat.zero_add]; exact hbytes) (Nat.le_refl _)
      rw [Nat.zero_add, List.nil_append] at r2
      exact ⟨v', w', r1, r2, (Below.refl _ w).grown r3 (Nat.le_refl _) (fun k e => by simp [Value.ownBlock] at e)⟩
    | none =>
      have hm : m = 0 := by
        rcases Nat.eq_zero_or_pos m with h | h
        · exact h
        · obtain ⟨_, _, e5, _⟩ := e4 (by omega); simp at e5
      subst hm
      have hxs : xs = [] := by simpa using e0
      subst hxs
      refine ⟨.slice none 0 0, w, ?_, Sl.nil _ _ _ _, Below.refl _ _⟩
      simp [Builtin.append_, run_underlying ht, sizeOf, typeInfo, hi, Builtin.lenOf, Builtin.firstCells]
  obtain ⟨v', w', r, k1, k2⟩ := hrun
  unfold Oper.wp
  simp [execOp, hop, resolve, invoke, builtin, hs, hx, r, Result.andThen]
  exact hK _ _ k1 k2
theorem keep_end {w w3 w5 : World} {g b x : Nat} {vb vs v' vs' : Value} {L L2 : PLog.Lg} {own : List Nat} (h1 : w3.heap[g]? = some (.cells (logV L b vb vs) 64 (0, 0))) (hg2 : g < w.heap.size) (hB : Below w.heap.size w w3)
    (sb : Sl w3 w.heap.size 5 1 v' L2.bytes.length (bytesV L2.bytes)) (ss : Sl w5 0 22 1 vs' L2.starts.length (u64V L2.starts)) (hk : L2.Ok) (hvs : vs'.ownBlock = vs.ownBlock) (d2 : g ∉ ownsOf vs) (hlt : ∀ k ∈ ownsOf vs, k < w.heap.size)
    (t : Turns (ownsOf vs) (w3.setCell ⟨g, 4, none⟩ v') w5) (hown : own = g :: (ownsOf vb ++ ownsOf vs))
    (hv : (((logV L b vb vs).setIfInBounds 4 v').setIfInBounds 5 vs').setIfInBounds 6 (.int .u64 x) = logV L2 b v' vs') :
    ∃ own', IsLog ((w5.setCell ⟨g, 5, none⟩ vs').setCell ⟨g, 6, none⟩ (.int .u64 x)) g L2 b own' ∧ Stepped w ((w5.setCell ⟨g, 5, none⟩ vs').setCell ⟨g, 6, none⟩ (.int .u64 x)) own own' := by
  subst hown
  have eo : ownsOf vs' = ownsOf vs := by unfold ownsOf; rw [hvs]
  have hg4 : (w3.setCell ⟨g, 4, none⟩ v').heap[g]? = some (.cells ((logV L b vb vs).setIfInBounds 4 v') 64 (0, 0)) := heap_set h1 v'
  have hg5 : w5.heap[g]? = some (.cells ((logV L b vb vs).setIfInBounds 4 v') 64 (0, 0)) := (t.block g (Array.getElem?_eq_some_iff.1 hg4).1 d2).trans hg4
  have gb : ∀ k, v'.ownBlock = some k → w.heap.size ≤ k ∧ k < w3.heap.size := fun k e => sb.lt k e
  have hsz : w3.heap.size ≤ w5.heap.size := by have := t.size; simpa using this
  have other : ∀ k, k ≠ g → ((w5.setCell ⟨g, 5, none⟩ vs').setCell ⟨g, 6, none⟩ (.int .u64 x)).heap[k]? = w5.heap[k]? := fun k hk =>
    (Below.heap_setCell _ ⟨g, 6, none⟩ _ k hk).trans (Below.heap_setCell _ ⟨g, 5, none⟩ _ k hk)
  have gs : ∀ k, vs'.ownBlock = some k → k ≠ g := fun k e e2 => by
    subst e2
    rw [hvs] at e
    exact d2 (by unfold ownsOf; rw [e]; simp)
  refine ⟨g :: (ownsOf v' ++ ownsOf vs'), ⟨hk, v', vs', ?_, (sb.base_le (Nat.zero_le _)).keep fun k e => ?_, ss.keep fun k e => other k (gs k e), ?_, ?_, ?_, rfl⟩, ⟨?_, ?_⟩⟩
  · rw [heap_set (heap_set hg5 _) _, hv]
  · have hk := gb k e
    have hne : k ≠ g := by omega
    refine (other k hne).trans ((t.block k (by simpa using hk.2) (fun hm => ?_)).trans (Below.heap_setCell _ ⟨g, 4, none⟩ _ k hne))
    have := hlt k hm; omega
  · intro hm; simp [ownsOf] at hm; have := gb g hm; omega
  · rw [eo]; exact d2
  · intro k hm hm2
    rw [eo] at hm2
    simp [ownsOf] at hm
    have := gb k hm
    have := hlt k hm2
    omega
  · have hm : g ∈ g :: (ownsOf vb ++ ownsOf vs) := by simp
    have t0 : Turns (g :: (ownsOf vb ++ ownsOf vs)) w w3 := Turns.mono (Turns.of_below (bs := []) hB) (by simp)
    exact (((t0.set hm v').trans (Turns.mono t (fun k hk => by simp [hk]))).set hm _).set hm _
  · intro k hk
    rw [eo] at hk
    simp only [List.mem_cons, List.mem_append] at hk ⊢
    rcases hk with rfl | hk | hk
    · exact .inl (.inl rfl)
    · simp [ownsOf] at hk
      exact .inr (gb k hk).1
    · exact .inl (.inr (.inr hk))
theorem lkeep_nil (x : Int) (w : World) : Calls Try.prog 13 #[.pointer none, .int .u64 x] w fun e w' => e = .returned (.int .i64 1) ∧ Below w.heap.size w w' := by
  have hB := (Below.refl w.heap.size w).alloc (Nat.le_refl _) (.cells #[.int .u64 x] 22)
  go_enter Try.func13, Try.ntmps13
  go_wp2_with fail
  refine (made_nil _).mono ?_; rintro e w1 ⟨rfl, rfl⟩
  go_wp2
  go_ret
  exact ⟨rfl, hB⟩
theorem lkeep_no {g b : Nat} {L : PLog.Lg} {own : List Nat} (w : World) (h : IsLog w g L b own) (x : Nat) (hx : x < L.first ∨ L.forced < x ∨ (PLog.isAt L x = false ∧ x ≠ L.next)) :
    Calls Try.prog 13 #[.pointer (some ⟨g, 0, none⟩), .int .u64 x] w (LogPost (.int .i64 (PLog.keep L x).2) g (PLog.keep L x).1 b own w) := by
  have HQ : Hid (PLog.keep L x = (L, 2)) := Lib.hid (by unfold PLog.keep; rw [if_pos hx])
  have H := Lib.hid h
  have hB := (Below.refl w.heap.size w).alloc (Nat.le_refl _) (.cells #[.int .u64 x] 22)
  have HBW := Lib.hid hB
  have h1 : IsLog (w.alloc (.cells #[.int .u64 x] 22)) g L b own := h.below hB
  have H1 := Lib.hid h1
  obtain ⟨_, _, _, _, c6, _, c8, _⟩ := h1.cells
  have HMD := Lib.hid (made_any _ h1)
  by_cases z1 : x < L.first
  · have z1' : (x : Int) < L.first := by omega
    clear h hB h1 hx z1
    go_enter Try.func13, Try.ntmps13
    go_wp2_with fail
    refine HMD.out.mono ?_; rintro e w1 ⟨rfl, rfl⟩
    go_wp2_with fail
    go_quiet (fail)
    go_wp2
    go_ret
    rw [HQ.out]
    exact LogPost.same rfl H.out (HBW.out.trans ((lowN _ nq).mono HBW.out.size))
  have z1' : ¬ (x : Int) < L.first := by omega
  by_cases z2 : L.forced < x
  · have z2' : (L.forced : Int) < x := by omega
    clear h hB h1 hx z1 z2
    have c8' : ∀ n, ((w.alloc (.cells #[.int .u64 x] 22)).drewN n).cell? ⟨g, 8, none⟩ = some (.int .u64 L.forced) := fun n => c8
    go_enter Try.func13, Try.ntmps13
    go_wp2_with fail
    refine HMD.out.mono ?_; rintro e w1 ⟨rfl, rfl⟩
    go_wp2_with fail
    go_quiet (fail)
    obtain ⟨W1, hW1⟩ : ∃ W1, (w.alloc (.cells #[.int .u64 x] 22)).drewN nq = W1 := ⟨_, rfl⟩
    have HW1 := Lib.hid (show Below w.heap.size w W1 by rw [← hW1]; exact HBW.out.trans ((lowN _ nq).mono HBW.out.size))
    have c81 := (H.out.below HW1.out).cells.2.2.2.2.2.2.1
    have cx1 : W1.cell? ⟨w.heap.size, 0, none⟩ = some (.int .u64 x) := by rw [← hW1]; exact cell_of_row _ _ 0 _ _ _ (heap_alloc_new w _)
    rw [hW1]
    clear hW1 c8' c6 c8
    go_wp2_with fail
    go_quiet (fail)
    go_wp2
    go_ret
    rw [HQ.out]
    exact LogPost.same rfl H.out (HW1.out.trans ((lowN _ _).mono HW1.out.size))
  have z2' : ¬ (L.forced : Int) < x := by omega
  have hno : (PLog.isAt L x || decide (x = L.next)) = false := by
    obtain ⟨e1, e2⟩ : PLog.isAt L x = false ∧ x ≠ L.next := by
      rcases hx with h | h | h
      · exact absurd h z1
      · exact absurd h z2
      · exact h
    rw [e1, decide_eq_false e2]
    rfl
  have HBE : Hid (∀ W, IsLog W g L b own → Calls Try.prog 39 #[.pointer (some ⟨g, 0, none⟩), .int .u64 x] W fun e w' => e = .returned (.bool false) ∧ W = w') := Lib.hid (fun W hW => by
    have := begins_any W hW x
    rwa [hno] at this)
  clear h hB h1 hx z1 z2 hno
  go_enter Try.func13, Try.ntmps13
  go_wp2_with fail
  refine HMD.out.mono ?_; rintro e w1 ⟨rfl, rfl⟩
  go_wp2_with fail
  go_quiet (fail)
  obtain ⟨W1, hW1⟩ : ∃ W1, (w.alloc (.cells #[.int .u64 x] 22)).drewN nq = W1 := ⟨_, rfl⟩
  have HW1 := Lib.hid (show Below w.heap.size w W1 by rw [← hW1]; exact HBW.out.trans ((lowN _ nq).mono HBW.out.size))
  have c81 := (H.out.below HW1.out).cells.2.2.2.2.2.2.1
  have cx1 : W1.cell? ⟨w.heap.size, 0, none⟩ = some (.int .u64 x) := by rw [← hW1]; exact cell_of_row _ _ 0 _ _ _ (heap_alloc_new w _)
  rw [hW1]
  clear hW1 c6 c8
  go_wp2_with fail
  go_quiet (fail)
  obtain ⟨W2, hW2⟩ : ∃ W2, W1.drewN nq = W2 := ⟨_, rfl⟩
  have HW2 := Lib.hid (show Below w.heap.size w W2 by rw [← hW2]; exact HW1.out.trans ((lowN _ nq).mono HW1.out.size))
  have cx2 : W2.cell? ⟨w.heap.size, 0, none⟩ = some (.int .u64 x) := by rw [← hW2]; exact cx1
  rw [hW2]
  clear hW2 c81 cx1
  go_wp2_with fail
  refine (HBE.out _ (H.out.below HW2.out)).mono ?_; rintro e w3 ⟨rfl, rfl⟩
  go_wp2
  go_ret
  rw [HQ.out]
  exact LogPost.same rfl H.out HW2.out
end Go.Proofs.Ytjnggldalggfnaa
