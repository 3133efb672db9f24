/-
  frame.Scan: what it answers.
-/
import Derived.Test.YtjnggldalggfnaaSeq
namespace Go.Proofs.Ytjnggldalggfnaa
open Go.RowKit Go.Shelf
attribute [local go_sem] Oper.semAt_some
set_option maxRecDepth 100000 in
theorem frames_any (s : ByteArray) (m : Nat) (w : World) : Calls Try.prog 63 #[.string s, .int .u64 m] w fun e w' => e = .returned (.func (.func 78) #[] #[.pointer (some ⟨w.heap.size, 0, none⟩), .pointer (some ⟨w.heap.size + 1, 0, none⟩)]) ∧ w' = (w.alloc (.cells #[.string s] 9)).alloc (.cells #[.int .u64 m] 22) := by
  go_enter Try.func63, Try.ntmps63
  go_wp2
  go_ret
  exact ⟨rfl, rfl⟩
@[go_sem] theorem wide_fn_and (f : FuncId) (p : Prop) : (Fence.wide.fn f ∧ p) = p := by simp [Fence.wide]
theorem Sl.shape {A : World} {base : Nat} {e : TypeId} {size : Nat} {v : Value} {n : Nat} {xs : List Value} (h : Sl A base e size v n xs) : ∃ b c, v = .slice b n c := by
  rcases h.2 with ⟨rfl, rfl⟩ | ⟨g, off, cap, cur, fz, rfl, _⟩
  · exact ⟨_, _, rfl⟩
  · exact ⟨_, _, rfl⟩
def strV (l : List (List UInt8)) : List Value := l.map fun t => .string ⟨t.toArray⟩
theorem strV_length (l : List (List UInt8)) : (strV l).length = l.length := by simp [strV]
theorem items_length (f : Nat) : ∀ (s : List UInt8) (m : Nat), (PFrm.items f s m).length ≤ s.length := by
  induction f with
  | zero => intro s m; simp [PFrm.items]
  | succ f ih =>
    intro s m
    by_cases hz : s.length = 0
    · rw [PFrm.items_zero _ _ _ hz]; simp
    by_cases h0 : (PFrm.decode s m).2.2 = 0
    · rw [PFrm.items_ok _ _ _ hz h0]
      obtain ⟨k, hk, _, hk2, _, hk4, _⟩ := PFrm.decode_ok s m h0
      have := ih (s.drop (PFrm.decode s m).2.1.toNat) ((m + (PFrm.decode s m).2.1.toNat) % 18446744073709551616)
      rw [List.length_drop, hk] at this
      rw [hk, List.length_cons]
      omega
    · rw [PFrm.items_bad _ _ _ hz h0]; simp; omega
theorem items_small (f : Nat) : ∀ (s : List UInt8) (m : Nat), ∀ x ∈ PFrm.items f s m, x.1.length ≤ 4096 := by
  induction f with
  | zero => intro s m x hx; simp [PFrm.items] at hx
  | succ f ih =>
    intro s m x hx
    by_cases hz : s.length = 0
    · rw [PFrm.items_zero _ _ _ hz] at hx; simp at hx
    by_cases h0 : (PFrm.decode s m).2.2 = 0
    · rw [PFrm.items_ok _ _ _ hz h0] at hx
      obtain ⟨k, hk, hk1, _, hk3, hk4, _⟩ := PFrm.decode_ok s m h0
      rcases List.mem_cons.1 hx with rfl | hx
      · show (PFrm.decode s m).1.length ≤ 4096
        omega
      · exact ih _ _ x hx
    · rw [PFrm.items_bad _ _ _ hz h0] at hx
      obtain rfl := List.mem_singleton.1 hx
      show (PFrm.decode s m).1.length ≤ 4096
      rw [(PFrm.decode_bad s m h0).1]; simp
/-- What Scan's variables hold. -/
def ScanS (B : Nat) (w : World) (l : List (List UInt8)) (e : Int) (W : World) : Prop :=
  (∃ v, Boxed W B 55 v ∧ Sl W (B + 5) 9 1 v l.length (strV l)) ∧ Boxed W (B + 1) 3 (.int .i64 (PFrm.used l)) ∧ Boxed W (B + 2) 25 (.int .i64 e) ∧ Below B w W ∧ B + 5 ≤ W.heap.size
theorem boxed_turn {bs : List Nat} {A C : World} {b : Nat} {t : TypeId} {v : Value} (h : Boxed A b t v) (hb : b ∉ bs) (t' : Turns bs A C) : Boxed C b t v := (t'.block b h.lt hb).trans h
theorem boxed_book {A : World} {b l : Nat} {t : TypeId} {v : Value} (h : Boxed A b t v) (o' : Obj) (hb : b ≠ l) : Boxed (A.putObj l o') b t v := (World.putObj_heap_other hb).trans h
theorem sl_turn {bs : List Nat} {A C : World} {base : Nat} {e : TypeId} {size : Nat} {v : Value} {n : Nat} {xs : List Value} (h : Sl A base e size v n xs) (hb : ∀ b ∈ bs, b < base) (t : Turns bs A C) : Sl C base e size v n xs :=
  h.keep fun k hk => by
    obtain ⟨h1, h2⟩ := h.lt k hk
    exact t.block k h2 (fun hm => by have := hb k hm; omega)
theorem sl_cells {A : World} {base : Nat} {e : TypeId} {size : Nat} {v : Value} {n : Nat} {xs : List Value} (h : Sl A base e size v n xs) {k : Nat} (hk : v.ownBlock = some k) : ∃ o, A.heap[k]? = some o ∧ o.isCells = true := by
  rcases h.2 with ⟨rfl, _⟩ | ⟨g, off, cap, cur, fz, rfl, _, hgg, _⟩
  · simp [Value.ownBlock] at hk
  · simp [Value.ownBlock] at hk; subst hk; exact ⟨_, hgg, rfl⟩
theorem sl_book {A : World} {base : Nat} {e : TypeId} {size : Nat} {v : Value} {n : Nat} {xs : List Value} (h : Sl A base e size v n xs) {l : Nat} {o : Obj} (o' : Obj) (hl : A.heap[l]? = some o) (ho : o.isCells = false) : Sl (A.putObj l o') base e size v n xs :=
  h.keep fun k hk => by
    obtain ⟨o2, h2, h3⟩ := sl_cells h hk
    refine World.putObj_heap_other (fun e => ?_)
    subst e; rw [hl] at h2; cases h2; rw [ho] at h3; cases h3
theorem scanS_turn {B : Nat} {w A C : World} {l : List (List UInt8)} {e : Int} (h : ScanS B w l e A) (hB : B ≤ w.heap.size) (t : Turns [B + 3, B + 4] A C) : ScanS B w l e C := by
  obtain ⟨⟨v, h1, h2⟩, h3, h4, h5, h6⟩ := h
  exact ⟨⟨v, boxed_turn h1 (by simp) t, sl_turn h2 (by simp) t⟩, boxed_turn h3 (by simp) t, boxed_turn h4 (by simp) t, below_turns h5 hB (by simp) t, Nat.le_trans h6 t.size⟩
theorem scanS_book {B : Nat} {w A : World} {l : List (List UInt8)} {e : Int} (h : ScanS B w l e A) (hB : B ≤ w.heap.size) {k : Nat} {o : Obj} (o' : Obj) (hk : B + 5 ≤ k) (ho : A.heap[k]? = some o) (hc : o.isCells = false) : ScanS B w l e (A.putObj k o') := by
  obtain ⟨⟨v, h1, h2⟩, h3, h4, h5, h6⟩ := h
  exact ⟨⟨v, boxed_book h1 o' (by omega), sl_book h2 o' ho hc⟩, boxed_book h3 o' (by omega), boxed_book h4 o' (by omega), h5.grown (grownBy_putObj' A k o') (Nat.le_trans hB h5.size) (fun k e => by cases e; omega), by simpa [World.putObj] using h6⟩
def ScanI (B : Nat) (w : World) (pre : List (List UInt8 × Int)) (W : World) : Prop := (∀ x ∈ pre, x.2 = 0) ∧ ScanS B w (pre.map (·.1)) 0 W
def ScanX (B : Nat) (w : World) (c : Code) (pre : List (List UInt8 × Int)) (W : World) : Prop :=
  c = .ret ∧ ∃ p t e, pre = p ++ [(t, e)] ∧ e ≠ 0 ∧ (∀ x ∈ p, x.2 = 0) ∧ ScanS B w (p.map (·.1)) e W
theorem scanI_stays (B : Nat) (w : World) (hB : B ≤ w.heap.size) : Stays (B + 5) [B + 3, B + 4] (ScanI B w) :=
  ⟨fun _ _ _ h t => ⟨h.1, scanS_turn h.2 hB t⟩, fun _ _ _ _ o' h hl ho hc => ⟨h.1, scanS_book h.2 hB o' hl ho hc⟩⟩
theorem scanX_stays (B : Nat) (w : World) (hB : B ≤ w.heap.size) (c : Code) : Stays (B + 5) [B + 3, B + 4] (ScanX B w c) := by
  refine ⟨fun _ _ _ h t => ?_, fun _ _ _ _ o' h hl ho hc => ?_⟩
  · obtain ⟨h1, p, a, e, h2, h3, h4, h5⟩ := h
    exact ⟨h1, p, a, e, h2, h3, h4, scanS_turn h5 hB t⟩
  · obtain ⟨h1, p, a, e, h2, h3, h4, h5⟩ := h
    exact ⟨h1, p, a, e, h2, h3, h4, scanS_book h5 hB o' hl ho hc⟩
theorem elem_str : ElemT Try.prog 55 9 1 16 := ElemT.mk' Try.underlying55 (z := .string ByteArray.empty) (by kernel_rfl) (by kernel_rfl) (by decide)
theorem wpListIn_append_sl {F : Fence} {nF : Nat} {P : Program} {t e : TypeId} {size bytes : Nat} (E : ElemT P t e size bytes) {w : World} {base : Nat} {v : Value} {n : Nat} {xs : List Value} (hown : Sl w base e size v n xs) (news : List Value)
    {ops : Array Oper} {rest : List Oper} {o : Oper} {a : Act} {Q : Exit → Act → World → Prop} {s x : Operand} {ad : Addr} {m c : Nat}
    (hgd : o.guard = none) (ho : o.op = .call { callee := .builtin .append, args := #[s, x], argTypes := #[t, t] })
    (hs : a.eval s = v) (hx : a.eval x = .slice (some ad) m c) (hl : news.length = m * size) (hnews : ∀ j u, news[j]? = some u → w.cell? (ad.add j) = some u) (h1 : ∀ u ∈ news, u.oneCell' = true)
    (h63 : n + m ≤ maxLen) (hbytes : (n + m) * bytes ≤ 140737488355328) (hbase : base ≤ w.heap.size)
    (h : ∀ v' w', Sl w' base e size v' (n + m) (xs ++ news) → w.grownBy w' v.ownBlock → (v' = .slice none 0 0 ↔ v = .slice none 0 0 ∧ m = 0) → (∀ k, v'.ownBlock = some k → v.ownBlock = some k ∨ w.heap.size ≤ k) → wpListIn F nF P ops Q rest (a.put o.dst v') w') :
    wpListIn F nF P ops Q (o :: rest) a w := by
  obtain ⟨ht, h0, i, z, hi, hz, hsize, hby, hzs⟩ := E
  refine wpListIn_plain hgd fun K hK => ?_
  obtain ⟨v', w', hr, h2, h3, h4, h5⟩ := run_append_sl (P := P) w base t o.type e i z size bytes ht hi hz hsize hby hzs h0 v n xs hown ad m c news hl hnews h1 h63 hbytes hbase
  unfold Oper.wpIn
  refine ⟨?_, ?_⟩
  · simp [Oper.about, ho, resolve, Target.leads, Sem.run_pure]
  · rw [Oper.semAt_plain F _ _ (by rw [ho]; intro c hc'; cases hc')]
    simp [execOp, ho, resolve, invoke, builtin, hs, hx, hr, Result.andThen]
    exact hK _ _ (h v' w' h2 h3 h4 h5)
theorem scan_end {w W : World} {D : Nat} {l : List (List UInt8)} {e : Int} (h : ScanS w.heap.size w l e W) (hD : w.heap.size + 5 ≤ D) (hK : W.heap[D]? = some (.deferred (some []))) :
    ∃ v, (W.putObj D (.deferred none)).cell? ⟨w.heap.size, 0, none⟩ = some v ∧ (W.putObj D (.deferred none)).cell? ⟨w.heap.size + 1, 0, none⟩ = some (.int .i64 (PFrm.used l)) ∧ (W.putObj D (.deferred none)).cell? ⟨w.heap.size + 1 + 1, 0, none⟩ = some (.int .i64 e) ∧
      (Sl (W.putObj D (.deferred none)) w.heap.size 9 1 v l.length (strV l) ∧ Below w.heap.size w (W.putObj D (.deferred none))) := by
  obtain ⟨⟨v, c0, hsl⟩, c1, c2, hB, hw5⟩ := scanS_book h (Nat.le_refl _) (.deferred none) hD hK rfl
  exact ⟨v, c0.cell, c1.cell, c2.cell, hsl.base_le (by omega), hB⟩
set_option maxRecDepth 100000 in
set_option maxHeartbeats 4000000 in
theorem scan_any (s : ByteArray) (m : Nat) (hm : m < 18446744073709551616) (hs : s.size ≤ 1000000) (w : World) : Calls Try.prog 35 #[.string s, .int .u64 m] w fun e w' => ∃ v, e = .returned (.tuple #[v, .int .i64 (PFrm.used (PFrm.texts (PFrm.items (s.size + 1) s.data.toList m))), .int .i64 (PFrm.err (PFrm.items (s.size + 1) s.data.toList m))]) ∧
    (Sl w' w.heap.size 9 1 v (PFrm.texts (PFrm.items (s.size + 1) s.data.toList m)).length (strV (PFrm.texts (PFrm.items (s.size + 1) s.data.toList m))) ∧ Below w.heap.size w w') := by
  refine (callsIn_wide (n := 3)).1 ?_
  refine callsIn_of_wp_marks Try.func35 rfl trivial ?_ rfl
  simp only [Try.ntmps35, List.size_toArray, List.length_cons, List.length_nil, Nat.reduceAdd, Nat.reduceSub, Array.replicate_succ, Array.replicate_zero, List.push_toArray, List.append_toArray, List.nil_append, List.cons_append]
  gi_wp2_with fail
  refine (callsIn_wide.2 (frames_any s m _)).mono ?_
  rintro e w1 ⟨rfl, rfl⟩
  gi_wp2_with fail
  obtain ⟨W0, hW0⟩ : ∃ W0, (((((w.alloc (.cells #[.slice none 0 0] 55)).alloc (.cells #[.int .i64 0] 3)).alloc (.cells #[.int .i64 0] 25)).alloc (.cells #[.string s] 9)).alloc (.cells #[.int .u64 m] 22)) = W0 := ⟨_, rfl⟩
  have b0 : Boxed W0 w.heap.size 55 (.slice none 0 0) := by rw [← hW0]; exact ((((Boxed.new w _ _).alloc _).alloc _).alloc _).alloc _
  have b1 : Boxed W0 (w.heap.size + 1) 3 (.int .i64 0) := by
    have := Boxed.new (w.alloc (.cells #[.slice none 0 0] 55)) 3 (.int .i64 0)
    rw [World.size_alloc] at this
    rw [← hW0]; exact ((this.alloc _).alloc _).alloc _
  have b2 : Boxed W0 (w.heap.size + 2) 25 (.int .i64 0) := by
    have := Boxed.new ((w.alloc (.cells #[.slice none 0 0] 55)).alloc (.cells #[.int .i64 0] 3)) 25 (.int .i64 0)
    rw [World.size_alloc, World.size_alloc] at this
    rw [← hW0]; exact (this.alloc _).alloc _
  have b3 : Boxed W0 (w.heap.size + 3) 9 (.string s) := by
    have := Boxed.new (((w.alloc (.cells #[.slice none 0 0] 55)).alloc (.cells #[.int .i64 0] 3)).alloc (.cells #[.int .i64 0] 25)) 9 (.string s)
    rw [World.size_alloc, World.size_alloc, World.size_alloc] at this
    rw [← hW0]; exact this.alloc _
  have b4 : Boxed W0 (w.heap.size + 4) 22 (.int .u64 m) := by
    have := Boxed.new ((((w.alloc (.cells #[.slice none 0 0] 55)).alloc (.cells #[.int .i64 0] 3)).alloc (.cells #[.int .i64 0] 25)).alloc (.cells #[.string s] 9)) 22 (.int .u64 m)
    rw [World.size_alloc, World.size_alloc, World.size_alloc, World.size_alloc] at this
    rw [← hW0]; exact this
  have hsz0 : W0.heap.size = w.heap.size + 5 := by rw [← hW0]; simp only [World.size_alloc]
  have hB0 : Below w.heap.size w W0 := by
    rw [← hW0]
    exact (((((Below.refl _ w).alloc (Nat.le_refl _) _).alloc (by simp only [World.size_alloc]; omega) _).alloc (by simp only [World.size_alloc]; omega) _).alloc (by simp only [World.size_alloc]; omega) _).alloc (by simp only [World.size_alloc]; omega) _
  rw [hW0]
  clear hW0
  have hI0 : ScanI w.heap.size w [] W0 := ⟨by simp, ⟨_, b0, Sl.nil _ _ _ _⟩, b1, b2, hB0, by omega⟩
  have hst := scanI_stays w.heap.size w (Nat.le_refl _)
  have hsx := scanX_stays w.heap.size w (Nat.le_refl _)
  rw [← hsz0] at hst hsx
  refine range_seq (F := Fence.wide) (n := 3) rfl (by omega) (gf := 78) (lb := #[.pointer (some ⟨w.heap.size + 3, 0, none⟩), .pointer (some ⟨w.heap.size + 4, 0, none⟩)]) rfl trivial (enters_of Try.func78 (by kernel_rfl) rfl)
    (frames1_seq (3 - 1) (by omega) (w.heap.size + 3) (w.heap.size + 4) (by omega) s m hm (by unfold maxLen; omega) W0 b3 b4) (by intro b hb; simp at hb; omega) ?t ?b (Below.refl _ _) (fun _ => rfl)
    (ScanI w.heap.size w) (ScanX w.heap.size w) hst hsx hI0
    (fun x => { tmps := #[.string s, .int .u64 m, undef, undef, .pointer (some ⟨w.heap.size, 0, none⟩), .pointer (some ⟨w.heap.size + 1, 0, none⟩), .pointer (some ⟨w.heap.size + 1 + 1, 0, none⟩), .string ⟨x.1.toArray⟩, .int .i64 x.2, .string s, .int .u64 m, .func (.func 78) #[] #[.pointer (some ⟨w.heap.size + 1 + 1 + 1, 0, none⟩), .pointer (some ⟨w.heap.size + 1 + 1 + 1 + 1, 0, none⟩)], .string ⟨x.1.toArray⟩, .int .i64 x.2, undef, undef, undef, undef, undef, undef, undef, undef, undef, undef, undef, undef, undef, undef, undef, undef], defers := [] }) ?assign ?body ?done ?stop
  case t => intro A C D h k; exact ⟨k.1.trans h.1, k.2.trans h.2⟩
  case b => intro W l o o' hl ho _ _; exact ⟨World.putObj_heap_other (by omega), World.putObj_heap_other (by omega)⟩
  case assign =>
    intro l x W K hK
    dsimp only [encItem]
    gi_wp2
    exact hK
  case body =>
    rintro l pre ⟨t, e⟩ W ⟨hp, ⟨v, c0, hsl⟩, c1, c2, hB, hw5⟩ hlen hpn
    have hw0 := hw5
    have htl : t.length ≤ 4096 := items_small _ _ _ _ (hpn.subset (List.mem_append.2 (.inr (List.mem_singleton.2 rfl))))
    obtain ⟨vb, vc, rfl⟩ := Sl.shape hsl
    have f0 := c0.frozen
    have f1 := c1.frozen
    have f2 := c2.frozen
    have d0 := c0.cell
    have d1 := c1.cell
    have d2 := c2.cell
    by_cases he : e = 0
    · subst he
      have hlp : pre.length + 1 ≤ 1000000 := by
        have := items_length (s.size + 1) s.data.toList m
        rw [list_size] at this
        omega
      rw [List.length_map] at hsl
      have hwr : IntKind.i64.wrap (PFrm.used (pre.map (·.1)) + PFrm.size (t.length : Int)) = PFrm.used ((pre ++ [(t, (0 : Int))]).map (·.1)) := by
        have h1 := PFrm.used_bounds (pre.map (·.1))
        have h2 := PFrm.size_bounds (t.length : Int)
        rw [List.length_map] at h1
        rw [IntWalk.i64_in _ (by omega), List.map_append]
        exact (PFrm.used_snoc _ _).symm
      have hwr' := Lib.hid hwr
      clear hwr
      have hslA := hsl.alloc (.cells [.string ⟨t.toArray⟩].toArray 9)
      gi_wp2_with (gi_at_builtin; (refine wpListIn_append_sl elem_str hslA [.string ⟨t.toArray⟩] rfl rfl rfl rfl (by rfl) (news_alloc W [.string ⟨t.toArray⟩] _ _) (by simp [Value.oneCell']) (by unfold maxLen; omega) (by omega) (by simp only [World.size_alloc]; omega) ?_; intro v' w2 hsl2 hgr _ hown2; obtain ⟨vb2, vc2, rfl⟩ := Sl.shape hsl2; have c02 : Boxed w2 w.heap.size _ _ := (hgr.block _ (by simp only [World.size_alloc]; omega) (fun e => by have := (hslA.lt _ e.symm).1; omega)).trans (c0.alloc _); have c12 : Boxed w2 (w.heap.size + 1) _ _ := (hgr.block _ (by simp only [World.size_alloc]; omega) (fun e => by have := (hslA.lt _ e.symm).1; omega)).trans (c1.alloc _); have c22 : Boxed w2 (w.heap.size + 2) _ _ := (hgr.block _ (by simp only [World.size_alloc]; omega) (fun e => by have := (hslA.lt _ e.symm).1; omega)).trans (c2.alloc _); have d02 := c02.cell; have d12 := c12.cell; have f02 := c02.frozen; have f12 := c12.frozen; have k12 : Boxed (w2.setCell ⟨w.heap.size, 0, none⟩ (.slice vb2 (pre.length + 1) vc2)) (w.heap.size + 1) _ _ := c12.other (by omega) _; have q12 : (w2.setCell ⟨w.heap.size, 0, none⟩ (.slice vb2 (pre.length + 1) vc2)).drew.cell? ⟨w.heap.size + 1, 0, none⟩ = _ := k12.cell; have r12 : (w2.setCell ⟨w.heap.size, 0, none⟩ (.slice vb2 (pre.length + 1) vc2)).drew.frozen? ⟨w.heap.size + 1, 0, none⟩ = false := k12.frozen))
      gi_region_with ((gi_at_call 36; refine (CallsIn.inRound l (callsIn_wide.2 (fsize_any (t.length : Int) (by omega) (by omega) _))).mono ?_; rintro e w' ⟨rfl, rfl⟩))
      all_goals (
        gi_wp2
        rw [hwr'.out]
        have hlt3 : w.heap.size + 5 ≤ W.heap.size := hw5
        have hne : ∀ j, j < w.heap.size + 5 → some j ≠ (Value.slice vb pre.length vc).ownBlock := fun j hj e => by have := (hslA.lt _ e.symm).1; omega
        have hkeep : ∀ j, j < w.heap.size + 5 → w2.heap[j]? = W.heap[j]? := fun j hj => (hgr.block j (by simp only [World.size_alloc]; omega) (hne j hj)).trans (Below.heap_alloc W _ _ (by omega))
        refine ⟨?_, ⟨?_, ?_⟩, ?_, ⟨.slice vb2 (pre.length + 1) vc2, ?_, ?_⟩, ?_, ?_, ?_, ?_⟩
        · exact ((((KeepsOthers.alloc W _).trans (KeepsOthers.of_grownBy hgr (fun j o e ho => by obtain ⟨o2, h2, h3⟩ := sl_cells hslA e; rw [ho] at h2; cases h2; exact h3))).trans (KeepsOthers.setCell _ _ _)).trans (KeepsOthers.setCell _ _ _)).trans (KeepsOthers.drew _)
        · exact (Below.heap_setCell _ _ _ _ (by show w.heap.size + 3 ≠ w.heap.size + 1; omega)).trans ((Below.heap_setCell _ _ _ _ (by show w.heap.size + 3 ≠ w.heap.size; omega)).trans (hkeep _ (by omega)))
        · exact (Below.heap_setCell _ _ _ _ (by show w.heap.size + 4 ≠ w.heap.size + 1; omega)).trans ((Below.heap_setCell _ _ _ _ (by show w.heap.size + 4 ≠ w.heap.size; omega)).trans (hkeep _ (by omega)))
        · intro x hx
          rcases List.mem_append.1 hx with hx | hx
          · exact hp x hx
          · rw [List.mem_singleton.1 hx]
        · exact (Boxed.set _ c02).other (by omega) _
        · have e1 : ((pre ++ [(t, (0 : Int))]).map (·.1)).length = pre.length + 1 := by simp
          have e2 : strV ((pre ++ [(t, (0 : Int))]).map (·.1)) = strV (pre.map (·.1)) ++ [.string ⟨t.toArray⟩] := by simp [strV]
          rw [e1, e2]
          refine hsl2.keep fun k hk => ?_
          have := (hsl2.lt k hk).1
          exact (Below.heap_setCell _ _ _ _ (by show k ≠ w.heap.size + 1; omega)).trans (Below.heap_setCell _ _ _ _ (by show k ≠ w.heap.size; omega))
        · exact Boxed.set _ k12
        · exact (c22.other (by omega) _).other (by omega) _
        · exact (((((hB.alloc (by omega) _).grown hgr (by simp only [World.size_alloc]; omega) (fun k e => by have := (hslA.lt _ e).1; omega)).setCell (p := ⟨w.heap.size, 0, none⟩) (Nat.le_refl _) _).setCell (p := ⟨w.heap.size + 1, 0, none⟩) (by simp) _)).drew
        · have := hgr.size
          simp only [World.size_alloc] at this
          show w.heap.size + 5 ≤ ((w2.setCell _ _).setCell _ _).heap.size
          simp
          omega)
    · have he' : (e != 0) = true := by simpa using he
      have q0 : W.drew.cell? ⟨w.heap.size, 0, none⟩ = _ := c0.cell
      have q1 : W.drew.cell? ⟨w.heap.size + 1, 0, none⟩ = _ := c1.cell
      have r0 : W.drew.frozen? ⟨w.heap.size, 0, none⟩ = false := c0.frozen
      have k1 : Boxed (W.setCell ⟨w.heap.size, 0, none⟩ (.slice vb (pre.map (·.1)).length vc)) (w.heap.size + 1) _ _ := c1.other (by omega) _
      have k2 : Boxed ((W.setCell ⟨w.heap.size, 0, none⟩ (.slice vb (pre.map (·.1)).length vc)).setCell ⟨w.heap.size + 1, 0, none⟩ (.int .i64 (PFrm.used (pre.map (·.1))))) (w.heap.size + 2) _ _ := (c2.other (by omega) _).other (by omega) _
      rw [List.length_map] at k1 k2 q0
      have q2 : (W.setCell ⟨w.heap.size, 0, none⟩ (.slice vb pre.length vc)).drew.cell? ⟨w.heap.size + 1, 0, none⟩ = _ := k1.cell
      have r2 : (W.setCell ⟨w.heap.size, 0, none⟩ (.slice vb pre.length vc)).drew.frozen? ⟨w.heap.size + 1, 0, none⟩ = false := k1.frozen
      have q3 : ((W.setCell ⟨w.heap.size, 0, none⟩ (.slice vb pre.length vc)).setCell ⟨w.heap.size + 1, 0, none⟩ (.int .i64 (PFrm.used (pre.map (·.1))))).drew.cell? ⟨w.heap.size + 2, 0, none⟩ = _ := k2.cell
      have r3 : ((W.setCell ⟨w.heap.size, 0, none⟩ (.slice vb pre.length vc)).setCell ⟨w.heap.size + 1, 0, none⟩ (.int .i64 (PFrm.used (pre.map (·.1))))).drew.frozen? ⟨w.heap.size + 2, 0, none⟩ = false := k2.frozen
      obtain ⟨W9, hW9⟩ : ∃ W9, (((W.setCell ⟨w.heap.size, 0, none⟩ (.slice vb pre.length vc)).setCell ⟨w.heap.size + 1, 0, none⟩ (.int .i64 (PFrm.used (pre.map (·.1))))).setCell ⟨w.heap.size + 2, 0, none⟩ (.int .i64 e)).drew = W9 := ⟨_, rfl⟩
      have hKO : KeepsOthers W W9 := by
        rw [← hW9]
        exact (((KeepsOthers.setCell W _ _).trans (KeepsOthers.setCell _ _ _)).trans (KeepsOthers.setCell _ _ _)).trans (KeepsOthers.drew _)
      have hX9 : ScanX w.heap.size w .ret (pre ++ [(t, e)]) W9 := by
        rw [← hW9]
        refine ⟨rfl, pre, t, e, rfl, he, hp, ⟨.slice vb pre.length vc, ((Boxed.set _ c0).other (by omega) _).other (by omega) _, ?_⟩, (Boxed.set _ k1).other (by omega) _, Boxed.set _ k2, ?_, ?_⟩
        · rw [List.length_map]
          rw [List.length_map] at hsl
          refine hsl.keep fun k hk => ?_
          have := (hsl.lt k hk).1
          exact (Below.heap_setCell _ _ _ _ (by show k ≠ w.heap.size + 2; omega)).trans ((Below.heap_setCell _ _ _ _ (by show k ≠ w.heap.size + 1; omega)).trans (Below.heap_setCell _ _ _ _ (by show k ≠ w.heap.size; omega)))
        · exact (((hB.setCell (p := ⟨w.heap.size, 0, none⟩) (Nat.le_refl _) _).setCell (p := ⟨w.heap.size + 1, 0, none⟩) (by simp) _).setCell (p := ⟨w.heap.size + 2, 0, none⟩) (by simp) _).drew
        · simpa using hw5
      rw [← hW9] at hKO hX9
      clear hW9
      gi_wp2_with fail
      gi_region
      all_goals (
        gi_wp2
        exact ⟨hKO, hX9⟩)
  case done =>
    rintro D ys W hD rfl ⟨hp, ⟨v, c0, hsl⟩, c1, c2, hB, hw5⟩ hK
    obtain ⟨vb, vc, rfl⟩ := Sl.shape hsl
    obtain ⟨L, hL⟩ : ∃ L, (PFrm.items (s.size + 1) s.data.toList m).map (·.1) = L := ⟨_, rfl⟩
    have hno := PFrm.texts_ok _ hp
    rw [hL] at hno c1 c0 hsl
    have hno' := Lib.hid hno
    have hp' := Lib.hid hp
    clear hno hL hp
    have q0 : W.drew.cell? ⟨w.heap.size, 0, none⟩ = _ := c0.cell
    have q1 : W.drew.cell? ⟨w.heap.size + 1, 0, none⟩ = _ := c1.cell
    have r0 : W.drew.frozen? ⟨w.heap.size, 0, none⟩ = false := c0.frozen
    have k1 : Boxed (W.setCell ⟨w.heap.size, 0, none⟩ (.slice vb L.length vc)) (w.heap.size + 1) _ _ := c1.other (by omega) _
    have k2 : Boxed ((W.setCell ⟨w.heap.size, 0, none⟩ (.slice vb L.length vc)).setCell ⟨w.heap.size + 1, 0, none⟩ (.int .i64 (PFrm.used L))) (w.heap.size + 2) _ _ := (c2.other (by omega) _).other (by omega) _
    have q2 : (W.setCell ⟨w.heap.size, 0, none⟩ (.slice vb L.length vc)).drew.cell? ⟨w.heap.size + 1, 0, none⟩ = _ := k1.cell
    have r2 : (W.setCell ⟨w.heap.size, 0, none⟩ (.slice vb L.length vc)).drew.frozen? ⟨w.heap.size + 1, 0, none⟩ = false := k1.frozen
    have q3 : ((W.setCell ⟨w.heap.size, 0, none⟩ (.slice vb L.length vc)).setCell ⟨w.heap.size + 1, 0, none⟩ (.int .i64 (PFrm.used L))).drew.cell? ⟨w.heap.size + 2, 0, none⟩ = _ := k2.cell
    have r3 : ((W.setCell ⟨w.heap.size, 0, none⟩ (.slice vb L.length vc)).setCell ⟨w.heap.size + 1, 0, none⟩ (.int .i64 (PFrm.used L))).drew.frozen? ⟨w.heap.size + 2, 0, none⟩ = false := k2.frozen
    obtain ⟨W9, hW9⟩ : ∃ W9, (((W.setCell ⟨w.heap.size, 0, none⟩ (.slice vb L.length vc)).setCell ⟨w.heap.size + 1, 0, none⟩ (.int .i64 (PFrm.used L))).setCell ⟨w.heap.size + 2, 0, none⟩ (.int .i64 0)).drew = W9 := ⟨_, rfl⟩
    have hS9 : ScanS w.heap.size w L 0 W9 := by
      rw [← hW9]
      refine ⟨⟨.slice vb L.length vc, ((Boxed.set _ c0).other (by omega) _).other (by omega) _, ?_⟩, (Boxed.set _ k1).other (by omega) _, Boxed.set _ k2, ?_, ?_⟩
      · refine hsl.keep fun k hk => ?_
        have := (hsl.lt k hk).1
        exact (Below.heap_setCell _ _ _ _ (by show k ≠ w.heap.size + 2; omega)).trans ((Below.heap_setCell _ _ _ _ (by show k ≠ w.heap.size + 1; omega)).trans (Below.heap_setCell _ _ _ _ (by show k ≠ w.heap.size; omega)))
      · exact (((hB.setCell (p := ⟨w.heap.size, 0, none⟩) (Nat.le_refl _) _).setCell (p := ⟨w.heap.size + 1, 0, none⟩) (by simp) _).setCell (p := ⟨w.heap.size + 2, 0, none⟩) (by simp) _).drew
      · simpa using hw5
    have hK9 : W9.heap[D]? = some (.deferred (some [])) := by
      rw [← hW9]
      exact ((KeepsOthers.setCell W ⟨w.heap.size, 0, none⟩ (.slice vb L.length vc)).trans ((KeepsOthers.setCell _ ⟨w.heap.size + 1, 0, none⟩ (.int .i64 (PFrm.used L))).trans (KeepsOthers.setCell _ ⟨w.heap.size + 2, 0, none⟩ (.int .i64 0)))).same D _ hK rfl
    gi_wp2_with fail
    gi_region
    all_goals (
      gi_wp2
      refine ⟨by simp, .inl ⟨_, _, rfl, run_takeDeferred hK9, ?_⟩⟩
      obtain ⟨v9, e0, e1, e2, h9⟩ := scan_end hS9 (by omega) hK9
      refine ⟨.tuple #[v9, .int .i64 (PFrm.used L), .int .i64 0], ?_, v9, by rw [hno'.out, PFrm.err_ok _ hp'.out], by rw [hno'.out]; exact h9⟩
      simp [results, Try.f35, go_sem, e0, e1, e2])
  case stop =>
    rintro D c pre W hD hpre ⟨rfl, p, t, e, rfl, he, hp, hS9⟩ hK
    have hit := PFrm.items_stop _ _ _ _ _ _ hpre he
    gi_wp2
    refine ⟨by simp, .inl ⟨_, _, rfl, run_takeDeferred hK, ?_⟩⟩
    obtain ⟨v9, e0, e1, e2, h9⟩ := scan_end hS9 (by omega) hK
    refine ⟨.tuple #[v9, .int .i64 (PFrm.used (p.map (·.1))), .int .i64 e], ?_, v9, by rw [hit, PFrm.texts_stop _ _ _ he hp, PFrm.err_stop], by rw [hit, PFrm.texts_stop _ _ _ he hp]; exact h9⟩
    simp [results, Try.f35, go_sem, e0, e1, e2]
end Go.Proofs.Ytjnggldalggfnaa
