/-
  A disk's Read, where the sector is there.
-/
import Derived.Test.YtjnggldalggfnaaRead
namespace Go.Proofs.Ytjnggldalggfnaa
open Go.RowKit Go.Shelf
attribute [local go_sem] Oper.semAt_some
theorem wpListIn_row_new {F : Fence} {nF : Nat} {P : Program} {ops : Array Oper} {rest : List Oper} {op : Oper} {a : Act} {w : World} {Q : Exit → Act → World → Prop} (hgd : op.guard = none) (ty : TypeId) (x y : Operand) (ho : op.op = .store ty x y)
    (g : Nat) (t : TypeId) (old cells : Array Value) (hx : a.eval x = .pointer (some ⟨g, 0, none⟩)) (hy : a.eval y = .agg cells)
    (hg : g = w.heap.size) (hi : (P.info? ty).map (·.size) = some cells.size) (hs : old.size = cells.size) (h1 : cells.all (·.oneCell') = true)
    (h : wpListIn F nF P ops Q rest (a.put op.dst undef) (w.alloc (.cells cells t))) : wpListIn F nF P ops Q (op :: rest) a (w.alloc (.cells old t)) := by
  refine wpListIn_plain hgd fun K hK => ?_
  unfold Oper.wpIn
  refine ⟨?_, ?_⟩
  · simp [Oper.about, ho]
  · rw [Oper.semAt_plain F _ _ (by rw [ho]; intro c hc'; cases hc')]
    subst hg
    simp only [execOp, ho, hx, hy, Instr.storeAt, Instr.sureAddr, Sem.run_bind, Sem.run_pure, Result.andThen_ok, run_storeVar_row (w.alloc (.cells old t)) w.heap.size t ty old cells (heap_alloc_last w _) hi hs h1]
    rw [World.setRow_alloc_new]
    exact hK _ _ h
theorem boxed_turnR {bs : List Nat} {A C : World} {b : Nat} {t : TypeId} {v : Value} (h : Boxed A b t v) (hb : b ∉ bs) (t' : Turns bs A C) : Boxed C b t v := (t'.block b h.lt hb).trans h
theorem boxed_bookR {A : World} {b l : Nat} {t : TypeId} {v : Value} (h : Boxed A b t v) (o' : Obj) (hb : b ≠ l) : Boxed (A.putObj l o') b t v := (World.putObj_heap_other hb).trans h
/-- What Read's variables hold. -/
def ReadS (w : World) (k : Int) (t : List UInt8) (W : World) : Prop :=
  Boxed W w.heap.size 3 (.int .i64 k) ∧ Boxed W (w.heap.size + 1) 9 (.string ⟨t.toArray⟩) ∧ Boxed W (w.heap.size + 1 + 1) 25 (.int .i64 0) ∧ Below w.heap.size w W ∧ w.heap.size + 4 ≤ W.heap.size
theorem readS_turn {w A C : World} {k : Int} {t : List UInt8} (h : ReadS w k t A) (tt : Turns [] A C) : ReadS w k t C := by
  obtain ⟨h1, h2, h3, h4, h5⟩ := h
  exact ⟨boxed_turnR h1 (by simp) tt, boxed_turnR h2 (by simp) tt, boxed_turnR h3 (by simp) tt, below_turns h4 (Nat.le_refl _) (by simp) tt, Nat.le_trans h5 tt.size⟩
theorem readS_book {w A : World} {k : Int} {t : List UInt8} (h : ReadS w k t A) {l : Nat} {o : Obj} (o' : Obj) (hl : w.heap.size + 4 ≤ l) (_ : A.heap[l]? = some o) : ReadS w k t (A.putObj l o') := by
  obtain ⟨h1, h2, h3, h4, h5⟩ := h
  exact ⟨boxed_bookR h1 o' (by omega), boxed_bookR h2 o' (by omega), boxed_bookR h3 o' (by omega), h4.grown (grownBy_putObj' A l o') h4.size (fun k e => by cases e; omega), by simpa [World.putObj] using h5⟩
def ReadI (w : World) (k : Nat) (pre : List BItem) (W : World) : Prop := (∀ x ∈ pre, x.1.1 ≠ k) ∧ ReadS w k [] W
def ReadX (w : World) (k : Nat) (c : Code) (pre : List BItem) (W : World) : Prop := c = .ret ∧ ∃ p x, pre = p ++ [x] ∧ (∀ y ∈ p, y.1.1 ≠ k) ∧ x.1.1 = k ∧ ReadS w k x.1.2 W
theorem readI_stays (w : World) (k : Nat) : Stays (w.heap.size + 4) [] (ReadI w k) :=
  ⟨fun _ _ _ h t => ⟨h.1, readS_turn h.2 t⟩, fun _ _ _ _ o' h hl ho _ => ⟨h.1, readS_book h.2 o' hl ho⟩⟩
theorem readX_stays (w : World) (k : Nat) (c : Code) : Stays (w.heap.size + 4) [] (ReadX w k c) := by
  refine ⟨fun _ _ _ h t => ?_, fun _ _ _ _ o' h hl ho _ => ?_⟩
  · obtain ⟨h1, p, x, h2, h3, h4, h5⟩ := h
    exact ⟨h1, p, x, h2, h3, h4, readS_turn h5 t⟩
  · obtain ⟨h1, p, x, h2, h3, h4, h5⟩ := h
    exact ⟨h1, p, x, h2, h3, h4, readS_book h5 o' hl ho⟩
theorem read_end {w W : World} {E : Nat} {t : ByteArray} {e : Int} (h5 : W.cell? ⟨w.heap.size + 1, 0, none⟩ = some (.string t)) (h6 : W.cell? ⟨w.heap.size + 1 + 1, 0, none⟩ = some (.int .i64 e)) (h7 : Below w.heap.size w W) (hE : w.heap.size + 4 ≤ E) :
    (W.putObj E (.deferred none)).cell? ⟨w.heap.size + 1, 0, none⟩ = some (.string t) ∧ (W.putObj E (.deferred none)).cell? ⟨w.heap.size + 1 + 1, 0, none⟩ = some (.int .i64 e) ∧ Below w.heap.size w (W.putObj E (.deferred none)) :=
  ⟨(World.cell?_of_block (World.putObj_heap_other (by show w.heap.size + 1 ≠ E; omega))).trans h5, (World.cell?_of_block (World.putObj_heap_other (by show w.heap.size + 1 + 1 ≠ E; omega))).trans h6, h7.grown (grownBy_putObj' W E _) h7.size (fun k e => by cases e; omega)⟩
set_option maxRecDepth 100000 in
set_option maxHeartbeats 8000000 in
theorem read_in {b : Nat} {D : PDsk.Dsk} {own : List Nat} (w : World) (h : IsDisk w b D own) (k : Nat) (hf : D.fuse ≠ 0) (hk : k < D.sure.length) : Calls Try.prog 23 #[.pointer (some ⟨b, 0, none⟩), .int .i64 k] w (ReadPost (PDsk.now D k) 0 w) := by
  have hmay : Hid (PDsk.may D = 0) := Lib.hid (by unfold PDsk.may; rw [if_neg hf])
  have H := Lib.hid h
  obtain ⟨hok, gs, os, cs, vl, hb, hsu, hl, h1, h2, h3, hown⟩ := h
  have hblt : b < w.heap.size := (Array.getElem?_eq_some_iff.1 hb).1
  have hc0 : w.cell? ⟨b, 0, none⟩ = some (.slice (some ⟨gs, os, none⟩) D.sure.length cs) := by simp [World.cell?, hb]
  have hc1 : w.cell? ⟨b, 1, none⟩ = some vl := by simp [World.cell?, hb]
  obtain ⟨p, c, rfl⟩ := Sl.form hl
  have hn0 := hok.2.1
  have hlv : ∀ q ∈ D.loose, (wrV q).length = 129 := fun q hq => by rw [wrV_length, (hok.2.2.2.1 q hq).2]
  have HLV := Lib.hid hlv
  have HSU := Lib.hid hsu
  have HL := Lib.hid hl
  have HK := Lib.hid hok
  have k0 : (0 : Int) ≤ k := by omega
  have k1 : (k : Int) < D.sure.length := by omega
  have k2 : ¬ (k : Int) < 0 := by omega
  clear hf hok hb hsu hl h1 h2 h3 hown hlv
  refine (callsIn_wide (n := 3)).1 ?_
  refine callsIn_of_wp_marks Try.func23 rfl trivial ?_ rfl
  simp only [Try.ntmps23, List.size_toArray, List.length_cons, List.length_nil, Nat.reduceAdd, Nat.reduceSub, Array.replicate_succ, Array.replicate_zero, List.push_toArray, List.append_toArray, List.nil_append, List.cons_append]
  gi_wp2_with fail
  refine (callsIn_wide.2 (may_any _ (H.out.below (bel3 _ _ _ _)))).mono ?_
  rintro e w1 ⟨rfl, rfl⟩
  rw [hmay.out]
  gi_wp2_with fail
  obtain ⟨W0, hW0, b0, b1, b2, hsz, hBl⟩ := boxes3 w (.int .i64 k) (.string ⟨#[]⟩) (.int .i64 0) 3 9 25
  rw [hW0]
  clear hW0
  have q0 := b0.cell
  have d0 : W0.cell? ⟨b, 0, none⟩ = _ := (hBl.cell (p := ⟨b, 0, none⟩) hblt).trans hc0
  refine wpIn_wide.2 ?_
  go_quiet (fail)
  obtain ⟨W1, hW1⟩ : ∃ W1, W0.drewN nq = W1 := ⟨_, rfl⟩
  have b0' : Boxed W1 w.heap.size 3 (.int .i64 k) := by rw [← hW1]; exact b0
  have b1' : Boxed W1 (w.heap.size + 1) 9 (.string ⟨#[]⟩) := by rw [← hW1]; exact b1
  have b2' : Boxed W1 (w.heap.size + 1 + 1) 25 (.int .i64 0) := by rw [← hW1]; exact b2
  have hsz' : W1.heap.size = w.heap.size + 3 := by rw [← hW1]; exact hsz
  have hBl' : Below w.heap.size w W1 := by rw [← hW1]; exact ⟨hBl.os, hBl.tape, hBl.output, hBl.size, hBl.block⟩
  rw [hW1]
  clear hW1 q0 d0 b0 b1 b2 hsz hBl
  have d1 : W1.cell? ⟨b, 1, none⟩ = _ := (hBl'.cell (p := ⟨b, 1, none⟩) hblt).trans hc1
  have HSZ := Lib.hid hsz'
  clear hsz'
  gi_wp2_with fail
  refine (callsIn_wide.2 (back_any p D.loose.length c W1)).mono ?_
  rintro e w2 ⟨rfl, rfl⟩
  gi_wp2_with fail
  obtain ⟨W2, hW2⟩ : ∃ W2, W1.alloc (.cells #[.slice p D.loose.length c] 75) = W2 := ⟨_, rfl⟩
  have hsz2 : W2.heap.size = w.heap.size + 4 := by rw [← hW2, World.size_alloc, HSZ.out]
  have c0 : Boxed W2 w.heap.size 3 (.int .i64 k) := by rw [← hW2]; exact b0'.alloc _
  have c1 : Boxed W2 (w.heap.size + 1) 9 (.string ⟨#[]⟩) := by rw [← hW2]; exact b1'.alloc _
  have c2 : Boxed W2 (w.heap.size + 1 + 1) 25 (.int .i64 0) := by rw [← hW2]; exact b2'.alloc _
  have c3 : Boxed W2 W1.heap.size 75 (.slice p D.loose.length c) := by rw [← hW2]; exact Boxed.new W1 _ _
  have hB2 : Below w.heap.size w W2 := by rw [← hW2]; exact hBl'.alloc hBl'.size _
  have hl2 : Sl W2 0 84 129 (.slice p D.loose.length c) D.loose.length (looseV D.loose) := HL.out.keep fun k e => hB2.block k (HL.out.lt k e).2
  rw [hW2]
  clear hW2 b0' b1' b2' hBl' d1
  have hI0 : ReadI w k [] W2 := ⟨by simp, c0, c1, c2, hB2, by omega⟩
  have hst := readI_stays w k
  have hsx := readX_stays w k
  rw [← hsz2] at hst hsx
  have HOWN := fun j (e : (Value.slice p D.loose.length c).ownBlock = some j) => (HL.out.lt j e).2
  have HOWN' := Lib.hid HOWN
  clear HOWN
  refine range_seqA (F := Fence.wide) (n := 3) rfl (by omega) (gf := 67) (lb := #[.pointer (some ⟨W1.heap.size, 0, none⟩)]) rfl trivial (enters_of Try.func67 (by kernel_rfl) rfl)
    (back1_seq (3 - 1) (by omega) W1.heap.size p c D.loose HLV.out W2 c3 hl2) (by simp) ?t ?b (Below.refl _ _) (fun _ => rfl) (ReadI w k) (ReadX w k) hst hsx hI0
    (fun pre x a W => ∃ X, w.heap.size + 4 ≤ X ∧ ReadI w k pre W ∧ W.heap[X]? = some (.cells (wrV x.1).toArray 84 (0, 0)) ∧ a = { tmps := #[.pointer (some ⟨b, 0, none⟩), .int .i64 k, undef, .pointer (some ⟨w.heap.size, 0, none⟩), .pointer (some ⟨w.heap.size + 1, 0, none⟩), .pointer (some ⟨w.heap.size + 1 + 1, 0, none⟩), .int .i64 0, undef, .pointer (some ⟨X, 0, none⟩), .pointer (some ⟨b, 0, none⟩), .int .i64 0, .int .i64 0, .bool false, undef, .int .i64 k, .bool (decide ((k : Int) < 0)), .bool (decide ((k : Int) < 0)), .int .i64 k, .pointer (some ⟨b, 0, none⟩), .pointer (some ⟨b, 0, none⟩), .pointer (some ⟨b, 0, none⟩), .slice (some ⟨gs, os, none⟩) D.sure.length cs, .int .i64 D.sure.length, .bool false, .bool (decide ((k : Int) < 0)), .pointer (some ⟨b, 0, none⟩), .pointer (some ⟨b, 0, none⟩), .pointer (some ⟨b, 1, none⟩), .slice p D.loose.length c, .func (.func 67) #[] #[.pointer (some ⟨W1.heap.size, 0, none⟩)], .int .i64 x.2, .agg (wrV x.1).toArray, undef, undef, undef, undef, undef, undef, undef, undef, undef, undef, undef, undef, undef, undef, undef], defers := [] }) ?ax ?assign ?body ?done ?stop
  case t => intro A C E h k; exact ⟨k.1.trans h.1, fun j e => (k.2 j e).trans (h.2 j e)⟩
  case b =>
    intro W l o o' hl ho _ _
    have := HSZ.out
    exact ⟨World.putObj_heap_other (by omega), fun j e => World.putObj_heap_other (by have := HOWN'.out j e; omega)⟩
  case ax =>
    rintro pre x a A l o o' ⟨X, hX, hI, hx, rfl⟩ hl ho hc
    refine ⟨X, hX, ⟨hI.1, readS_book hI.2 o' (by omega) ho⟩, ?_, rfl⟩
    rw [World.putObj_heap_other]
    · exact hx
    · intro e; subst e; rw [ho] at hx; cases hx; cases hc
  case assign =>
    intro l pre x W K hI hlen hpn hK
    obtain ⟨q, iq⟩ := x
    have hq : q ∈ D.loose := by
      have : (q, iq) ∈ bItems D.loose := hpn.subset (by simp)
      rw [bItems, List.mem_reverse, List.mem_zipIdx_iff_getElem?] at this
      exact List.mem_of_getElem? this
    have hzw := zero_wr
    have HONE : Hid ((wrV q).toArray.all (·.oneCell') = true) := Lib.hid (all_oneCell_toArray (fun u hu => by
      rcases List.mem_cons.1 hu with rfl | hu
      · rfl
      · exact bytesV_one _ u hu))
    have HI2 : Hid ((Try.prog.info? 84).map (·.size) = some (wrV q).toArray.size) := Lib.hid (by rw [List.size_toArray, HLV.out _ hq]; exact size_wr)
    have HZ : Hid (zWr.size = (wrV q).toArray.size) := Lib.hid (by rw [zWr_size, List.size_toArray, HLV.out _ hq])
    have hBW : Below W.heap.size W (W.alloc (.cells (wrV q).toArray 84)) := (Below.refl _ W).alloc (Nat.le_refl _) _
    have hIW : ReadI w k pre (W.alloc (.cells (wrV q).toArray 84)) := ⟨hI.1, readS_turn hI.2 (Turns.of_below hBW)⟩
    have hWsz := hI.2.2.2.2.2
    have HK' := Lib.hid hK
    have HIW := Lib.hid hIW
    have HBW := Lib.hid hBW
    clear hI hlen hpn hq hK hIW hBW
    dsimp only [encB]
    gi_wp2_with ((with_reducible refine wpListIn_row_new rfl _ _ _ rfl W.heap.size _ zWr _ rfl rfl rfl HI2.out HZ.out HONE.out ?_))
    refine HK'.out _ _ ⟨W.heap.size, hWsz, HIW.out, heap_alloc_new W _, rfl⟩ (KeepsOthers.alloc _ _) ⟨HBW.out.block _ (by have := HSZ.out; omega), fun j e => HBW.out.block _ (by have := HOWN'.out j e; omega)⟩
  case body =>
    rintro l pre ⟨q, iq⟩ a' W ⟨X, hX, hI, hx, rfl⟩ hlen hpn
    have hq : q ∈ D.loose := by
      have : (q, iq) ∈ bItems D.loose := hpn.subset (by simp)
      rw [bItems, List.mem_reverse, List.mem_zipIdx_iff_getElem?] at this
      exact List.mem_of_getElem? this
    have hq2 := (HK.out.2.2.2.1 q hq).2
    obtain ⟨hne, s0, s1, s2, sB, sz⟩ := hI
    have x0 : W.cell? ⟨X, 0, none⟩ = some (.int .i64 q.1) := by rw [cell_of_row _ _ _ _ _ _ hx]; simp [wrV]
    have y0 := s0.cell
    have hcv : (convert 43 9 (.slice (some ⟨X, 1, none⟩) 128 128)).run Try.prog W = .ok (.string ⟨q.2.toArray⟩) W := by
      have := run_convert_bytes_back (P := Try.prog) W 43 9 5 ⟨X, 1, none⟩ 128 q.2 Try.underlying43 Try.underlying5 Try.underlying9 (fun j hj => by
        rw [Addr.add_mid, cell_of_row _ _ _ _ _ _ hx]
        simp [wrV, bytesV, Nat.add_comm 1 j, hj])
      rw [hq2] at this
      exact this
    have S0 := Lib.hid s0
    have S1 := Lib.hid s1
    have S2 := Lib.hid s2
    have HNE := Lib.hid hne
    have HX' := Lib.hid hX
    obtain ⟨f1, f2, f3, f4, f5, f6, f7⟩ := two_sets s1 s2 (.string ⟨q.2.toArray⟩) (.int .i64 0) sB
    have F7 := Lib.hid f7
    have SZ := Lib.hid sz
    have SB := Lib.hid sB
    clear hx s0 s1 s2 hne hlen hpn hq hX f5 f6 f7 sz sB
    by_cases hqk : q.1 = k
    · have hqb : ((q.1 : Int) == (k : Int)) = true := by rw [beq_iff_eq]; omega
      have HQK := Lib.hid hqk
      clear hqk
      gi_wp2
      exact ⟨(KeepsOthers.setCell _ _ _).trans (KeepsOthers.setCell _ _ _), rfl, pre, (q, iq), rfl, HNE.out, HQK.out, (S0.out.other (by omega) _).other (by omega) _, (Boxed.set _ S1.out).other (by omega) _, Boxed.set _ (S2.out.other (by omega) _), F7.out, by have := SZ.out; simpa using this⟩
    · have hqb : ((q.1 : Int) == (k : Int)) = false := by rw [beq_eq_false_iff_ne]; omega
      have HQK := Lib.hid hqk
      clear hqk
      gi_wp2
      refine ⟨KeepsOthers.refl _, ⟨rfl, fun _ _ => rfl⟩, ?_, S0.out, S1.out, S2.out, SB.out, SZ.out⟩
      intro y hy
      rcases List.mem_append.1 hy with hy | hy
      · exact HNE.out y hy
      · rw [List.mem_singleton.1 hy]; exact HQK.out
  case done =>
    rintro E ys W hE rfl ⟨hne, s0, s1, s2, sB, sz⟩ hKd
    have hnow := PDsk.now_none D k hne
    have hx128 : (D.sure.getD k []).length = 128 := by
      rw [List.getD_eq_getElem?_getD, List.getElem?_eq_getElem hk]
      exact HK.out.2.2.1 _ (List.getElem_mem hk)
    have hsW : Sl W 0 82 128 (.slice (some ⟨gs, os, none⟩) D.sure.length cs) D.sure.length (sureV D.sure) := HSU.out.keep fun j e => sB.block j (HSU.out.lt j e).2
    have hpart := flat_part bytesV 128 D.sure k hk (fun y hy => by rw [bytesV_length]; exact HK.out.2.2.1 y hy)
    have hgd : D.sure[k] = D.sure.getD k [] := by rw [List.getD_eq_getElem?_getD, List.getElem?_eq_getElem hk]; rfl
    rw [hgd] at hpart
    have hr := Sl.rangeAt hsW hpart
    obtain ⟨x, hx⟩ : ∃ x, D.sure.getD k [] = x := ⟨_, rfl⟩
    rw [hx] at hr hnow hx128
    have hcv : (convert 43 9 (.slice (some ⟨gs, os + k * 128, none⟩) 128 128)).run Try.prog W.drew = .ok (.string ⟨x.toArray⟩) W.drew := by
      have := run_convert_bytes_back (P := Try.prog) W.drew 43 9 5 ⟨gs, os + k * 128, none⟩ 128 x Try.underlying43 Try.underlying5 Try.underlying9 (fun j hj => by
        rw [Addr.add_mid]
        exact hr j _ (bytesV_at hj))
      rw [hx128] at this
      exact this
    have z0 : W.drew.cell? ⟨w.heap.size, 0, none⟩ = _ := s0.cell
    have d0 : W.drew.cell? ⟨b, 0, none⟩ = _ := (sB.cell (p := ⟨b, 0, none⟩) hblt).trans hc0
    obtain ⟨f1, f2, f3, f4, f5, f6, f7⟩ := two_sets s1 s2 (.string ⟨x.toArray⟩) (.int .i64 0) sB
    have g1 : W.drew.cell? ⟨w.heap.size + 1, 0, none⟩ = _ := f1
    have g2 : W.drew.frozen? ⟨w.heap.size + 1, 0, none⟩ = false := f2
    have g3 : (W.setCell ⟨w.heap.size + 1, 0, none⟩ (.string ⟨x.toArray⟩)).drew.cell? ⟨w.heap.size + 1 + 1, 0, none⟩ = _ := f3
    have g4 : (W.setCell ⟨w.heap.size + 1, 0, none⟩ (.string ⟨x.toArray⟩)).drew.frozen? ⟨w.heap.size + 1 + 1, 0, none⟩ = false := f4
    obtain ⟨W9, hW9⟩ : ∃ W9, ((W.setCell ⟨w.heap.size + 1, 0, none⟩ (.string ⟨x.toArray⟩)).setCell ⟨w.heap.size + 1 + 1, 0, none⟩ (.int .i64 0)).drew = W9 := ⟨_, rfl⟩
    have hK9 : W9.heap[E]? = some (.deferred (some [])) := by
      rw [← hW9]
      exact ((KeepsOthers.setCell W ⟨w.heap.size + 1, 0, none⟩ (.string ⟨x.toArray⟩)).trans (KeepsOthers.setCell _ ⟨w.heap.size + 1 + 1, 0, none⟩ (.int .i64 0))).same E _ hKd rfl
    have h5 : W9.cell? ⟨w.heap.size + 1, 0, none⟩ = some (.string ⟨x.toArray⟩) := by rw [← hW9]; exact f5
    have h6 : W9.cell? ⟨w.heap.size + 1 + 1, 0, none⟩ = some (.int .i64 0) := by rw [← hW9]; exact f6
    have h7 : Below w.heap.size w W9 := by rw [← hW9]; exact f7.drew
    have HNOW := Lib.hid hnow
    have HK9 := Lib.hid hK9
    have H5 := Lib.hid h5
    have H6 := Lib.hid h6
    have H7 := Lib.hid h7
    have HE : Hid (w.heap.size + 4 ≤ E) := Lib.hid (by omega)
    clear hnow hx128 hsW hpart hgd hr hx f1 f2 f3 f4 f5 f6 f7 hK9 h5 h6 h7 hKd s0 s1 s2 hne sB hE
    gi_wp2_with fail
    refine wpIn_wide.2 ?_
    go_region
    all_goals (
      gi_wp2
      refine ⟨by simp, .inl ⟨_, _, rfl, run_takeDeferred HK9.out, ?_⟩⟩
      obtain ⟨e5, e6, e7⟩ := read_end H5.out H6.out H7.out HE.out
      refine ⟨.tuple #[.string ⟨x.toArray⟩, .int .i64 0], ?_, by rw [HNOW.out], e7⟩
      simp [results, Try.f23, go_sem, e5, e6])
  case stop =>
    rintro E c' pre W hE hpre ⟨rfl, pp, x, rfl, hp, hxk, s0, s1, s2, sB, sz⟩ hKd
    obtain ⟨rr, hrr⟩ := hpre
    have hnow := PDsk.now_at D k pp rr x hrr hp hxk
    have HNOW := Lib.hid hnow
    have HK9 := Lib.hid hKd
    have H5 := Lib.hid s1.cell
    have H6 := Lib.hid s2.cell
    have H7 := Lib.hid sB
    have HE : Hid (w.heap.size + 4 ≤ E) := Lib.hid (by omega)
    clear hnow hKd s0 s1 s2 sB sz hE hrr
    gi_wp2
    refine ⟨by simp, .inl ⟨_, _, rfl, run_takeDeferred HK9.out, ?_⟩⟩
    obtain ⟨e5, e6, e7⟩ := read_end H5.out H6.out H7.out HE.out
    refine ⟨.tuple #[.string ⟨x.1.2.toArray⟩, .int .i64 0], ?_, by rw [HNOW.out], e7⟩
    simp [results, Try.f23, go_sem, e5, e6]
theorem read_any {b : Nat} {D : PDsk.Dsk} {own : List Nat} (w : World) (h : IsDisk w b D own) (k : Int) (hk1 : -9223372036854775808 ≤ k) : Calls Try.prog 23 #[.pointer (some ⟨b, 0, none⟩), .int .i64 k] w (ReadPost (PDsk.read D k).1 (PDsk.read D k).2 w) := by
  by_cases hf : D.fuse = 0
  · have hx : PDsk.read D k = ([], 40) := by unfold PDsk.read; rw [if_pos hf]
    rw [hx]
    exact read_down w h k hf
  by_cases hno : k < 0 ∨ (D.sure.length : Int) ≤ k
  · have hx : PDsk.read D k = ([], 2) := by unfold PDsk.read; rw [if_neg hf, if_pos hno]
    rw [hx]
    exact read_out w h k hf (by omega)
  · have hx : PDsk.read D k = (PDsk.now D k.toNat, 0) := by unfold PDsk.read; rw [if_neg hf, if_neg hno]
    rw [hx]
    obtain ⟨j, rfl⟩ := Int.eq_ofNat_of_zero_le (show 0 ≤ k by omega)
    rw [Int.toNat_natCast]
    exact read_in w h j hf (by omega)
end Go.Proofs.Ytjnggldalggfnaa
