/-
  A disk's Write; a sector of one byte.
-/
import Derived.Test.YtjnggldalggfnaaOver
import Derived.Deep.RegionLaw
namespace Go.Proofs.Ytjnggldalggfnaa
open Go.RowKit
/-- append to a slice that is known, as one step of a region that draws. -/
theorem step_append_sl {P : Program} {ops : Array Oper} {o : Oper} {a : Act} {w : World} {K : Act → World → Prop} {Q : Exit → Act → World → Prop} {E0 : Prop} {t e : TypeId} {size bytes : Nat} (E : ElemT P t e size bytes)
    (hg : o.guard = none) {s x : Operand} (hop : o.op = Op.call { callee := Callee.builtin Builtin.append, args := #[s, x], argTypes := #[t, t] })
    {base : Nat} {v : Value} {n : Nat} {xs : List Value} (hown : Sl w base e size v n xs) (hs : a.eval s = v)
    {ad : Addr} {m c : Nat} (news : List Value) (hx : a.eval x = .slice (some ad) m c) (hl : news.length = m * size) (hnews : ∀ j u, news[j]? = some u → w.cell? (ad.add j) = some u) (h1 : ∀ u ∈ news, u.oneCell' = true)
    (h63 : n + m ≤ maxLen) (hbytes : (n + m) * bytes ≤ 140737488355328) (hbase : base ≤ w.heap.size)
    (hK : ∀ v' w', Sl w' base e size v' (n + m) (xs ++ news) → w.grownBy w' v.ownBlock → (∀ k, v'.ownBlock = some k → v.ownBlock = some k ∨ w.heap.size ≤ k) → K (a.put o.dst v') w') :
    if Region.wanted o (yielded ops a.tmps) = true then Oper.wp P o a w K Q else E0 := by
  have hw : Region.wanted o (yielded ops a.tmps) = true := by simp [Region.wanted, hg]
  rw [if_pos hw]
  obtain ⟨ht, h0, i, z, hi, hz, hsize, hby, hzs⟩ := E
  obtain ⟨v', w', hr, h2, h3, h4, h5⟩ := run_append_sl (P := P) w base t o.type e i z size bytes ht hi hz hsize hby hzs h0 v n xs hown ad m c news hl hnews h1 h63 hbytes hbase
  unfold Oper.wp
  simp [execOp, hop, resolve, invoke, builtin, hs, hx, hr, Result.andThen]
  exact hK _ _ h2 h3 h5
/-! ### Write -/
def StepPost (v : Value) (b : Nat) (D' : PDsk.Dsk) (own : List Nat) (w : World) (e : Ending) (w' : World) : Prop := ∃ own', e = .returned v ∧ IsDisk w' b D' own' ∧ Stepped w w' own own'
theorem write_nil (k : Int) (s : ByteArray) (w : World) : Calls Try.prog 64 #[.pointer none, .int .i64 k, .string s] w fun e w' => e = .returned (.int .i64 1) ∧ w = w' := by
  go_enter Try.func64, Try.ntmps64
  go_wp2_with fail
  refine (may_nil _).mono ?_; rintro e w1 ⟨rfl, rfl⟩
  go_wp2
  go_ret
  exact ⟨rfl, rfl⟩
theorem lsize (s : ByteArray) : s.data.toList.length = s.size := by simp
theorem bytesV_at_data (s : ByteArray) (j : Nat) (_ : j < s.size) : (s.data.map fun b => Value.int .u8 (b.toNat : Int))[j]? = (bytesV s.data.toList)[j]? := by
  simp [bytesV]
theorem load_sec (w : World) (s : ByteArray) (hs : s.size = 128) (cap : Nat) (fz : Nat × Nat) : (Instr.loadAt 82 (.pointer (some ⟨w.heap.size, 0, none⟩))).run Try.prog (w.alloc (.cells (bytesRow s cap) 5 fz)) = .ok (.agg (bytesV s.data.toList).toArray) (w.alloc (.cells (bytesRow s cap) 5 fz)) := by
  refine run_loadAt_mid _ _ _ _ (bytesV s.data.toList) _ ?_ Try.underlying82 (by rfl) ?_
  · intro j v hv
    rw [Nat.zero_add, cell_of_row _ _ _ _ _ _ (heap_alloc_new w _)]
    have hj : j < (bytesV s.data.toList).length := (List.getElem?_eq_some_iff.1 hv).1
    rw [bytesV_length] at hj
    have hjs : j < s.size := by simpa using hj
    rw [← hv, ← bytesV_at_data s j hjs]
    simp [bytesRow, Array.getElem?_append, hjs]
  · rw [bytesV_length, lsize, hs]; kernel_rfl
theorem wp_load_sec {dst : Option Tmp} {x : Operand} {ty : TypeId} {pos : String} {after : Array Edge} {guard : Option (Nat × Bool)} {a : Act} {K : Act → World → Prop} {Q : Exit → Act → World → Prop} (W : World) (s : ByteArray) (cap : Nat) (fz : Nat × Nat)
    (hx : a.eval x = .pointer (some ⟨W.heap.size, 0, none⟩)) (hs : s.size = 128) :
    Oper.wp Try.prog ⟨dst, .load 82 x, ty, pos, after, guard⟩ a (W.alloc (.cells (bytesRow s cap) 5 fz)).drew.drew K Q ↔ K (a.put dst (.agg (bytesV s.data.toList).toArray)) (W.alloc (.cells (bytesRow s cap) 5 fz)).drew.drew := by
  unfold Oper.wp execOp
  have h : (Instr.loadAt 82 (.pointer (some ⟨W.heap.size, 0, none⟩))).run Try.prog (W.alloc (.cells (bytesRow s cap) 5 fz)).drew.drew = .ok (.agg (bytesV s.data.toList).toArray) (W.alloc (.cells (bytesRow s cap) 5 fz)).drew.drew := load_sec W.drew.drew s hs cap fz
  simp only [hx, Sem.run_bind, h, Result.andThen_ok, Sem.run_pure]
  rfl
attribute [local go_sem ↓] wp_load_sec rule_build_wr rule_bslice_wr
theorem write_keeps {w1 W w2 : World} {b gs os cs : Nat} {D : PDsk.Dsk} {v : Value} (hb : w1.heap[b]? = some (.cells #[.slice (some ⟨gs, os, none⟩) D.sure.length cs, v, .int .i64 D.fuse] 77 (0, 0)))
    (e2 : b ∉ ownsOf v) (hW : Below w1.heap.size w1 W) (hgr : W.grownBy w2 v.ownBlock) : w2.heap[b]? = some (.cells #[.slice (some ⟨gs, os, none⟩) D.sure.length cs, v, .int .i64 D.fuse] 77 (0, 0)) := by
  have hlt : b < w1.heap.size := (Array.getElem?_eq_some_iff.1 hb).1
  exact (hgr.block b (Nat.lt_of_lt_of_le hlt hW.size) (fun e => e2 (by unfold ownsOf; rw [← e]; simp))).trans ((hW.block b hlt).trans hb)
theorem write_end {w1 W w2 : World} {b gs os cs : Nat} {D : PDsk.Dsk} {v v2 : Value} {q : Nat × List UInt8} (hok : D.Ok) (hb : w1.heap[b]? = some (.cells #[.slice (some ⟨gs, os, none⟩) D.sure.length cs, v, .int .i64 D.fuse] 77 (0, 0)))
    (hsu : Sl w1 0 82 128 (.slice (some ⟨gs, os, none⟩) D.sure.length cs) D.sure.length (sureV D.sure)) (_ : Sl w1 0 84 129 v D.loose.length (looseV D.loose)) (e1 : gs ≠ b) (e2 : b ∉ ownsOf v) (e3 : gs ∉ ownsOf v)
    (hW : Below w1.heap.size w1 W) (hgr : W.grownBy w2 v.ownBlock) (hl2 : Sl w2 0 84 129 v2 (D.loose.length + 1) (looseV D.loose ++ wrV q)) (hown2 : ∀ k, v2.ownBlock = some k → v.ownBlock = some k ∨ W.heap.size ≤ k) (hq1 : q.1 < D.sure.length) (hq2 : q.2.length = 128) :
    IsDisk (w2.setCell ⟨b, 1, none⟩ v2) b { D with loose := D.loose ++ [q] } (b :: gs :: ownsOf v2) ∧ Stepped w1 (w2.setCell ⟨b, 1, none⟩ v2) (b :: gs :: ownsOf v) (b :: gs :: ownsOf v2) := by
  have hb2 := write_keeps hb e2 hW hgr
  have hlt : b < w1.heap.size := (Array.getElem?_eq_some_iff.1 hb).1
  have hglt : gs < w1.heap.size := (hsu.lt gs rfl).2
  have hkb : ∀ k, v2.ownBlock = some k → k ≠ b ∧ k ≠ gs := by
    intro k hk
    rcases hown2 k hk with h | h
    · exact ⟨fun e => e2 (by unfold ownsOf; rw [h, e]; simp), fun e => e3 (by unfold ownsOf; rw [h, e]; simp)⟩
    · have := hW.size
      exact ⟨by omega, by omega⟩
  refine ⟨⟨⟨hok.1, hok.2.1, hok.2.2.1, ?_, hok.2.2.2.2⟩, gs, os, cs, v2, ?_, ?_, ?_, e1, ?_, ?_, rfl⟩, ⟨hgr.os.trans hW.os, hgr.tape.trans hW.tape, hgr.output.trans hW.output, ?_, ?_⟩, ?_⟩
  · intro p hp
    rcases List.mem_append.1 hp with hp | hp
    · exact hok.2.2.2.1 p hp
    · rw [List.mem_singleton.1 hp]; exact ⟨hq1, hq2⟩
  · rw [heap_set hb2]; rfl
  · refine hsu.keep fun k e => ?_
    simp [Value.ownBlock] at e
    subst e
    refine (Below.heap_setCell _ _ _ _ e1).trans ((hgr.block gs (Nat.lt_of_lt_of_le hglt hW.size) (fun e => e3 (by unfold ownsOf; rw [← e]; simp))).trans (hW.block gs hglt))
  · have e4 : looseV (D.loose ++ [q]) = looseV D.loose ++ wrV q := by simp [looseV]
    show Sl _ 0 84 129 v2 (D.loose ++ [q]).length (looseV (D.loose ++ [q]))
    rw [e4, List.length_append, List.length_singleton]
    exact hl2.keep fun k e => Below.heap_setCell _ _ _ _ (hkb k e).1
  · unfold ownsOf; intro hm; simp at hm; exact (hkb b hm).1 rfl
  · unfold ownsOf; intro hm; simp at hm; exact (hkb gs hm).2 rfl
  · have h1 := hW.size
    have h2 := hgr.size
    show w1.heap.size ≤ (w2.setCell _ _).heap.size
    simp; omega
  · intro k hk hn
    simp only [List.mem_cons, not_or] at hn
    refine (Below.heap_setCell _ _ _ _ hn.1).trans ((hgr.block k (Nat.lt_of_lt_of_le hk hW.size) (fun e => hn.2.2 (by unfold ownsOf; rw [← e]; simp))).trans (hW.block k hk))
  · intro k hk
    simp only [List.mem_cons] at hk ⊢
    rcases hk with rfl | rfl | hk
    · exact .inl (.inl rfl)
    · exact .inl (.inr (.inl rfl))
    · unfold ownsOf at hk
      rcases hown2 k (by simpa using hk) with h | h
      · left; right; right; unfold ownsOf; rw [h]; simp
      · right; have := hW.size; omega
set_option maxRecDepth 100000 in
set_option maxHeartbeats 2000000 in
theorem write_ok_any {b : Nat} {D : PDsk.Dsk} {own : List Nat} (w : World) (h : IsDisk w b D own) (hf : D.fuse ≠ 0) (k : Nat) (hk : k < D.sure.length) (s : ByteArray) (hs : s.size = 128) (hll : D.loose.length ≤ 1000000) :
    Calls Try.prog 64 #[.pointer (some ⟨b, 0, none⟩), .int .i64 k, .string s] w (StepPost (.int .i64 0) b { D with loose := D.loose ++ [(k, s.data.toList)], fuse := PDsk.burn D.fuse } own w) := by
  have H := Lib.hid h
  have hmay : Hid (PDsk.may D = 0) := Lib.hid (by unfold PDsk.may; rw [if_neg hf])
  have h' := h
  obtain ⟨hok, gs, os, cs, vl, hb, hsu, hl, h1, h2, h3, hown⟩ := h'
  have hc0 : w.cell? ⟨b, 0, none⟩ = some (.slice (some ⟨gs, os, none⟩) D.sure.length cs) := by simp [World.cell?, hb]
  have hk1 : ¬ (k : Int) < 0 := by omega
  have hk2 : (k : Int) < D.sure.length := by omega
  have hk3 : ¬ (D.sure.length : Int) ≤ k := by omega
  have hs' : s.data.toList.length = 128 := by rw [lsize]; exact hs
  have HF := Lib.hid hf
  have hk0 := hok.2.1
  clear hb hsu hl h1 h2 h3 hown h hok hf
  go_enter Try.func64, Try.ntmps64
  go_wp2_with fail
  refine (may_any _ H.out).mono ?_; rintro e w1 ⟨rfl, rfl⟩
  rw [hmay.out]
  go_wp2_with fail
  refine (burns_any _ H.out).mono ?_; rintro e w1 ⟨rfl, hd, hst⟩
  clear hc0
  have HD := Lib.hid hd
  obtain ⟨hok, gs', os', cs', vl', hb, hsu, hl, h1, h2, h3, hown⟩ := hd
  dsimp only at hb hsu hl hok
  have hc1 : w1.cell? ⟨b, 1, none⟩ = some vl' := by simp [World.cell?, hb]
  have hf1 : w1.frozen? ⟨b, 1, none⟩ = false := by simp [World.frozen?, hb]
  have hblt : b < w1.heap.size := (Array.getElem?_eq_some_iff.1 hb).1
  obtain ⟨p, c, rfl⟩ := Sl.form hl
  have HB := Lib.hid hb
  have HSU := Lib.hid hsu
  have HOK := Lib.hid hok
  have HO := Lib.hid hown
  have harr := fun (g cap : Nat) (W : World) => run_arrayAt (P := Try.prog) (w := W) 82 5 128 (some ⟨g, 0, none⟩) 128 cap Try.underlying82 (Nat.le_refl _)
  clear hb hsu hok hown
  go_wp2_with fail
  have hnw : ∀ (X : Obj) (j : Nat) (u : Value), (wrV (k, s.data.toList))[j]? = some u → (((w1.alloc X).alloc (Obj.cells (wrV (k, s.data.toList)).toArray 84)).drew.drew).cell? ((⟨w1.heap.size + 1, 0, none⟩ : Addr).add j) = some u := by
    intro X j u hu
    have := news_alloc (w1.alloc X) _ 84 (0, 0) j u hu
    rw [World.size_alloc] at this
    exact this
  have hone : ∀ u ∈ wrV (k, s.data.toList), u.oneCell' = true := by
    intro u hu
    rcases List.mem_cons.1 hu with rfl | hu
    · rfl
    · exact bytesV_one _ u hu
  have hwl : (wrV (k, s.data.toList)).length = 1 * 129 := by rw [wrV_length, hs']
  have HN := Lib.hid hnw
  have HONE := Lib.hid hone
  have HWL := Lib.hid hwl
  have HL := Lib.hid hl
  clear hnw hone hwl hl
  go_region_law ((refine step_append_sl elem_wr (by rfl) (by rfl) (Sl.drew (Sl.drew ((HL.out.alloc _).alloc _))) (by rfl) (wrV (k, s.data.toList)) (by rfl) HWL.out (HN.out _) HONE.out (by unfold maxLen; omega) (by omega) (Nat.zero_le _) ?_; intro v' w2 hl2 hgr hown2; obtain ⟨p2, c2, rfl⟩ := Sl.form hl2; have hb2 := write_keeps (D := { D with fuse := PDsk.burn D.fuse }) HB.out h2 ((((Below.refl _ w1).alloc (Nat.le_refl _) _).alloc (by simp) _).drew.drew) hgr; have hc2 : w2.cell? ⟨b, 1, none⟩ = some (.slice p D.loose.length c) := (by simp [World.cell?, hb2]); have hf2 : w2.frozen? ⟨b, 1, none⟩ = false := (by simp [World.frozen?, hb2]); have hend := Lib.hid (write_end (D := { D with fuse := PDsk.burn D.fuse }) HOK.out HB.out HSU.out HL.out h1 h2 h3 ((((Below.refl _ w1).alloc (Nat.le_refl _) _).alloc (by simp) _).drew.drew) hgr hl2 hown2 hk hs'); clear hb2 hl2 hgr hown2))
  all_goals (
    go_wp2
    go_ret
    have hE := hend.out
    rw [← HO.out] at hE
    exact ⟨_, rfl, hE.1, hst.trans hE.2⟩)
theorem write_no_any {b : Nat} {D : PDsk.Dsk} {own : List Nat} (w : World) (h : IsDisk w b D own) (hf : D.fuse ≠ 0) (k : Int) (s : ByteArray) (_ : s.size ≤ maxLen) (hk1 : -9223372036854775808 ≤ k) (hk2 : k ≤ 9223372036854775807) (hno : k < 0 ∨ (D.sure.length : Int) ≤ k ∨ s.size ≠ 128) :
    Calls Try.prog 64 #[.pointer (some ⟨b, 0, none⟩), .int .i64 k, .string s] w (StepPost (.int .i64 2) b D own w) := by
  have H := Lib.hid h
  have hmay : Hid (PDsk.may D = 0) := Lib.hid (by unfold PDsk.may; rw [if_neg hf])
  have h' := h
  obtain ⟨hok, gs, os, cs, vl, hb, hsu, hl, h1, h2, h3, hown⟩ := h'
  have hc0 : w.cell? ⟨b, 0, none⟩ = some (.slice (some ⟨gs, os, none⟩) D.sure.length cs) := by simp [World.cell?, hb]
  have hk0 := hok.2.1
  clear hb hsu hl h1 h2 h3 hown h hok hf
  have hcase : k < 0 ∨ (¬ k < 0 ∧ (D.sure.length : Int) ≤ k) ∨ (¬ k < 0 ∧ ¬ (D.sure.length : Int) ≤ k ∧ s.size ≠ 128) := by omega
  rcases hcase with e1 | ⟨e1, e2⟩ | ⟨e1, e2, e3⟩
  · clear hno
    go_enter Try.func64, Try.ntmps64
    go_wp2_with fail
    refine (may_any _ H.out).mono ?_; rintro e w1 ⟨rfl, rfl⟩
    rw [hmay.out]
    go_wp2
    go_ret
    exact ⟨_, rfl, H.out, Stepped.refl _ _⟩
  · clear hno
    go_enter Try.func64, Try.ntmps64
    go_wp2_with fail
    refine (may_any _ H.out).mono ?_; rintro e w1 ⟨rfl, rfl⟩
    rw [hmay.out]
    go_wp2
    go_ret
    exact ⟨_, rfl, H.out, Stepped.refl _ _⟩
  · have e4 : ((s.size : Int) != 128) = true := by rw [bne_iff_ne]; omega
    clear hno e3
    go_enter Try.func64, Try.ntmps64
    go_wp2_with fail
    refine (may_any _ H.out).mono ?_; rintro e w1 ⟨rfl, rfl⟩
    rw [hmay.out]
    go_wp2
    go_ret
    exact ⟨_, rfl, H.out, Stepped.refl _ _⟩
theorem write_any {b : Nat} {D : PDsk.Dsk} {own : List Nat} (w : World) (h : IsDisk w b D own) (k : Int) (s : ByteArray) (hs : s.size ≤ maxLen) (hk1 : -9223372036854775808 ≤ k) (hk2 : k ≤ 9223372036854775807) (hll : D.loose.length ≤ 1000000) :
    Calls Try.prog 64 #[.pointer (some ⟨b, 0, none⟩), .int .i64 k, .string s] w (StepPost (.int .i64 (PDsk.write D k s.data.toList).2) b (PDsk.write D k s.data.toList).1 own w) := by
  by_cases hf : D.fuse = 0
  · have hx : Hid (PDsk.write D k s.data.toList = (D, 40)) := Lib.hid (by unfold PDsk.write; rw [if_pos hf])
    have hmay : Hid (PDsk.may D = 40) := Lib.hid (by unfold PDsk.may; rw [if_pos hf])
    have H := Lib.hid h
    rw [hx.out]
    clear hf h
    go_enter Try.func64, Try.ntmps64
    go_wp2_with fail
    refine (may_any _ H.out).mono ?_; rintro e w1 ⟨rfl, rfl⟩
    rw [hmay.out]
    go_wp2
    go_ret
    exact ⟨_, rfl, H.out, Stepped.refl _ _⟩
  by_cases hno : k < 0 ∨ (D.sure.length : Int) ≤ k ∨ s.size ≠ 128
  · have hx : PDsk.write D k s.data.toList = (D, 2) := by unfold PDsk.write; rw [if_neg hf, if_pos (by rw [lsize]; exact hno)]
    rw [hx]
    exact write_no_any w h hf k s hs hk1 hk2 hno
  · have hx : PDsk.write D k s.data.toList = ({ D with loose := D.loose ++ [(k.toNat, s.data.toList)], fuse := PDsk.burn D.fuse }, 0) := by unfold PDsk.write; rw [if_neg hf, if_neg (by rw [lsize]; exact hno)]
    rw [hx]
    obtain ⟨j, rfl⟩ := Int.eq_ofNat_of_zero_le (show 0 ≤ k by omega)
    rw [Int.toNat_natCast]
    exact write_ok_any w h hf j (by omega) s (by omega) hll
end Go.Proofs.Ytjnggldalggfnaa
