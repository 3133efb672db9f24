/-
  A disk's Copy.
-/
import Derived.Test.YtkmgmfahhidbbaaDisk6
import Derived.Test.YtkmgmfahhidbbaaSure
import Derived.Lib.LazyBuf
namespace Go.Proofs.Ytkmgmfahhidbbaa
open Go.RowKit
def ClonePost (e : TypeId) (size n : Nat) (xs : List Value) (w : World) (en : Ending) (w' : World) : Prop := ∃ p c, en = .returned (.slice p n c) ∧ Sl w' w.heap.size e size (.slice p n c) n xs ∧ Below w.heap.size w w'
theorem sl_empty (w : World) (e : TypeId) (size : Nat) : Sl (w.alloc (.cells #[] e)) w.heap.size e size (.slice (some ⟨w.heap.size, 0, none⟩) 0 0) 0 [] := by
  have := Sl.of_block (w := w.alloc (.cells #[] e)) (base := w.heap.size) (e := e) (size := size) (n := 0) (g := w.heap.size) (off := 0) (cap := 0) (cur := #[]) (fz := (0, 0)) (Nat.le_refl _) (heap_alloc_new w _) (Free.none _) (Nat.le_refl _) (Nat.zero_le _) (by simp)
  simpa using this
theorem sec_one (s : List (List UInt8)) : ∀ u ∈ sureV s, u.oneCell' = true := by
  intro u hu
  obtain ⟨x, _, hx⟩ := List.mem_flatMap.1 hu
  exact bytesV_one x u hx
theorem wr_one (l : List (Nat × List UInt8)) : ∀ u ∈ looseV l, u.oneCell' = true := by
  intro u hu
  obtain ⟨x, _, hx⟩ := List.mem_flatMap.1 hu
  rcases List.mem_cons.1 hx with rfl | hx
  · rfl
  · exact bytesV_one _ u hx
set_option maxRecDepth 100000 in
set_option maxHeartbeats 1000000 in
theorem cloneS_any (w : World) (g o c n : Nat) (xs : List Value) (hn : n ≤ 16384) (h : Sl w 0 62 128 (.slice (some ⟨g, o, none⟩) n c) n xs) (h1 : ∀ u ∈ xs, u.oneCell' = true) :
    Calls Try.prog 29 #[.slice (some ⟨g, o, none⟩) n c] w (ClonePost 62 128 n xs w) := by
  have hl := h.1
  have hnews : ∀ (X : Obj) j u, xs[j]? = some u → (w.alloc X).cell? ((⟨g, o, none⟩ : Addr).add j) = some u := fun X j u hu => (h.alloc X).cells rfl j u hu
  have HL := Lib.hid hl
  have HN := Lib.hid hnews
  have H1 := Lib.hid h1
  have HE := Lib.hid (sl_empty w 62 128)
  have hnil := fun (W : World) => run_eql_slice_nil (P := Try.prog) W 57 62 (some ⟨g, o, none⟩) n c Try.underlying57
  clear hl hnews h1 h
  go_enter Try.func29, Try.ntmps29
  go_wp2_with (at_builtin; (with_reducible refine wpList_append_sl elem_sec HE.out xs rfl rfl rfl rfl HL.out (HN.out _) H1.out ?_ ?_ ?_ ?_))
  · unfold maxLen; omega
  · omega
  · simp
  · intro v' w1 h2 h3 _ h5
    obtain ⟨p', c', rfl⟩ := Sl.form h2
    have HB : Hid (Below w.heap.size w w1) := Lib.hid (((Below.refl _ w).alloc (Nat.le_refl _) _).grown h3 (by simp) (fun k e => by simp [Value.ownBlock] at e; omega))
    have H2 := Lib.hid h2
    clear h2 h3 h5
    go_wp2
    go_ret
    exact ⟨_, _, rfl, H2.out, HB.out⟩
set_option maxRecDepth 100000 in
set_option maxHeartbeats 1000000 in
theorem cloneW_any (w : World) (p : Option Addr) (c n : Nat) (xs : List Value) (hn : n ≤ 1000000) (h : Sl w 0 64 129 (.slice p n c) n xs) (h1 : ∀ u ∈ xs, u.oneCell' = true) :
    Calls Try.prog 30 #[.slice p n c] w (ClonePost 64 129 n xs w) := by
  have hl := h.1
  rcases h.shape with ⟨e, rfl, rfl⟩ | ⟨g, o, c', e, hc⟩
  · simp at e
    obtain ⟨rfl, rfl⟩ := e
    have hnil := fun (W : World) => run_eql_slice_nil (P := Try.prog) W 58 64 none 0 0 Try.underlying58
    clear h hl
    go_enter Try.func30, Try.ntmps30
    go_wp2
    go_ret
    exact ⟨_, _, rfl, Sl.nil _ _ _ _, Below.refl _ _⟩
  simp at e
  obtain ⟨rfl, rfl⟩ := e
  have hnews : ∀ (X : Obj) j u, xs[j]? = some u → (w.alloc X).cell? ((⟨g, o, none⟩ : Addr).add j) = some u := fun X j u hu => (h.alloc X).cells rfl j u hu
  have HL := Lib.hid hl
  have HN := Lib.hid hnews
  have H1 := Lib.hid h1
  have HE := Lib.hid (sl_empty w 64 129)
  have hnil := fun (W : World) => run_eql_slice_nil (P := Try.prog) W 58 64 (some ⟨g, o, none⟩) n c Try.underlying58
  clear hl hnews h1 h
  go_enter Try.func30, Try.ntmps30
  go_wp2_with (at_builtin; (with_reducible refine wpList_append_sl elem_wr HE.out xs rfl rfl rfl rfl HL.out (HN.out _) H1.out ?_ ?_ ?_ ?_))
  · unfold maxLen; omega
  · omega
  · simp
  · intro v' w1 h2 h3 _ h5
    obtain ⟨p', c', rfl⟩ := Sl.form h2
    have HB : Hid (Below w.heap.size w w1) := Lib.hid (((Below.refl _ w).alloc (Nat.le_refl _) _).grown h3 (by simp) (fun k e => by simp [Value.ownBlock] at e; omega))
    have H2 := Lib.hid h2
    clear h2 h3 h5
    go_wp2
    go_ret
    exact ⟨_, _, rfl, H2.out, HB.out⟩
theorem cell_set_ne {w : World} {g o b j : Nat} {v : Value} (h : b ≠ g) : (w.setCell ⟨g, o, none⟩ v).cell? ⟨b, j, none⟩ = w.cell? ⟨b, j, none⟩ := World.cell?_of_block (Below.heap_setCell _ _ _ _ h)
theorem copy_end {w2 : World} {b : Nat} {D : PDsk.Dsk} {v2 : Value} {p1 : Option Addr} {c1 : Nat} {va vb : Value} (hok : D.Ok) (hN : w2.heap[b]? = some (.cells #[va, vb, .int .i64 D.fuse] 60 (0, 0)))
    (hs1 : Sl w2 0 62 128 (.slice p1 D.sure.length c1) D.sure.length (sureV D.sure)) (hs2 : Sl w2 0 64 129 v2 D.loose.length (looseV D.loose))
    (h1 : ∀ k, (Value.slice p1 D.sure.length c1).ownBlock = some k → b < k ∧ k ∉ ownsOf v2) (h2 : ∀ k ∈ ownsOf v2, b < k) :
    ∃ own, IsDisk ((w2.setCell ⟨b, 0, none⟩ (.slice p1 D.sure.length c1)).setCell ⟨b, 1, none⟩ v2) b D own ∧ ∀ k ∈ own, b ≤ k := by
  obtain ⟨g1, o1, rfl⟩ : ∃ g1 o1, p1 = some ⟨g1, o1, none⟩ := by
    rcases hs1.2 with ⟨_, h0⟩ | ⟨g, off, _, _, _, h0, _⟩
    · have := hok.1; omega
    · simp at h0; exact ⟨g, off, h0.1⟩
  obtain ⟨h3, h4⟩ := h1 g1 rfl
  refine ⟨b :: g1 :: ownsOf v2, ⟨hok, g1, o1, c1, v2, ?_, ?_, ?_, by omega, fun hm => by have := h2 b hm; omega, h4, rfl⟩, ?_⟩
  · rw [heap_set (heap_set hN _)]; rfl
  · exact hs1.keep fun k e => by
      simp [Value.ownBlock] at e; subst e
      exact (Below.heap_setCell _ _ _ _ (by show g1 ≠ b; omega)).trans (Below.heap_setCell _ _ _ _ (by show g1 ≠ b; omega))
  · exact hs2.keep fun k e => by
      have := h2 k (by simp [ownsOf, e])
      exact (Below.heap_setCell _ _ _ _ (by show k ≠ b; omega)).trans (Below.heap_setCell _ _ _ _ (by show k ≠ b; omega))
  · intro k hk
    simp only [List.mem_cons] at hk
    rcases hk with rfl | rfl | hk
    · exact Nat.le_refl _
    · omega
    · have := h2 k hk; omega
def CopyPost (D : PDsk.Dsk) (w : World) (en : Ending) (w' : World) : Prop := ∃ b own, en = .returned (.pointer (some ⟨b, 0, none⟩)) ∧ IsDisk w' b D own ∧ (∀ k ∈ own, w.heap.size ≤ k) ∧ Below w.heap.size w w'
set_option maxRecDepth 100000 in
set_option maxHeartbeats 4000000 in
theorem copy_any {b : Nat} {D : PDsk.Dsk} {own : List Nat} (w : World) (h : IsDisk w b D own) (hll : D.loose.length ≤ 1000000) : Calls Try.prog 16 #[.pointer (some ⟨b, 0, none⟩)] w (CopyPost D w) := by
  have H := Lib.hid h
  obtain ⟨hok, gs, os, cs, vl, hb, hsu, hl, h1, h2, h3, hown⟩ := h
  have hc0 : w.cell? ⟨b, 0, none⟩ = some (.slice (some ⟨gs, os, none⟩) D.sure.length cs) := by simp [World.cell?, hb]
  have hc1 : w.cell? ⟨b, 1, none⟩ = some vl := by simp [World.cell?, hb]
  have hc2 : w.cell? ⟨b, 2, none⟩ = some (.int .i64 D.fuse) := by simp [World.cell?, hb]
  have hblt : b < w.heap.size := (Array.getElem?_eq_some_iff.1 hb).1
  obtain ⟨p, c, rfl⟩ := Sl.form hl
  have HSU := Lib.hid hsu
  have HL := Lib.hid hl
  have HK := Lib.hid hok
  clear hok hb hsu hl h1 h2 h3 hown
  go_enter Try.func16, Try.ntmps16
  go_wp2_with fail
  refine (none_any _ H.out).mono ?_; rintro e w1 ⟨rfl, rfl⟩
  go_wp2_with fail
  have hB : Below w.heap.size w (w.alloc (.cells #[.slice (some ⟨gs, os, none⟩) D.sure.length cs, .slice p D.loose.length c, .int .i64 D.fuse] 60)).drew := ((Below.refl _ w).alloc (Nat.le_refl _) _).drew
  have hN : (w.alloc (.cells #[.slice (some ⟨gs, os, none⟩) D.sure.length cs, .slice p D.loose.length c, .int .i64 D.fuse] 60)).drew.heap[w.heap.size]? = some (.cells #[.slice (some ⟨gs, os, none⟩) D.sure.length cs, .slice p D.loose.length c, .int .i64 D.fuse] 60 (0, 0)) := heap_alloc_new w _
  have dA0 : (w.alloc (.cells #[.slice (some ⟨gs, os, none⟩) D.sure.length cs, .slice p D.loose.length c, .int .i64 D.fuse] 60)).drew.cell? ⟨b, 0, none⟩ = _ := (hB.cell (p := ⟨b, 0, none⟩) hblt).trans hc0
  have dA1 : (w.alloc (.cells #[.slice (some ⟨gs, os, none⟩) D.sure.length cs, .slice p D.loose.length c, .int .i64 D.fuse] 60)).drew.cell? ⟨b, 1, none⟩ = _ := (hB.cell (p := ⟨b, 1, none⟩) hblt).trans hc1
  have hne : b ≠ w.heap.size := by omega
  have hn2 := HK.out.2.1
  go_region_held3 (fun w' => w'.cell? ⟨b, 0, none⟩ = some (.slice (some ⟨gs, os, none⟩) D.sure.length cs) ∧ w'.cell? ⟨b, 1, none⟩ = some (.slice p D.loose.length c))
    (first | (go_split_ands; exact ⟨by assumption, by assumption⟩) | (go_split_ands; exact ⟨(cell_set_ne hne).trans (by assumption), (cell_set_ne hne).trans (by assumption)⟩) | (go_split_ands; exact ⟨(cell_set_ne hne).trans ((cell_set_ne hne).trans (by assumption)), (cell_set_ne hne).trans ((cell_set_ne hne).trans (by assumption))⟩) | go_keep)
    (first
      | (go_at_call 29; refine (cloneS_any _ gs os cs D.sure.length (sureV D.sure) hn2 (HSU.out.keep fun k e => hB.block k (HSU.out.lt k e).2) (sec_one _)).mono ?_; rintro e w1 ⟨p1, c1, rfl, hs1, hb1⟩; have hlt := (Array.getElem?_eq_some_iff.1 hN).1; replace hN := (hb1.block _ hlt).trans hN; have cA := Lib.cell_of_heap hN 0; have cB := Lib.cell_of_heap hN 1; have fA := Lib.frozen_of_heap hN 0; have fB := Lib.frozen_of_heap hN 1; replace hB := hB.step hb1; have dB0 := (hB.cell (p := ⟨b, 0, none⟩) hblt).trans hc0; have dB1 := (hB.cell (p := ⟨b, 1, none⟩) hblt).trans hc1)
      | (go_at_call 30; refine (cloneW_any _ p c D.loose.length (looseV D.loose) hll (HL.out.keep fun k e => hB.block k (HL.out.lt k e).2) (wr_one _)).mono ?_; rintro e w2 ⟨p2, c2, rfl, hs2, hb2⟩; have hlt := (Array.getElem?_eq_some_iff.1 hN).1; replace hN := (hb2.block _ hlt).trans hN; have cA := Lib.cell_of_heap hN 0; have cB := Lib.cell_of_heap hN 1; have fA := Lib.frozen_of_heap hN 0; have fB := Lib.frozen_of_heap hN 1; replace hB := hB.step hb2; have dB0 := (hB.cell (p := ⟨b, 0, none⟩) hblt).trans hc0; have dB1 := (hB.cell (p := ⟨b, 1, none⟩) hblt).trans hc1))
  all_goals (
    first
    | (have hs1' : Sl w2 0 62 128 (.slice p1 D.sure.length c1) D.sure.length (sureV D.sure) := (hs1.keep fun k e => hb2.block k (hs1.lt k e).2).base_le (Nat.zero_le _)
       have hx1 : ∀ k, (Value.slice p1 D.sure.length c1).ownBlock = some k → w.heap.size < k ∧ k ∉ ownsOf (Value.slice p2 D.loose.length c2) := fun k e => ⟨by have := (hs1.lt k e).1; simp at this; omega, fun hm => by have := (hs2.lt k (by simpa [ownsOf] using hm)).1; have := (hs1.lt k e).2; omega⟩
       have hx2 : ∀ k ∈ ownsOf (Value.slice p2 D.loose.length c2), w.heap.size < k := fun k hm => by have := (hs2.lt k (by simpa [ownsOf] using hm)).1; have := hb1.size; simp at this; omega
       obtain ⟨own9, hd9, ho9⟩ := copy_end HK.out hN hs1' (hs2.base_le (Nat.zero_le _)) hx1 hx2
       have HD9 := Lib.hid hd9
       have HO9 := Lib.hid ho9
       have HB9 := Lib.hid ((hB.setCell (p := ⟨w.heap.size, 0, none⟩) (Nat.le_refl _) (.slice p1 D.sure.length c1)).setCell (p := ⟨w.heap.size, 1, none⟩) (Nat.le_refl _) (.slice p2 D.loose.length c2))
       clear hd9 ho9 hs1' hx1 hx2 hs1 hs2 hb1 hb2 hB hN
       go_wp2
       go_ret
       exact ⟨_, own9, rfl, HD9.out, HO9.out, HB9.out⟩)
    | (have hs2' : Sl w1 0 64 129 (.slice p2 D.loose.length c2) D.loose.length (looseV D.loose) := (hs2.keep fun k e => hb1.block k (hs2.lt k e).2).base_le (Nat.zero_le _)
       have hx1 : ∀ k, (Value.slice p1 D.sure.length c1).ownBlock = some k → w.heap.size < k ∧ k ∉ ownsOf (Value.slice p2 D.loose.length c2) := fun k e => ⟨by have := (hs1.lt k e).1; have := hb2.size; simp at this; omega, fun hm => by have := (hs2.lt k (by simpa [ownsOf] using hm)).2; have := (hs1.lt k e).1; omega⟩
       have hx2 : ∀ k ∈ ownsOf (Value.slice p2 D.loose.length c2), w.heap.size < k := fun k hm => by have := (hs2.lt k (by simpa [ownsOf] using hm)).1; simp at this; omega
       obtain ⟨own9, hd9, ho9⟩ := copy_end HK.out hN (hs1.base_le (Nat.zero_le _)) hs2' hx1 hx2
       have HD9 := Lib.hid hd9
       have HO9 := Lib.hid ho9
       have HB9 := Lib.hid ((hB.setCell (p := ⟨w.heap.size, 0, none⟩) (Nat.le_refl _) (.slice p1 D.sure.length c1)).setCell (p := ⟨w.heap.size, 1, none⟩) (Nat.le_refl _) (.slice p2 D.loose.length c2))
       clear hd9 ho9 hs2' hx1 hx2 hs1 hs2 hb1 hb2 hB hN
       go_wp2
       go_ret
       exact ⟨_, own9, rfl, HD9.out, HO9.out, HB9.out⟩))
end Go.Proofs.Ytkmgmfahhidbbaa
