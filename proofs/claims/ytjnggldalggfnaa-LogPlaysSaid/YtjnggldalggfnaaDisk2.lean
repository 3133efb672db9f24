/-
  A disk's small methods that write; New; a sector of one byte.
-/
import Derived.Test.YtjnggldalggfnaaDisk
namespace Go.Proofs.Ytjnggldalggfnaa
open Go.RowKit
theorem Sl.form {A : World} {base : Nat} {e : TypeId} {size : Nat} {v : Value} {n : Nat} {xs : List Value} (h : Sl A base e size v n xs) : ∃ p c, v = .slice p n c := by
  rcases h.2 with ⟨rfl, rfl⟩ | ⟨g, off, cap, cur, fz, rfl, _⟩
  · exact ⟨_, _, rfl⟩
  · exact ⟨_, _, rfl⟩
theorem heap_set {w : World} {b j : Nat} {c : Array Value} {t : TypeId} {fz : Nat × Nat} (hb : w.heap[b]? = some (.cells c t fz)) (v : Value) : (w.setCell ⟨b, j, none⟩ v).heap[b]? = some (.cells (c.setIfInBounds j v) t fz) := by
  rw [setCell_eq_setRow w b j c t fz v hb]; exact setRow_heap w b c _ t fz hb
theorem Turns.cell {w : World} {b j : Nat} (v : Value) {own : List Nat} (hb : b ∈ own) : Turns own w (w.setCell ⟨b, j, none⟩ v) := (Turns.refl own w).set hb v
theorem IsDisk.setFuse {w : World} {b : Nat} {D : PDsk.Dsk} {own : List Nat} (h : IsDisk w b D own) (f : Int) (h1 : -1 ≤ f) (h2 : f ≤ 9223372036854775807) : IsDisk (w.setCell ⟨b, 2, none⟩ (.int .i64 f)) b { D with fuse := f } own := by
  obtain ⟨hk, gs, os, cs, vl, hb, hs, hl, e1, e2, e3, rfl⟩ := h
  refine ⟨⟨hk.1, hk.2.1, hk.2.2.1, hk.2.2.2.1, h1, h2⟩, gs, os, cs, vl, ?_, ?_, ?_, e1, e2, e3, rfl⟩
  · rw [heap_set hb]; rfl
  · exact hs.keep fun k e => Below.heap_setCell _ _ _ _ (by simp [Value.ownBlock] at e; subst e; exact e1)
  · exact hl.keep fun k e => Below.heap_setCell _ _ _ _ (by intro e'; obtain rfl : k = b := e'; apply e2; simp [ownsOf, e])
theorem IsDisk.mem {w : World} {b : Nat} {D : PDsk.Dsk} {own : List Nat} (h : IsDisk w b D own) : b ∈ own := by
  obtain ⟨hk, gs, os, cs, vl, hb, hs, hl, e1, e2, e3, rfl⟩ := h; simp
/-! ### burns -/
theorem burns_any {b : Nat} {D : PDsk.Dsk} {own : List Nat} (w : World) (h : IsDisk w b D own) : Calls Try.prog 65 #[.pointer (some ⟨b, 0, none⟩)] w fun e w' => e = .returned (.tuple #[]) ∧ (IsDisk w' b { D with fuse := PDsk.burn D.fuse } own ∧ Stepped w w' own own) := by
  have H := Lib.hid h
  have hm := h.mem
  obtain ⟨hk, gs, os, cs, vl, hb, hs, hl, h1, h2, h3, rfl⟩ := h
  have hc2 : w.cell? ⟨b, 2, none⟩ = some (.int .i64 D.fuse) := by simp [World.cell?, hb]
  have hf2 : w.frozen? ⟨b, 2, none⟩ = false := by simp [World.frozen?, hb]
  have hok := PDsk.burn_ok hk.2.2.2.2.1 hk.2.2.2.2.2
  have hk1 := hk.2.2.2.2.1
  have hk2 := hk.2.2.2.2.2
  by_cases hp : 0 < D.fuse
  · have hbn : Hid (PDsk.burn D.fuse = D.fuse - 1) := Lib.hid (by unfold PDsk.burn; rw [if_pos hp])
    have hm' := Lib.hid hm
    clear hb hs hl h1 h2 h3 hk hm
    go_enter Try.func65, Try.ntmps65
    go_wp2
    go_end0
    rw [hbn.out] at hok ⊢
    exact ⟨rfl, H.out.setFuse _ hok.1 hok.2, Turns.cell _ hm'.out, fun _ h => .inl h⟩
  · have hbn : PDsk.burn D.fuse = D.fuse := by unfold PDsk.burn; rw [if_neg hp]
    have hD : ({ D with fuse := PDsk.burn D.fuse } : PDsk.Dsk) = D := by rw [hbn]
    have hD' := Lib.hid hD
    clear hb hs hl h1 h2 h3 hk hm hD hbn
    go_enter Try.func65, Try.ntmps65
    go_wp2
    go_end0
    rw [hD'.out]
    exact ⟨rfl, H.out, Stepped.refl _ _⟩
/-! ### Len, Loose -/
theorem len_nil (w : World) : Calls Try.prog 22 #[.pointer none] w fun e w' => e = .returned (.int .i64 0) ∧ w = w' := by
  go_enter Try.func22, Try.ntmps22
  go_wp2_with fail
  refine (none_nil _).mono ?_; rintro e w1 ⟨rfl, rfl⟩
  go_wp2
  go_ret
  exact ⟨rfl, rfl⟩
theorem len_any {b : Nat} {D : PDsk.Dsk} {own : List Nat} (w : World) (h : IsDisk w b D own) : Calls Try.prog 22 #[.pointer (some ⟨b, 0, none⟩)] w fun e w' => e = .returned (.int .i64 (D.sure.length : Int)) ∧ w = w' := by
  have H := Lib.hid h
  obtain ⟨hk, gs, os, cs, vl, hb, hs, hl, h1, h2, h3, rfl⟩ := h
  have hc0 : w.cell? ⟨b, 0, none⟩ = some (.slice (some ⟨gs, os, none⟩) D.sure.length cs) := by simp [World.cell?, hb]
  clear hb hs hl h1 h2 h3 hk
  go_enter Try.func22, Try.ntmps22
  go_wp2_with fail
  refine (none_any _ H.out).mono ?_; rintro e w1 ⟨rfl, rfl⟩
  go_wp2
  go_ret
  exact ⟨rfl, rfl⟩
theorem loose_nil (w : World) : Calls Try.prog 54 #[.pointer none] w fun e w' => e = .returned (.int .i64 0) ∧ w = w' := by
  go_enter Try.func54, Try.ntmps54
  go_wp2_with fail
  refine (none_nil _).mono ?_; rintro e w1 ⟨rfl, rfl⟩
  go_wp2
  go_ret
  exact ⟨rfl, rfl⟩
theorem loose_any {b : Nat} {D : PDsk.Dsk} {own : List Nat} (w : World) (h : IsDisk w b D own) : Calls Try.prog 54 #[.pointer (some ⟨b, 0, none⟩)] w fun e w' => e = .returned (.int .i64 (D.loose.length : Int)) ∧ w = w' := by
  have H := Lib.hid h
  obtain ⟨hk, gs, os, cs, vl, hb, hs, hl, h1, h2, h3, rfl⟩ := h
  have hc1 : w.cell? ⟨b, 1, none⟩ = some vl := by simp [World.cell?, hb]
  obtain ⟨p, c, rfl⟩ := Sl.form hl
  clear hb hs hl h1 h2 h3 hk
  go_enter Try.func54, Try.ntmps54
  go_wp2_with fail
  refine (none_any _ H.out).mono ?_; rintro e w1 ⟨rfl, rfl⟩
  go_wp2
  go_ret
  exact ⟨rfl, rfl⟩
/-! ### Fuse -/
theorem fuse_nil (n : Int) (w : World) : Calls Try.prog 25 #[.pointer none, .int .i64 n] w fun e w' => e = .returned (.int .i64 1) ∧ w = w' := by
  go_enter Try.func25, Try.ntmps25
  go_wp2_with fail
  refine (none_nil _).mono ?_; rintro e w1 ⟨rfl, rfl⟩
  go_wp2
  go_ret
  exact ⟨rfl, rfl⟩
theorem fuse_any {b : Nat} {D : PDsk.Dsk} {own : List Nat} (w : World) (h : IsDisk w b D own) (n : Int) (hn1 : -9223372036854775808 ≤ n) (hn2 : n ≤ 9223372036854775807) : Calls Try.prog 25 #[.pointer (some ⟨b, 0, none⟩), .int .i64 n] w fun e w' => e = .returned (.int .i64 (PDsk.setFuse D n).2) ∧ (IsDisk w' b (PDsk.setFuse D n).1 own ∧ Stepped w w' own own) := by
  have H := Lib.hid h
  have hm := h.mem
  obtain ⟨hk, gs, os, cs, vl, hb, hs, hl, h1, h2, h3, rfl⟩ := h
  have hc2 : w.cell? ⟨b, 2, none⟩ = some (.int .i64 D.fuse) := by simp [World.cell?, hb]
  have hf2 : w.frozen? ⟨b, 2, none⟩ = false := by simp [World.frozen?, hb]
  by_cases hp : n < 0
  · have hx : Hid (PDsk.setFuse D n = (D, 2)) := Lib.hid (by unfold PDsk.setFuse; rw [if_pos hp])
    clear hb hs hl h1 h2 h3 hk hm
    go_enter Try.func25, Try.ntmps25
    go_wp2_with fail
    refine (none_any _ H.out).mono ?_; rintro e w1 ⟨rfl, rfl⟩
    go_wp2
    go_ret
    rw [hx.out]
    exact ⟨rfl, H.out, Stepped.refl _ _⟩
  · have hx : Hid (PDsk.setFuse D n = ({ D with fuse := n }, 0)) := Lib.hid (by unfold PDsk.setFuse; rw [if_neg hp])
    have hm' := Lib.hid hm
    clear hb hs hl h1 h2 h3 hk hm
    go_enter Try.func25, Try.ntmps25
    go_wp2_with fail
    refine (none_any _ H.out).mono ?_; rintro e w1 ⟨rfl, rfl⟩
    go_wp2
    go_ret
    rw [hx.out]
    exact ⟨rfl, H.out.setFuse n (by omega) (by omega), Turns.cell _ hm'.out, fun _ h => .inl h⟩
/-! ### New -/
theorem elem_sec : ElemT Try.prog 74 82 128 128 := ElemT.mk' (z := .agg (Array.replicate 128 (.int .u8 0))) Try.underlying74 (by kernel_rfl) (by simp [Value.cells]) (by decide)
theorem elem_wr : ElemT Try.prog 75 84 129 136 := ElemT.mk' (z := .agg (#[.int .i64 0] ++ Array.replicate 128 (.int .u8 0))) Try.underlying75 (by kernel_rfl) (by simp [Value.cells]) (by decide)
def madeS (n : Nat) : Array Value := (List.replicate (n * 128) (Value.int .u8 0)).toArray
theorem flat_rep {α : Type} (n m : Nat) (x : α) : (List.replicate n (List.replicate m x)).flatMap id = List.replicate (n * m) x := by
  induction n with
  | zero => simp
  | succ n ih => rw [List.replicate_succ, List.flatMap_cons, ih, Nat.succ_mul, Nat.add_comm (n * m), ← List.replicate_append_replicate]; rfl
theorem madeS_toList (n : Nat) : (madeS n).toList = sureV (List.replicate n PDsk.zero) := by
  have h : ∀ n, sureV (List.replicate n PDsk.zero) = List.replicate (n * 128) (Value.int .u8 0) := by
    intro n
    induction n with
    | zero => simp [sureV]
    | succ n ih =>
      rw [List.replicate_succ]
      show bytesV PDsk.zero ++ sureV (List.replicate n PDsk.zero) = _
      rw [ih, Nat.succ_mul, Nat.add_comm (n * 128), ← List.replicate_append_replicate]
      congr 1
  rw [h]; simp [madeS]
theorem make_secs (n : Nat) (h : n ≤ 16384) (w : World) : (Instr.makeSlice 74 (.int .i64 n) (.int .i64 n)).run Try.prog w = .ok (.slice (some ⟨w.heap.size, 0, none⟩) n n) (w.alloc (.cells (madeS n) 82)) := by
  have h0 : (Try.prog.info? 82).map (fun i => (i.zero, i.size, i.bytes)) = some (some (.agg (Array.replicate 128 (.int .u8 0))), 128, 128) := by kernel_rfl
  obtain ⟨i, hi, hz, hs, hb⟩ := info_parts h0
  rw [run_make w _ _ i _ Try.underlying74 hi hz .i64 .i64 n n (by omega) (by omega) (by rw [hb]; omega) (by omega), hs]
  have e1 : madeCells (Value.agg (Array.replicate 128 (.int .u8 0))).cells ((n : Int).toNat * 128) = madeS n := by
    unfold madeCells madeS
    apply Array.ext
    · simp
    · intro j h1 h2
      have hj : j % 128 < 128 := Nat.mod_lt _ (by decide)
      simp [Value.cells, hj]
  rw [e1, Int.toNat_natCast]
theorem disk_new (w : World) (n : Nat) (h1 : 1 ≤ n) (h2 : n ≤ 16384) : IsDisk ((w.alloc (.cells (madeS n) 82)).alloc (.cells #[.slice (some ⟨w.heap.size, 0, none⟩) n n, .slice none 0 0, .int .i64 (-1)] 77)) (w.heap.size + 1) (PDsk.new n) [w.heap.size + 1, w.heap.size] := by
  have hln : (PDsk.new n).sure.length = n := by simp [PDsk.new]
  refine ⟨PDsk.new_ok n h1 h2, w.heap.size, 0, n, .slice none 0 0, ?_, ?_, ?_, by omega, by simp [ownsOf, Value.ownBlock], by simp [ownsOf, Value.ownBlock], by simp [ownsOf, Value.ownBlock]⟩
  · rw [hln]
    have := World.alloc_heap_new (w.alloc (.cells (madeS n) 82)) (.cells #[.slice (some ⟨w.heap.size, 0, none⟩) n n, .slice none 0 0, .int .i64 (-1)] 77)
    rw [World.size_alloc] at this
    exact this
  · have hsz : (madeS n).size = n * 128 := by simp [madeS]
    have := Sl.of_block (w := w.alloc (.cells (madeS n) 82)) (base := 0) (e := 82) (size := 128) (n := n) (g := w.heap.size) (off := 0) (cap := n) (cur := madeS n) (fz := (0, 0))
      (Nat.zero_le _) (heap_alloc_new w _) (Free.none _) (Nat.le_refl _) (by unfold maxLen; omega) (by omega)
    rw [List.drop_zero, List.take_of_length_le (by rw [Array.length_toList, hsz]; exact Nat.le_refl _), madeS_toList] at this
    rw [hln]
    exact this.alloc _
  · exact Sl.nil _ _ _ _
def NewPost (n : Int) (w : World) (e : Ending) (w' : World) : Prop := Below w.heap.size w w' ∧
  ((¬ (1 ≤ n ∧ n ≤ 16384) ∧ e = .returned (.tuple #[.pointer none, .int .i64 2])) ∨ (1 ≤ n ∧ n ≤ 16384 ∧ ∃ b own, e = .returned (.tuple #[.pointer (some ⟨b, 0, none⟩), .int .i64 0]) ∧ IsDisk w' b (PDsk.new n.toNat) own ∧ ∀ k ∈ own, w.heap.size ≤ k))
theorem new_any (n : Int) (hn1 : -9223372036854775808 ≤ n) (hn2 : n ≤ 9223372036854775807) (w : World) : Calls Try.prog 21 #[.int .i64 n] w (NewPost n w) := by
  by_cases c1 : n < 1
  · go_enter Try.func21, Try.ntmps21
    go_wp2
    go_ret2
    exact ⟨Below.refl _ _, .inl ⟨by omega, rfl⟩⟩
  by_cases c2 : 16384 < n
  · go_enter Try.func21, Try.ntmps21
    go_wp2
    go_ret2
    exact ⟨Below.refl _ _, .inl ⟨by omega, rfl⟩⟩
  obtain ⟨k, rfl⟩ := Int.eq_ofNat_of_zero_le (show 0 ≤ n by omega)
  have hmk := make_secs k (by omega)
  have h1 : 1 ≤ k := by omega
  have h2 : k ≤ 16384 := by omega
  go_enter Try.func21, Try.ntmps21
  go_wp2
  go_ret2
  refine ⟨((Below.refl _ _).alloc (Nat.le_refl _) _).alloc (by simp) _, .inr ⟨by omega, by omega, w.heap.size + 1, [w.heap.size + 1, w.heap.size], rfl, ?_, ?_⟩⟩
  · rw [Int.toNat_natCast]
    exact disk_new w k h1 h2
  · intro j hj
    simp at hj
    omega
end Go.Proofs.Ytjnggldalggfnaa
