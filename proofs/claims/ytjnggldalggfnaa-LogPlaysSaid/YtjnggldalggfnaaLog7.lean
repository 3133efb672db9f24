/-
  Log: Append.
-/
import Derived.Test.YtjnggldalggfnaaLog6
import Derived.Test.YtjnggldalggfnaaDisk3
import Derived.Lib.AppendStr
import Derived.Deep.RegionHeld3
import Derived.Deep.RegionLaw
namespace Go.Proofs.Ytjnggldalggfnaa
open Go.RowKit Go.Lib
theorem Sl.grownL {W W' : World} {base : Nat} {e : TypeId} {size n : Nat} {v : Value} {xs : List Value} {ob : Option Nat} (h : Sl W base e size v n xs) (hg : W.grownBy W' ob) (hd : ∀ k, v.ownBlock = some k → some k ≠ ob) : Sl W' base e size v n xs :=
  h.keep fun k hk => hg.block k (h.lt k hk).2 (hd k hk)
theorem heap_grownL {W W' : World} {g : Nat} {o : Obj} {ob : Option Nat} (h : W.heap[g]? = some o) (hg : W.grownBy W' ob) (hd : some g ≠ ob) : W'.heap[g]? = some o :=
  (hg.block g (Array.getElem?_eq_some_iff.1 h).1 hd).trans h
theorem strCells_bytesV (s : ByteArray) : strCells s = bytesV s.data.toList := by simp [strCells, bytesV]
/-- 'append(b, s...)', s a string. -/
theorem run_append_str_sl {P : Program} (w : World) (base : Nat) (t u ty e : TypeId) (i : TypeInfo) (ht : P.underlying t = some (.slice e)) (hu : P.underlying u = some .string) (hi : P.info? e = some i) (hz : i.zero = some (.int .u8 0))
    (hsize : i.size = 1) (hby : i.bytes = 1)
    (v : Value) (n : Nat) (xs : List Value) (hown : Sl w base e 1 v n xs) (s : ByteArray)
    (h63 : n + s.size ≤ maxLen) (hbytes : n + s.size ≤ 140737488355328) (hbase : base ≤ w.heap.size) :
    ∃ v' w', (Builtin.append_ #[t, u] ty #[v, .string s]).run P w = .ok v' w' ∧ Sl w' base e 1 v' (n + s.size) (xs ++ strCells s) ∧ w.grownBy w' v.ownBlock ∧ (∀ k, v'.ownBlock = some k → v.ownBlock = some k ∨ w.heap.size ≤ k) := by
  have hxl : xs.length = n := by simpa using hown.1
  rcases hown.2 with ⟨rfl, rfl⟩ | ⟨g, off, cap, cur, fz, rfl, hbg, hg, hfz, hnc, hcm, hcs, htake⟩
  · obtain ⟨v', w', r1, r2, r3, r4⟩ := run_append_own_string (P := P) w w.heap.size t u ty e i ht hu hi hz hsize hby (.slice none 0 0) 0 xs ⟨hown.1, .inl ⟨rfl, rfl⟩⟩ s h63 hbytes (Nat.le_refl _)
    have r2' : Sl w' w.heap.size e 1 v' (0 + s.size) (xs ++ strCells s) := by
      refine ⟨r2.1, ?_⟩
      rcases r2.2 with hh | ⟨g, cap, cur, rfl, hb, hg, h3, h4, h5, h6⟩
      · exact .inl hh
      · exact .inr ⟨g, 0, cap, cur, (0, 0), rfl, hb, hg, Free.none _, h3, h4, by omega, by simpa using h6⟩
    exact ⟨v', w', r1, r2'.base_le hbase, r3, fun k hk => .inr (r2'.lt k hk).1⟩
  · have hlen : (xs ++ strCells s).length = (n + s.size) * 1 := by rw [List.length_append, hxl, strCells_length, Nat.mul_one]
    by_cases hroom : n + s.size ≤ cap
    · have hfit : off + n + (strCells s).length ≤ cur.size := by rw [strCells_length]; omega
      have hf := run_firstCells_string (P := P) w 1 s
      have hst := run_storeCells_free (P := P) g (off + n) e fz (strCells s) 0 cur w hg hfz (by simpa using hfit) (strCells_oneCell s)
      simp only [Nat.add_zero] at hst
      have hr : (Builtin.append_ #[t, u] ty #[.slice (some ⟨g, off, none⟩) n cap, .string s]).run P w =
          .ok (.slice (some ⟨g, off, none⟩) (n + s.size) cap) (w.setRow g (cur.toList.take (off + n) ++ strCells s ++ cur.toList.drop (off + n + (strCells s).length)).toArray) := by
        simp [Builtin.append_, run_underlying ht, run_underlying hu, sizeOf, typeInfo, hi, hsize, Builtin.lenOf, hroom, hf, Addr.add_mid, hst]
      have hsz' : (cur.toList.take (off + n) ++ strCells s ++ cur.toList.drop (off + n + (strCells s).length)).length = cur.size := by
        simp only [List.length_append, List.length_take, List.length_drop, Array.length_toList]
        omega
      refine ⟨_, _, hr, ⟨hlen, .inr ⟨g, off, cap, _, fz, rfl, hbg, setRow_heap w g cur _ e _ hg, (by rw [List.size_toArray, hsz']; exact hfz), hroom, hcm, ?_, ?_⟩⟩, ⟨rfl, rfl, rfl, by simp, fun k _ hk => setRow_other w g k _ (fun e => hk (by simp [Value.ownBlock, e]))⟩, fun k hk => .inl hk⟩
      · rw [List.size_toArray, hsz']; exact hcs
      · have ht1 : cur.toList.take (off + n) = cur.toList.take off ++ xs := by rw [← htake, List.take_add, Nat.mul_one]
        rw [List.toList_toArray, ht1]
        simp only [List.append_assoc]
        rw [List.drop_left' (by simp; omega), ← List.append_assoc, ← hlen]
        exact List.take_left
    · have holds : ∀ j u, xs[j]? = some u → w.cell? ((⟨g, off, none⟩ : Addr).add j) = some u := hown.cells rfl
      have hr := run_append_grow_string (P := P) w t u ty e i (.int .u8 0) ht hu hi hz ⟨g, off, none⟩ n cap xs (by rw [hsize]; simpa using hxl) holds s (by omega) (by unfold maxLen at h63; omega) (by rw [hby]; exact growslice_fits (by omega) (by omega))
      have hge := grownCap_ge w (n + s.size) cap e
      have hcm2 : grownCap w (n + s.size) cap e ≤ maxLen := grownCap_le_maxLen w (n + s.size) cap e h63
      refine ⟨_, _, hr, ⟨hlen, .inr ⟨w.heap.size, 0, _, _, (0, 0), rfl, hbase, heap_alloc_new w.drew _, Free.none _, hge, hcm2, ?_, ?_⟩⟩, ⟨rfl, rfl, rfl, by simp, fun k hk _ => RowKit.Below.heap_alloc w.drew _ k hk⟩, fun k hk => .inr (by simp [Value.ownBlock] at hk; omega)⟩
      · have hz1 : (Value.int IntKind.u8 0).cells.size = 1 := rfl
        simp only [Array.size_append, List.size_toArray, size_zeroCells, hz1, hxl, strCells_length]
        omega
      · simp only [List.drop_zero, Array.toList_append, List.append_assoc]
        rw [← List.append_assoc, ← hlen]
        exact List.take_left
theorem u8_parts : ∃ i, Try.prog.info? 5 = some i ∧ i.zero = some (.int .u8 0) ∧ i.size = 1 ∧ i.bytes = 1 := info_parts (by kernel_rfl)
/-- .. as one step of a region that draws. -/
theorem step_append_str {ops : Array Oper} {o : Oper} {a : Act} {w : World} {K : Act → World → Prop} {Q : Exit → Act → World → Prop} {E0 : Prop}
    (hg : o.guard = none) {s x : Operand} (hop : o.op = Op.call { callee := Callee.builtin Builtin.append, args := #[s, x], argTypes := #[43, 9] })
    {base : Nat} {v : Value} {n : Nat} {l : List UInt8} (hown : Sl w base 5 1 v n (bytesV l)) (hs : a.eval s = v) (t : ByteArray) (hx : a.eval x = .string t)
    (h63 : n + t.size ≤ 140737488355328) (hbase : base ≤ w.heap.size)
    (hK : ∀ v' w', Sl w' base 5 1 v' (n + t.size) (bytesV (l ++ t.data.toList)) → w.grownBy w' v.ownBlock → (∀ k, v'.ownBlock = some k → v.ownBlock = some k ∨ w.heap.size ≤ k) → K (a.put o.dst v') w') :
    if Region.wanted o (yielded ops a.tmps) = true then Oper.wp Try.prog o a w K Q else E0 := by
  have hw : Region.wanted o (yielded ops a.tmps) = true := by simp [Region.wanted, hg]
  rw [if_pos hw]
  obtain ⟨i, hi, hz, hsize, hby⟩ := u8_parts
  obtain ⟨v', w', hr, h2, h3, h4⟩ := run_append_str_sl (P := Try.prog) w base 43 9 o.type 5 i Try.underlying43 Try.underlying9 hi hz hsize hby v n (bytesV l) hown t (by unfold maxLen; omega) h63 hbase
  rw [strCells_bytesV, ← bytesV_append] at h2
  unfold Oper.wp
  simp [execOp, hop, resolve, invoke, builtin, hs, hx, hr, Result.andThen]
  exact hK _ _ h2 h3 h4
theorem lappend_nil (s : ByteArray) (w : World) : Calls Try.prog 8 #[.pointer none, .string s] w fun e w' => e = .returned (.tuple #[.int .u64 0, .int .i64 1]) ∧ w = w' := by
  go_enter Try.func8, Try.ntmps8
  go_wp2_with fail
  refine (made_nil _).mono ?_; rintro e w1 ⟨rfl, rfl⟩
  go_wp2
  go_ret2
  exact ⟨rfl, rfl⟩
def LAppPost (g : Nat) (L : PLog.Lg) (s : List UInt8) (b : Nat) (own : List Nat) (w : World) (e : Ending) (w' : World) : Prop := LogPost (.tuple #[.int .u64 (PLog.append L s).2.1, .int .i64 (PLog.append L s).2.2]) g (PLog.append L s).1 b own w e w'
theorem Sl.grownA {A W W' : World} {base : Nat} {e : TypeId} {size n : Nat} {v : Value} {xs : List Value} {ob : Option Nat} (h : Sl A base e size v n xs) (hA : Below A.heap.size A W) (hg : W.grownBy W' ob) (hd : ∀ k, v.ownBlock = some k → some k ≠ ob) : Sl W' base e size v n xs :=
  h.keep fun k hk => (hg.block k (Nat.lt_of_lt_of_le (h.lt k hk).2 hA.size) (hd k hk)).trans (hA.block k (h.lt k hk).2)
theorem heap_grownA {A W W' : World} {g : Nat} {o : Obj} {ob : Option Nat} (h : A.heap[g]? = some o) (hA : Below A.heap.size A W) (hg : W.grownBy W' ob) (hd : some g ≠ ob) : W'.heap[g]? = some o :=
  (hg.block g (Nat.lt_of_lt_of_le (Array.getElem?_eq_some_iff.1 h).1 hA.size) hd).trans ((hA.block g (Array.getElem?_eq_some_iff.1 h).1).trans h)
theorem grown_new {A W : World} {v v' : Value} (hA : Below A.heap.size A W) (h : ∀ k, v'.ownBlock = some k → v.ownBlock = some k ∨ W.heap.size ≤ k) : ∀ k, v'.ownBlock = some k → v.ownBlock = some k ∨ A.heap.size ≤ k := fun k e => by
  rcases h k e with h | h
  · exact .inl h
  · exact .inr (Nat.le_trans hA.size h)
theorem disj_new {v v' u : Value} {B : Nat} (h : ∀ k, v'.ownBlock = some k → v.ownBlock = some k ∨ B ≤ k) (hd : ∀ k, v.ownBlock = some k → some k ≠ u.ownBlock) (hu : ∀ k, u.ownBlock = some k → k < B) : ∀ k, v'.ownBlock = some k → some k ≠ u.ownBlock := fun k e e2 => by
  rcases h k e with h | h
  · exact hd k h e2
  · have := hu k e2.symm; omega
theorem news_heap {w : World} {g : Nat} {v : Value} {e : TypeId} {fz : Nat × Nat} (h : w.heap[g]? = some (.cells #[v] e fz)) : ∀ j u, [v][j]? = some u → w.cell? ((⟨g, 0, none⟩ : Addr).add j) = some u := by
  intro j u hu
  cases j with
  | zero => simp at hu; subst hu; rw [Addr.add_mid]; simp [World.cell?, h]
  | succ j => simp at hu
theorem heap_alloc_oldL {w : World} {g : Nat} {o : Obj} (h : w.heap[g]? = some o) (x : Obj) : (w.alloc x).heap[g]? = some o := (Below.heap_alloc w x g (Array.getElem?_eq_some_iff.1 h).1).trans h
theorem grown_stepped {A W W' : World} {v : Value} (h : Below A.heap.size A W) (hg : W.grownBy W' v.ownBlock) : Turns (ownsOf v) A W' :=
  ⟨hg.os.trans h.os, hg.tape.trans h.tape, hg.output.trans h.output, Nat.le_trans h.size hg.size, fun k hk hn => (hg.block k (Nat.lt_of_lt_of_le hk h.size) (fun e => hn (by unfold ownsOf; rw [← e]; simp))).trans (h.block k hk)⟩
theorem ns_of {v : Value} {g : Nat} (h : g ∉ ownsOf v) : some g ≠ v.ownBlock := fun e => h (by unfold ownsOf; rw [← e]; simp)
theorem ns_two {v u : Value} (h : ∀ k ∈ ownsOf v, k ∉ ownsOf u) : ∀ k, v.ownBlock = some k → some k ≠ u.ownBlock := fun k e => ns_of (h k (by unfold ownsOf; rw [e]; simp))
theorem append_end {w2 w3 w4 : World} {g b : Nat} {vb vs vb' vs' : Value} {L L2 : PLog.Lg} {own : List Nat} (h1 : w4.heap[g]? = some (.cells (logV L b vb vs) 64 (0, 0))) (hg2 : g < w2.heap.size)
    (sb : Sl w4 0 5 1 vb' L2.bytes.length (bytesV L2.bytes)) (ss : Sl w4 0 22 1 vs' L2.starts.length (u64V L2.starts)) (hk : L2.Ok)
    (d1 : some g ≠ vb.ownBlock) (d2 : some g ≠ vs.ownBlock) (dj : ∀ k, vs'.ownBlock = some k → some k ≠ vb'.ownBlock)
    (kb : ∀ k, vb'.ownBlock = some k → vb.ownBlock = some k ∨ w2.heap.size ≤ k) (ks : ∀ k, vs'.ownBlock = some k → vs.ownBlock = some k ∨ w3.heap.size ≤ k)
    (t3 : Turns (ownsOf vb) w2 w3) (t4 : Turns (ownsOf vs) w3 w4) (hown : own = g :: (ownsOf vb ++ ownsOf vs)) (x : Value)
    (hv : (((logV L b vb vs).setIfInBounds 4 vb').setIfInBounds 5 vs').setIfInBounds 7 x = logV L2 b vb' vs') :
    ∃ own', IsLog (((w4.setCell ⟨g, 4, none⟩ vb').setCell ⟨g, 5, none⟩ vs').setCell ⟨g, 7, none⟩ x) g L2 b own' ∧ Stepped w2 (((w4.setCell ⟨g, 4, none⟩ vb').setCell ⟨g, 5, none⟩ vs').setCell ⟨g, 7, none⟩ x) own own' := by
  subst hown
  have gb : ∀ k, vb'.ownBlock = some k → k ≠ g := fun k e e2 => by
    subst e2
    rcases kb _ e with h | h
    · exact d1 h.symm
    · omega
  have gs : ∀ k, vs'.ownBlock = some k → k ≠ g := fun k e e2 => by
    subst e2
    rcases ks _ e with h | h
    · exact d2 h.symm
    · have := t3.size; omega
  have other : ∀ k, k ≠ g → (((w4.setCell ⟨g, 4, none⟩ vb').setCell ⟨g, 5, none⟩ vs').setCell ⟨g, 7, none⟩ x).heap[k]? = w4.heap[k]? := fun k hk =>
    (Below.heap_setCell _ ⟨g, 7, none⟩ _ k hk).trans ((Below.heap_setCell _ ⟨g, 5, none⟩ _ k hk).trans (Below.heap_setCell _ ⟨g, 4, none⟩ _ k hk))
  refine ⟨g :: (ownsOf vb' ++ ownsOf vs'), ⟨hk, vb', vs', ?_, sb.keep fun k e => other k (gb k e), ss.keep fun k e => other k (gs k e), ?_, ?_, ?_, rfl⟩, ⟨?_, ?_⟩⟩
  · rw [heap_set (heap_set (heap_set h1 _) _) _, hv]
  · intro hm; simp [ownsOf] at hm; exact gb _ hm rfl
  · intro hm; simp [ownsOf] at hm; exact gs _ hm rfl
  · intro k hm hm2
    simp [ownsOf] at hm hm2
    exact dj k hm2 hm.symm
  · have hg : ∀ v : Value, ∀ k ∈ ownsOf v, k ∈ g :: (ownsOf vb ++ ownsOf vs) ∨ True := fun _ _ _ => .inr trivial
    have hm : g ∈ g :: (ownsOf vb ++ ownsOf vs) := by simp
    exact ((((t3.mono (fun k hk => by simp [hk])).trans (t4.mono (fun k hk => by simp [hk]))).set hm _).set hm _).set hm _
  · intro k hk
    simp only [List.mem_cons, List.mem_append] at hk ⊢
    rcases hk with rfl | hk | hk
    · exact .inl (.inl rfl)
    · simp [ownsOf] at hk
      rcases kb k hk with h | h
      · exact .inl (.inr (.inl (by simp [ownsOf, h])))
      · exact .inr h
    · simp [ownsOf] at hk
      rcases ks k hk with h | h
      · exact .inl (.inr (.inr (by simp [ownsOf, h])))
      · exact .inr (Nat.le_trans t3.size h)
set_option maxRecDepth 20000 in
set_option maxHeartbeats 4000000 in
theorem lappend_yes {g b : Nat} {L : PLog.Lg} {own : List Nat} (w : World) (h : IsLog w g L b own) (s : ByteArray) (hn : L.next ≤ 8900000000000000000) (h1 : 1 ≤ s.size) (h2 : s.size ≤ 4096) (h3 : s.size + 14 ≤ L.room) :
    Calls Try.prog 8 #[.pointer (some ⟨g, 0, none⟩), .string s] w (LAppPost g L s.data.toList b own w) := by
  have hls := list_size s
  have HQ : Hid (PLog.append L s.data.toList = ({ L with texts := L.texts ++ [s.data.toList] }, L.next, 0)) := Lib.hid (by
    unfold PLog.append
    rw [if_neg (by omega), if_neg (by omega)])
  have hok2 := PLog.append_ok h.1 s.data.toList hn
  rw [HQ.out] at hok2
  have HOK2 := Lib.hid hok2
  have H := Lib.hid h
  have hE := enc_yes L.next s.data.toList (by omega) (by omega) (by have := h.1.first; have := L.first_next; omega)
  obtain ⟨f, hf⟩ : ∃ f : ByteArray, (⟨(PFrm.frame L.next s.data.toList).toArray⟩ : ByteArray) = f := ⟨_, rfl⟩
  have hfs : f.size = s.size + 14 := by rw [← hf, size_mk, PFrm.frame_length]; omega
  have hfd : f.data.toList = PFrm.frame L.next s.data.toList := by rw [← hf]
  have HEN : Hid (∀ W, Calls Try.prog 30 #[.int .u64 L.next, .string s] W fun e w' => e = .returned (.tuple #[.string f, .int .i64 0]) ∧ Below W.heap.size W w') := Lib.hid (fun W => by
    have := encode_any L.next s (by omega) (by unfold maxLen; omega) W
    rw [hE] at this
    rw [← hf]
    exact this)
  have HRM : Hid (∀ W, IsLog W g L b own → Calls Try.prog 19 #[.pointer (some ⟨g, 0, none⟩)] W fun e w' => e = .returned (.int .i64 (L.room : Nat)) ∧ Below W.heap.size W w') := Lib.hid (fun W hW => room_any W hW)
  have HEND : Hid (L.bytes ++ f.data.toList = ({ L with texts := L.texts ++ [s.data.toList] } : PLog.Lg).bytes ∧ L.starts ++ [L.next] = ({ L with texts := L.texts ++ [s.data.toList] } : PLog.Lg).starts ∧ ({ L with texts := L.texts ++ [s.data.toList] } : PLog.Lg).next = L.next + f.size) := Lib.hid (by
    refine ⟨?_, ?_, ?_⟩
    · rw [hfd]
      show L.head ++ PLog.framesOf L.first L.texts ++ _ = L.head ++ PLog.framesOf L.first (L.texts ++ [s.data.toList])
      rw [PLog.framesOf_append, List.append_assoc]
      show _ = L.head ++ (PLog.framesOf L.first L.texts ++ (PFrm.frame _ _ ++ []))
      rw [List.append_nil]
      rfl
    · show _ = PLog.startsOf L.first (L.texts ++ [s.data.toList])
      rw [PLog.startsOf_append]
      rfl
    · show PLog.endOf L.first (L.texts ++ [s.data.toList]) = _
      rw [PLog.endOf_append, hfs]
      show PLog.endOf L.first L.texts + (14 + s.data.toList.length) = PLog.endOf L.first L.texts + _
      omega)
  have hbn := Lg_starts_len h.1
  have hln := h.1.bytes_length
  have hrg := h.1.ring
  have hn5 := h.1.n5
  obtain ⟨y, hy⟩ : ∃ y, L.next = y := ⟨_, rfl⟩
  obtain ⟨R, hR⟩ : ∃ R, L.room = R := ⟨_, rfl⟩
  have hroom : R ≤ 450560 := by rw [← hR]; unfold PLog.Lg.room; omega
  rw [hy] at HEN hln
  rw [hR] at HRM h3
  obtain ⟨N, hN⟩ : ∃ N, L.bytes.length = N := ⟨_, rfl⟩
  obtain ⟨M, hM⟩ : ∃ M, L.starts.length = M := ⟨_, rfl⟩
  have hNb : N ≤ 450560 := by omega
  have hMb : M ≤ 1000000 := by omega
  have HNN := Lib.hid hN
  have HMM := Lib.hid hM
  have HYY := Lib.hid hy
  have c7 := h.cells.2.2.2.2.2.1
  rw [hy] at c7
  have w0 : IntKind.u64.wrap (f.size : Int) = f.size := IntWalk.u64_in _ (by omega)
  have w1 : IntKind.u64.wrap ((y : Int) + f.size) = (y + f.size : Nat) := by rw [IntWalk.u64_in _ (by omega)]; omega
  have z1 : ¬ (R : Int) < f.size := by omega
  have HFS := Lib.hid hfs
  clear h hok2 hE hf hfd hbn hln hrg hn5 hy hR hN hM hfs hls
  go_enter Try.func8, Try.ntmps8
  go_wp2_with fail
  refine (made_any _ H.out).mono ?_; rintro e w1 ⟨rfl, rfl⟩
  go_wp2_with fail
  refine (HEN.out _).mono ?_; rintro e w1 ⟨rfl, hb⟩
  have HB := Lib.hid hb
  have HL1 := Lib.hid (H.out.below hb)
  clear hb c7
  go_wp2_with fail
  refine (HRM.out _ HL1.out).mono ?_; rintro e w2 ⟨rfl, hb⟩
  replace HB := Lib.hid (HB.out.step hb)
  have hl2 := HL1.out.below hb
  clear hb HL1
  have H2 := Lib.hid hl2
  have c7 := hl2.cells.2.2.2.2.2.1
  rw [HYY.out] at c7
  obtain ⟨_, vb, vs, hb, hs, hl, d1, d2, d3, hown⟩ := hl2
  rw [HNN.out] at hs
  rw [HMM.out] at hl
  have c4 : w2.cell? ⟨g, 4, none⟩ = some vb := by simp [World.cell?, hb, logV]
  have c5 : w2.cell? ⟨g, 5, none⟩ = some vs := by simp [World.cell?, hb, logV]
  obtain ⟨pb, cb, rfl⟩ := Sl.form hs
  obtain ⟨ps, cs, rfl⟩ := Sl.form hl
  have HHB := Lib.hid hb
  have HSB := Lib.hid hs
  have HSS := Lib.hid hl
  have HD1 := Lib.hid (ns_of d1)
  have HD2 := Lib.hid (ns_of d2)
  have HD3 := Lib.hid (ns_two d3)
  have HOWN := Lib.hid hown
  have HD3s : Hid (∀ k, (Value.slice ps M cs).ownBlock = some k → some k ≠ (Value.slice pb N cb).ownBlock) := Lib.hid (fun k e1 e2 => HD3.out k e2.symm e1.symm)
  have HD4 : Hid (some w2.heap.size ≠ (Value.slice pb N cb).ownBlock) := Lib.hid (fun e => by have := (hs.lt _ e.symm).2; omega)
  clear hb hs hl d1 d2 d3 hown
  have hfle : f.size ≤ 4110 := by have := HFS.out; omega
  go_wp2_with fail
  have c4a : ∀ X, (w2.drew.alloc X).cell? ⟨g, 4, none⟩ = some (.slice pb N cb) := fun X => by simp [World.cell?, heap_alloc_oldL (w := w2.drew) HHB.out X, logV]
  have c5a : ∀ X, (w2.drew.alloc X).cell? ⟨g, 5, none⟩ = some (.slice ps M cs) := fun X => by simp [World.cell?, heap_alloc_oldL (w := w2.drew) HHB.out X, logV]
  have c4b : ∀ X, (w2.alloc X).cell? ⟨g, 4, none⟩ = some (.slice pb N cb) := fun X => by simp [World.cell?, heap_alloc_oldL HHB.out X, logV]
  have c5b : ∀ X, (w2.alloc X).cell? ⟨g, 5, none⟩ = some (.slice ps M cs) := fun X => by simp [World.cell?, heap_alloc_oldL HHB.out X, logV]
  go_region_law
    (first
      | ((refine step_append_str (by rfl) (by rfl) HSB.out (by rfl) f (by rfl) (by omega) (Nat.zero_le _) ?_); intro v' w3 k1 k2 k3; obtain ⟨pb3, cb3, rfl⟩ := Sl.form k1; have HSB3 := Lib.hid k1; have HDJ3 := Lib.hid (disj_new (grown_new (Below.refl _ w2).drew k3) HD3.out (fun k e => (HSS.out.lt k e).2)); have HK3 := Lib.hid (grown_new (Below.refl _ w2).drew k3); have HSS3 := Lib.hid (Sl.grownA HSS.out (Below.refl _ w2).drew k2 HD3s.out); have HHB3 := Lib.hid (heap_grownA HHB.out (Below.refl _ w2).drew k2 HD1.out); have HG3 := Lib.hid (grown_stepped (Below.refl _ w2).drew k2); have c53a : ∀ X, (w3.alloc X).cell? ⟨g, 5, none⟩ = some (.slice ps M cs) := (fun X => by simp [World.cell?, heap_alloc_oldL HHB3.out X, logV]); have c43 : w3.cell? ⟨g, 4, none⟩ = some (.slice pb N cb) := (by simp [World.cell?, HHB3.out, logV]); have c53 : w3.cell? ⟨g, 5, none⟩ = some (.slice ps M cs) := (by simp [World.cell?, HHB3.out, logV]); clear k1 k2 k3)
      | ((refine step_append_str (by rfl) (by rfl) ((Sl.drew HSB.out).alloc _) (by rfl) f (by rfl) (by omega) (Nat.zero_le _) ?_); intro v' w3 k1 k2 k3; obtain ⟨pb3, cb3, rfl⟩ := Sl.form k1; have HSB3 := Lib.hid k1; have HDJ3 := Lib.hid (disj_new (grown_new ((Below.refl _ w2).drew.alloc (Nat.le_refl _) _) k3) HD3.out (fun k e => (HSS.out.lt k e).2)); have HK3 := Lib.hid (grown_new ((Below.refl _ w2).drew.alloc (Nat.le_refl _) _) k3); have HSS3 := Lib.hid (Sl.grownA HSS.out ((Below.refl _ w2).drew.alloc (Nat.le_refl _) _) k2 HD3s.out); have HHB3 := Lib.hid (heap_grownA HHB.out ((Below.refl _ w2).drew.alloc (Nat.le_refl _) _) k2 HD1.out); have HG3 := Lib.hid (grown_stepped ((Below.refl _ w2).drew.alloc (Nat.le_refl _) _) k2); have HNW := Lib.hid (heap_grownL (heap_alloc_new w2.drew _) k2 HD4.out); have c53a : ∀ X, (w3.alloc X).cell? ⟨g, 5, none⟩ = some (.slice ps M cs) := (fun X => by simp [World.cell?, heap_alloc_oldL HHB3.out X, logV]); have c43 : w3.cell? ⟨g, 4, none⟩ = some (.slice pb N cb) := (by simp [World.cell?, HHB3.out, logV]); have c53 : w3.cell? ⟨g, 5, none⟩ = some (.slice ps M cs) := (by simp [World.cell?, HHB3.out, logV]); clear k1 k2 k3)
      | ((refine step_append_str (by rfl) (by rfl) (Sl.drew (HSB.out.alloc _)) (by rfl) f (by rfl) (by omega) (Nat.zero_le _) ?_); intro v' w3 k1 k2 k3; obtain ⟨pb3, cb3, rfl⟩ := Sl.form k1; have HSB3 := Lib.hid k1; have HDJ3 := Lib.hid (disj_new (grown_new ((Below.refl _ w2).alloc (Nat.le_refl _) _).drew k3) HD3.out (fun k e => (HSS.out.lt k e).2)); have HK3 := Lib.hid (grown_new ((Below.refl _ w2).alloc (Nat.le_refl _) _).drew k3); have HSS3 := Lib.hid (Sl.grownA HSS.out ((Below.refl _ w2).alloc (Nat.le_refl _) _).drew k2 HD3s.out); have HHB3 := Lib.hid (heap_grownA HHB.out ((Below.refl _ w2).alloc (Nat.le_refl _) _).drew k2 HD1.out); have HG3 := Lib.hid (grown_stepped ((Below.refl _ w2).alloc (Nat.le_refl _) _).drew k2); have HNW := Lib.hid (heap_grownL (W := (w2.alloc (.cells #[.int .u64 y] 22)).drew) (heap_alloc_new w2 _) k2 HD4.out); have c53a : ∀ X, (w3.alloc X).cell? ⟨g, 5, none⟩ = some (.slice ps M cs) := (fun X => by simp [World.cell?, heap_alloc_oldL HHB3.out X, logV]); have c43 : w3.cell? ⟨g, 4, none⟩ = some (.slice pb N cb) := (by simp [World.cell?, HHB3.out, logV]); have c53 : w3.cell? ⟨g, 5, none⟩ = some (.slice ps M cs) := (by simp [World.cell?, HHB3.out, logV]); clear k1 k2 k3)
      | ((refine step_append_sl elem_u64 (by rfl) (by rfl) (HSS3.out.alloc _) (by rfl) [.int .u64 y] (by rfl) (by rfl) (news_alloc _ [_] _ _) (by intro u hu; simp at hu; subst hu; rfl) (by unfold maxLen; omega) (by omega) (Nat.zero_le _) ?_); intro v' w4 k1 k2 k3; obtain ⟨ps4, cs4, rfl⟩ := Sl.form k1; have HSS4 := Lib.hid k1; have HK4 := Lib.hid (grown_new ((Below.refl _ w3).alloc (Nat.le_refl _) _) k3); have HSB4 := Lib.hid (Sl.grownA HSB3.out ((Below.refl _ w3).alloc (Nat.le_refl _) _) k2 HDJ3.out); have HDJ4 := Lib.hid (disj_new (grown_new ((Below.refl _ w3).alloc (Nat.le_refl _) _) k3) (fun k e1 e2 => HDJ3.out k e2.symm e1.symm) (fun k e => (HSB3.out.lt k e).2)); have HHB4 := Lib.hid (heap_grownA HHB3.out ((Below.refl _ w3).alloc (Nat.le_refl _) _) k2 HD2.out); have HG4 := Lib.hid (grown_stepped ((Below.refl _ w3).alloc (Nat.le_refl _) _) k2); have c44 : w4.cell? ⟨g, 4, none⟩ = some (.slice pb N cb) := (by simp [World.cell?, HHB4.out, logV]); have c54 : w4.cell? ⟨g, 5, none⟩ = some (.slice ps M cs) := (by simp [World.cell?, HHB4.out, logV]); have f44 : w4.frozen? ⟨g, 4, none⟩ = false := (by simp [World.frozen?, HHB4.out]); have f54 : w4.frozen? ⟨g, 5, none⟩ = false := (by simp [World.frozen?, HHB4.out]); clear k1 k2 k3)
      | ((refine step_append_sl elem_u64 (by rfl) (by rfl) HSS3.out (by rfl) [.int .u64 y] (by rfl) (by rfl) (news_heap HNW.out) (by intro u hu; simp at hu; subst hu; rfl) (by unfold maxLen; omega) (by omega) (Nat.zero_le _) ?_); intro v' w4 k1 k2 k3; obtain ⟨ps4, cs4, rfl⟩ := Sl.form k1; have HSS4 := Lib.hid k1; have HK4 := Lib.hid (grown_new (Below.refl _ w3) k3); have HSB4 := Lib.hid (Sl.grownA HSB3.out (Below.refl _ w3) k2 HDJ3.out); have HDJ4 := Lib.hid (disj_new (grown_new (Below.refl _ w3) k3) (fun k e1 e2 => HDJ3.out k e2.symm e1.symm) (fun k e => (HSB3.out.lt k e).2)); have HHB4 := Lib.hid (heap_grownA HHB3.out (Below.refl _ w3) k2 HD2.out); have HG4 := Lib.hid (grown_stepped (Below.refl _ w3) k2); have c44 : w4.cell? ⟨g, 4, none⟩ = some (.slice pb N cb) := (by simp [World.cell?, HHB4.out, logV]); have c54 : w4.cell? ⟨g, 5, none⟩ = some (.slice ps M cs) := (by simp [World.cell?, HHB4.out, logV]); have f44 : w4.frozen? ⟨g, 4, none⟩ = false := (by simp [World.frozen?, HHB4.out]); have f54 : w4.frozen? ⟨g, 5, none⟩ = false := (by simp [World.frozen?, HHB4.out]); clear k1 k2 k3))
  all_goals (
    obtain ⟨W5, hW5⟩ : ∃ W5, (w4.setCell ⟨g, 4, none⟩ (.slice pb3 (N + f.size) cb3)).setCell ⟨g, 5, none⟩ (.slice ps4 (M + 1) cs4) = W5 := ⟨_, rfl⟩
    rw [hW5]
    have h5 : W5.heap[g]? = some (.cells (((logV L b (.slice pb N cb) (.slice ps M cs)).setIfInBounds 4 (.slice pb3 (N + f.size) cb3)).setIfInBounds 5 (.slice ps4 (M + 1) cs4)) 64 (0, 0)) := by
      rw [← hW5]
      exact heap_set (heap_set HHB4.out _) _
    have c75 : W5.cell? ⟨g, 7, none⟩ = some (.int .u64 y) := by simp [World.cell?, h5, logV, HYY.out]
    have f75 : W5.frozen? ⟨g, 7, none⟩ = false := by simp [World.frozen?, h5]
    have HW5 := Lib.hid hW5
    clear h5 hW5 c4 c5 c43 c53 c44 c54 f44 f54 c4a c5a c4b c5b c53a
    go_wp2
    go_ret2
    unfold LAppPost
    rw [HQ.out]
    have hE := append_end (L2 := { L with texts := L.texts ++ [s.data.toList] }) HHB4.out (H2.out.lt g H2.out.mem) (by rw [← HEND.out.1, List.length_append, HNN.out]; exact HSB4.out) (by rw [← HEND.out.2.1, List.length_append, HMM.out, u64V_append, HYY.out]; exact HSS4.out) HOK2.out HD1.out HD2.out HDJ4.out HK3.out HK4.out HG3.out HG4.out HOWN.out (.int .u64 ((y : Int) + f.size)) (by
      have e := HEND.out.2.2
      rw [HYY.out] at e
      simp [logV, e])
    rw [HW5.out] at hE
    obtain ⟨own', k1, k2⟩ := hE
    exact ⟨own', by rw [HYY.out]; rfl, k1, (Stepped.of_below HB.out own).trans k2⟩)
theorem lappend_no {g b : Nat} {L : PLog.Lg} {own : List Nat} (w : World) (h : IsLog w g L b own) (s : ByteArray) (hs : s.size ≤ maxLen) (hno : s.size < 1 ∨ 4096 < s.size) :
    Calls Try.prog 8 #[.pointer (some ⟨g, 0, none⟩), .string s] w (LAppPost g L s.data.toList b own w) := by
  have hls := list_size s
  have HQ : Hid (PLog.append L s.data.toList = (L, 0, 2)) := Lib.hid (by
    unfold PLog.append
    rw [if_pos (by omega)])
  have H := Lib.hid h
  have hE := enc_no L.next s.data.toList (by omega)
  have hnx := h.1.next5
  have HEN : Hid (∀ W, Calls Try.prog 30 #[.int .u64 L.next, .string s] W fun e w' => e = .returned (.tuple #[.string ⟨#[]⟩, .int .i64 2]) ∧ Below W.heap.size W w') := Lib.hid (fun W => by
    have := encode_any L.next s (by omega) hs W
    rw [hE] at this
    exact this)
  have c7 := h.cells.2.2.2.2.2.1
  clear h hE hls hnx
  go_enter Try.func8, Try.ntmps8
  go_wp2_with fail
  refine (made_any _ H.out).mono ?_; rintro e w1 ⟨rfl, rfl⟩
  go_wp2_with fail
  refine (HEN.out _).mono ?_; rintro e w1 ⟨rfl, hb⟩
  have HB := Lib.hid hb
  clear hb c7
  go_wp2
  go_ret2
  unfold LAppPost
  rw [HQ.out]
  exact LogPost.same rfl H.out HB.out
theorem lappend_full {g b : Nat} {L : PLog.Lg} {own : List Nat} (w : World) (h : IsLog w g L b own) (s : ByteArray) (h1 : 1 ≤ s.size) (h2 : s.size ≤ 4096) (h3 : L.room < s.size + 14) :
    Calls Try.prog 8 #[.pointer (some ⟨g, 0, none⟩), .string s] w (LAppPost g L s.data.toList b own w) := by
  have hls := list_size s
  have HQ : Hid (PLog.append L s.data.toList = (L, 0, 4)) := Lib.hid (by
    unfold PLog.append
    rw [if_neg (by omega), if_pos (by omega)])
  have H := Lib.hid h
  have hE := enc_yes L.next s.data.toList (by omega) (by omega) (by have := h.1.first; have := L.first_next; omega)
  obtain ⟨f, hf⟩ : ∃ f : ByteArray, (⟨(PFrm.frame L.next s.data.toList).toArray⟩ : ByteArray) = f := ⟨_, rfl⟩
  have hfs : f.size = s.size + 14 := by rw [← hf, size_mk, PFrm.frame_length]; omega
  have hnx := h.1.next5
  have HEN : Hid (∀ W, Calls Try.prog 30 #[.int .u64 L.next, .string s] W fun e w' => e = .returned (.tuple #[.string f, .int .i64 0]) ∧ Below W.heap.size W w') := Lib.hid (fun W => by
    have := encode_any L.next s (by omega) (by unfold maxLen; omega) W
    rw [hE] at this
    rw [← hf]
    exact this)
  have HRM : Hid (∀ W, IsLog W g L b own → Calls Try.prog 19 #[.pointer (some ⟨g, 0, none⟩)] W fun e w' => e = .returned (.int .i64 (L.room : Nat)) ∧ Below W.heap.size W w') := Lib.hid (fun W hW => room_any W hW)
  have c7 := h.cells.2.2.2.2.2.1
  obtain ⟨R, hR⟩ : ∃ R, L.room = R := ⟨_, rfl⟩
  rw [hR] at HRM h3
  have z1 : (R : Int) < f.size := by omega
  clear h hE hls hnx hf hfs hR
  go_enter Try.func8, Try.ntmps8
  go_wp2_with fail
  refine (made_any _ H.out).mono ?_; rintro e w1 ⟨rfl, rfl⟩
  go_wp2_with fail
  refine (HEN.out _).mono ?_; rintro e w1 ⟨rfl, hb⟩
  have HB := Lib.hid hb
  clear hb c7
  go_wp2_with fail
  refine (HRM.out _ (H.out.below HB.out)).mono ?_; rintro e w2 ⟨rfl, hb⟩
  replace HB := Lib.hid (HB.out.step hb)
  clear hb
  go_wp2
  go_ret2
  unfold LAppPost
  rw [HQ.out]
  exact LogPost.same rfl H.out HB.out
theorem lappend_any {g b : Nat} {L : PLog.Lg} {own : List Nat} (w : World) (h : IsLog w g L b own) (s : ByteArray) (hs : s.size ≤ maxLen) (hn : L.next ≤ 8900000000000000000) :
    Calls Try.prog 8 #[.pointer (some ⟨g, 0, none⟩), .string s] w (LAppPost g L s.data.toList b own w) := by
  by_cases h1 : s.size < 1 ∨ 4096 < s.size
  · exact lappend_no w h s hs h1
  by_cases h2 : L.room < s.size + 14
  · exact lappend_full w h s (by omega) (by omega) h2
  exact lappend_yes w h s hn (by omega) (by omega) (by omega)
end Go.Proofs.Ytjnggldalggfnaa
