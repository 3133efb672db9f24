/-
  Log: Open.
-/
import Derived.Test.YtjnggldalggfnaaLog13
import Derived.Test.YtjnggldalggfnaaLog14
import Derived.Test.YtjnggldalggfnaaPLog2
import Derived.Deep.CutBlock
import Derived.WalkMore
namespace Go.Proofs.Ytjnggldalggfnaa
open Go.RowKit Go.Lib
/-- the log's row while Open makes it -/
def rowO (b pl n life first : Nat) (vb vs : Value) (next forced : Nat) : Array Value := #[.pointer (some ⟨b, 0, none⟩), .int .i64 pl, .int .i64 n, .int .u64 life, vb, vs, .int .u64 first, .int .u64 next, .int .u64 forced, .int .i64 0]
theorem wpList_append_str {w : World} {base : Nat} {v : Value} {n : Nat} {l : List UInt8} (hown : Sl w base 5 1 v n (bytesV l)) (t : ByteArray) (hbase : base ≤ w.heap.size) (h63 : n + t.size ≤ 140737488355328)
    {ops : Array Oper} {rest : List Oper} {o : Oper} {a : Act} {Q : Exit → Act → World → Prop} {s x : Operand}
    (hgd : o.guard = none) (ho : o.op = .call { callee := .builtin .append, args := #[s, x], argTypes := #[43, 9] })
    (hs : a.eval s = v) (hx : a.eval x = .string t)
    (h : ∀ v' w', Sl w' base 5 1 v' (n + t.size) (bytesV (l ++ t.data.toList)) → w.grownBy w' v.ownBlock → (∀ k, v'.ownBlock = some k → v.ownBlock = some k ∨ w.heap.size ≤ k) → wpList Try.prog ops Q rest (a.put o.dst v') w') :
    wpList Try.prog ops Q (o :: rest) a w := by
  refine wpList_plain hgd fun K hK => ?_
  obtain ⟨i, hi, hz, hsize, hby⟩ := u8_parts
  obtain ⟨v', w', hr, h2, h3, h4⟩ := run_append_str_sl (P := Try.prog) w base 43 9 o.type 5 i Try.underlying43 Try.underlying9 hi hz hsize hby v n (bytesV l) hown t (by unfold maxLen; omega) h63 hbase
  rw [strCells_bytesV, ← bytesV_append] at h2
  unfold Oper.wp execOp
  simp only [ho, resolve, invoke, builtin, Sem.run_bind, Sem.run_pure, Result.andThen_ok, List.map_toArray, List.map_cons, List.map_nil, hs, hx, hr]
  exact hK _ _ (h v' w' h2 h3 h4)
set_option maxRecDepth 100000 in
theorem lopen_nil (pl n life first : Int) (w : World) : Calls Try.prog 11 #[.pointer none, .int .i64 pl, .int .i64 n, .int .u64 life, .int .u64 first] w fun e w' => e = .returned (.tuple #[.pointer none, .int .i64 1]) ∧ w = w' := by
  go_enter Try.func11, Try.ntmps11
  go_wp2_with fail
  go_step3
  go_wp2_with fail
  refine (lmay_nil _ _ _ _).mono ?_; rintro e w1 ⟨rfl, rfl⟩
  go_wp2
  try rw [Exit.noGoto_ret]
  go_ret2
  exact ⟨rfl, rfl⟩
/-- Open's world while the stream is read: acc is what was read -/
def OpA (w : World) (b pl n life first : Nat) (acc : List UInt8) (wr : World) : Prop :=
  ∃ vb, wr.heap[w.heap.size]? = some (.cells (rowO b pl n life first vb (.slice none 0 0) 0 0) 64 (0, 0)) ∧ Sl wr (w.heap.size + 1) 5 1 vb acc.length (bytesV acc) ∧ Below w.heap.size w wr
theorem OpA.str {w wr : World} {b pl n life first : Nat} {acc : List UInt8} (h : OpA w b pl n life first acc wr) : StrC wr w.heap.size b pl n life := by
  obtain ⟨vb, h1, _⟩ := h
  exact ⟨cell_of_row _ _ 0 _ _ _ h1, cell_of_row _ _ 1 _ _ _ h1, cell_of_row _ _ 2 _ _ _ h1, cell_of_row _ _ 3 _ _ _ h1⟩
theorem OpA.step {w wr w' : World} {b pl n life first : Nat} {acc : List UInt8} (h : OpA w b pl n life first acc wr) (hb : Below wr.heap.size wr w') : OpA w b pl n life first acc w' := by
  obtain ⟨vb, h1, h2, h3⟩ := h
  exact ⟨vb, (hb.block _ (Array.getElem?_eq_some_iff.1 h1).1).trans h1, h2.keep fun k e => hb.block k (h2.lt k e).2, h3.step hb⟩
theorem OpA.put {w wr w2 : World} {b pl n life first : Nat} {acc acc2 : List UInt8} {v v' : Value} (h1 : wr.heap[w.heap.size]? = some (.cells (rowO b pl n life first v (.slice none 0 0) 0 0) 64 (0, 0))) (h3 : Below w.heap.size w wr)
    (h2 : Sl wr (w.heap.size + 1) 5 1 v acc.length (bytesV acc)) (k1 : Sl w2 (w.heap.size + 1) 5 1 v' acc2.length (bytesV acc2)) (k2 : wr.grownBy w2 v.ownBlock) :
    OpA w b pl n life first acc2 (w2.setCell ⟨w.heap.size, 4, none⟩ v') := by
  have hne : some w.heap.size ≠ v.ownBlock := fun e => by have := (h2.lt _ e.symm).1; omega
  have hh : w2.heap[w.heap.size]? = some (.cells (rowO b pl n life first v (.slice none 0 0) 0 0) 64 (0, 0)) := heap_grownL h1 k2 hne
  refine ⟨v', ?_, k1.keep fun k e => ?_, ?_⟩
  · rw [heap_set hh]
    simp [rowO]
  · have := (k1.lt k e).1
    exact Below.heap_setCell _ ⟨w.heap.size, 4, none⟩ _ k (by show k ≠ w.heap.size; omega)
  · exact (h3.grown k2 h3.size (fun k e => by have := (h2.lt k e).1; omega)).setCell (p := ⟨w.heap.size, 4, none⟩) (Nat.le_refl _) _
theorem OpA.apart {W w : World} {v : Value} {n : Nat} {l : List UInt8} (h : Sl W (w.heap.size + 1) 5 1 v n (bytesV l)) : some w.heap.size ≠ v.ownBlock := fun e => by have := (h.lt _ e.symm).1; omega
theorem conv_rds {w : World} {ad : Addr} {m c : Nat} {l : List UInt8} (h : RdS w 1 (.slice (some ad) m c) m (bytesV l)) : (convert 43 9 (.slice (some ad) m c)).run Try.prog w = .ok (.string ⟨l.toArray⟩) w := by
  have hl : l.length = m := by have := h.1; rw [bytesV_length, Nat.mul_one] at this; exact this
  subst hl
  refine run_convert_bytes_back w _ _ _ ad c l Try.underlying43 Try.underlying5 Try.underlying9 ?_
  intro j hj
  obtain ⟨g, off, e1, e2, e3⟩ := h.at (by omega)
  simp at e1
  subst e1
  rw [Addr.add_mid, e3 j (by rw [bytesV_length]; exact hj)]
  have := bytesV_at hj
  rw [List.getElem?_eq_getElem (by rw [bytesV_length]; exact hj)] at this
  exact this
theorem strV_rd {w' : World} {base : Nat} {v : Value} {l : List (List UInt8)} (h : Sl w' base 9 1 v l.length (strV l)) : Rd w' v (strV l) := Rd.of_sl h
theorem rowO_no {b pl n life first nx fo : Nat} {p1 p2 : Option Addr} {n1 c1 n2 c2 : Nat} {t : ByteArray} : ∀ j : Nat, (rowO b pl n life first (.slice p1 n1 c1) (.slice p2 n2 c2) nx fo)[j]? ≠ some (Value.string t)
  | 0 => by simp [rowO]
  | 1 => by simp [rowO]
  | 2 => by simp [rowO]
  | 3 => by simp [rowO]
  | 4 => by simp [rowO]
  | 5 => by simp [rowO]
  | 6 => by simp [rowO]
  | 7 => by simp [rowO]
  | 8 => by simp [rowO]
  | 9 => by simp [rowO]
  | j + 10 => by simp [rowO]
theorem turns_grown {bs : List Nat} {A W W' : World} {ob : Option Nat} (h : Turns bs A W) (hg : W.grownBy W' ob) (hd : ∀ k, ob = some k → A.heap.size ≤ k) : Turns bs A W' :=
  ⟨hg.os.trans h.os, hg.tape.trans h.tape, hg.output.trans h.output, Nat.le_trans h.size hg.size, fun k hk hn => (hg.block k (Nat.lt_of_lt_of_le hk h.size) (fun e => by have := hd k e.symm; omega)).trans (h.block k hk hn)⟩
/-- what holds in a round of the texts' loop -/
def OpR (g : Nat) (Wa : World) (b pl n life first : Nat) (vb vs : Value) (m : Nat) (starts : List Nat) (next : Nat) (wr : World) : Prop :=
  wr.heap[g]? = some (.cells (rowO b pl n life first vb vs next 0) 64 (0, 0)) ∧ Sl wr Wa.heap.size 22 1 vs m (u64V starts) ∧ Turns [g] Wa wr
theorem OpR.low {g : Nat} {Wa : World} {b pl n life first : Nat} {vb vs : Value} {m : Nat} {starts : List Nat} {next : Nat} {wr w' : World} (h : OpR g Wa b pl n life first vb vs m starts next wr) (hb : Below wr.heap.size wr w') : OpR g Wa b pl n life first vb vs m starts next w' :=
  ⟨(hb.block _ (Array.getElem?_eq_some_iff.1 h.1).1).trans h.1, h.2.1.keep fun k e => hb.block k (h.2.1.lt k e).2, h.2.2.trans (Turns.mono (Turns.of_below (bs := []) hb) (by simp))⟩
theorem OpR.app {g : Nat} {Wa : World} {b pl n life first : Nat} {vb vs v' : Value} {m e0 : Nat} {starts : List Nat} {next : Nat} {W w5 : World} (h : OpR g Wa b pl n life first vb vs m starts next W) (hg : g < Wa.heap.size)
    (k1 : Sl w5 Wa.heap.size 22 1 v' (m + 1) (u64V starts ++ [.int .u64 (e0 : Int)])) (k2 : W.grownBy w5 vs.ownBlock) :
    w5.heap[g]? = some (.cells (rowO b pl n life first vb vs next 0) 64 (0, 0)) ∧ OpR g Wa b pl n life first vb v' (m + 1) (starts ++ [e0]) next (w5.setCell ⟨g, 5, none⟩ v') := by
  have hne : some g ≠ vs.ownBlock := fun e => by have := (h.2.1.lt g e.symm).1; omega
  have h5 := heap_grownL h.1 k2 hne
  refine ⟨h5, ?_, ?_, ?_⟩
  · rw [heap_set h5]
    simp [rowO]
  · rw [u64V_append]
    exact k1.keep fun k e => Below.heap_setCell _ ⟨g, 5, none⟩ _ k (by have := (k1.lt k e).1; show k ≠ g; omega)
  · exact (turns_grown h.2.2 k2 (fun k e => (h.2.1.lt k e).1)).set (by simp) _
theorem OpR.put {g : Nat} {Wa : World} {b pl n life first : Nat} {vb vs : Value} {m e1 : Nat} {starts : List Nat} {next : Nat} {W : World} (h : OpR g Wa b pl n life first vb vs m starts next W) (hg : g < Wa.heap.size) :
    OpR g Wa b pl n life first vb vs m starts e1 (W.setCell ⟨g, 7, none⟩ (.int .u64 e1)) := by
  refine ⟨?_, ?_, h.2.2.set (by simp) _⟩
  · rw [heap_set h.1]
    simp [rowO]
  · exact h.2.1.keep fun k e => Below.heap_setCell _ ⟨g, 7, none⟩ _ k (by have := (h.2.1.lt k e).1; show k ≠ g; omega)
theorem Sl.frontp {w : World} {base : Nat} {e : TypeId} {n c : Nat} {p : Option Addr} {xs : List Value} (h : Sl w base e 1 (.slice p n c) n xs) {i : Nat} (h2 : i ≤ n) : Sl w base e 1 (.slice p i c) i (xs.take i) := by
  obtain ⟨hl, hh⟩ := h
  rcases hh with ⟨e, h0⟩ | ⟨g', off', cap, cur, fz, e, hb, hgg, hf, hnc, hcm, hcs, htake⟩
  · simp at e
    obtain ⟨rfl, rfl, rfl⟩ := e
    obtain rfl : i = 0 := by omega
    exact ⟨by simp, .inl ⟨rfl, rfl⟩⟩
  · simp at e
    obtain ⟨rfl, rfl⟩ := e
    refine ⟨by rw [List.length_take]; omega, .inr ⟨g', off', c, cur, fz, rfl, hb, hgg, hf, by omega, hcm, hcs, ?_⟩⟩
    rw [← htake, List.take_take]
    congr 1
    omega
theorem OpA.low {w wr : World} {b pl n life first : Nat} {acc : List UInt8} (h : OpA w b pl n life first acc wr) : Below w.heap.size w wr := by
  obtain ⟨vb, h1, h2, h3⟩ := h
  exact h3
theorem OpA.start (w : World) (b pl n life first : Nat) : OpA w b pl n life first [] (w.alloc (.cells #[.pointer (some ⟨b, 0, none⟩), .int .i64 pl, .int .i64 n, .int .u64 life, .slice none 0 0, .slice none 0 0, .int .u64 first, .int .u64 0, .int .u64 0, .int .i64 0] 64)) :=
  ⟨_, heap_alloc_new w _, Sl.nil _ _ _ _, (Below.refl _ _).alloc (Nat.le_refl _) _⟩
theorem open_ld {w Wa wr : World} {b pl n life first U E m : Nat} {p : Option Addr} {cp : Nat} {vs : Value} {starts : List Nat} {bs : List UInt8} {D : PDsk.Dsk} {down : List Nat} {L : PLog.Lg}
    (h : OpR w.heap.size Wa b pl n life first (.slice p U cp) vs m starts E wr) (hBA : Below w.heap.size w Wa) (hSA : Sl Wa (w.heap.size + 1) 5 1 (.slice p U cp) U (bytesV bs)) (hg : w.heap.size < Wa.heap.size) (hd : IsDisk w b D down)
    (hk : L.Ok) (e1 : L.pl = pl) (e2 : L.n = n) (e3 : L.life = life) (e4 : L.first = first) (e5 : L.next = E) (e6 : L.forced = E) (e7 : L.reserved = 0) (hb : L.bytes = bs) (hbl : bs.length = U) (hs : L.starts = starts) (hsl : starts.length = m) :
    ∃ own, LD (wr.setCell ⟨w.heap.size, 8, none⟩ (.int .u64 E)) w.heap.size L b D own ∧ Stepped w (wr.setCell ⟨w.heap.size, 8, none⟩ (.int .u64 E)) down own := by
  obtain ⟨r1, r2, r3⟩ := h
  have ht : Turns [w.heap.size] Wa (wr.setCell ⟨w.heap.size, 8, none⟩ (.int .u64 E)) := r3.set (by simp) _
  have hlow : Below w.heap.size w (wr.setCell ⟨w.heap.size, 8, none⟩ (.int .u64 E)) := below_turns hBA (by omega) (by simp) ht
  have o1 : ∀ k, (Value.slice p U cp).ownBlock = some k → w.heap.size + 1 ≤ k ∧ k < Wa.heap.size := fun k e => hSA.lt k e
  have o2 : ∀ k, vs.ownBlock = some k → Wa.heap.size ≤ k ∧ k < wr.heap.size := fun k e => r2.lt k e
  have hL : IsLog (wr.setCell ⟨w.heap.size, 8, none⟩ (.int .u64 E)) w.heap.size L b (w.heap.size :: (ownsOf (.slice p U cp) ++ ownsOf vs)) := by
    refine ⟨hk, .slice p U cp, vs, ?_, ?_, ?_, ?_, ?_, ?_, rfl⟩
    · rw [heap_set r1]
      simp [rowO, logV, e1, e2, e3, e4, e5, e6, e7]
    · rw [hb, hbl]
      exact (hSA.base_le (Nat.zero_le _)).keep fun k e => ht.block k (o1 k e).2 (by have := (o1 k e).1; simp; omega)
    · rw [hs, hsl]
      exact (r2.base_le (Nat.zero_le _)).keep fun k e => Below.heap_setCell _ ⟨w.heap.size, 8, none⟩ _ k (by have := (o2 k e).1; show k ≠ w.heap.size; omega)
    · intro hm; simp only [ownsOf, Option.mem_toList] at hm; have := (o1 _ hm).1; omega
    · intro hm; simp only [ownsOf, Option.mem_toList] at hm; have := (o2 _ hm).1; omega
    · intro k hm hm2
      simp only [ownsOf, Option.mem_toList] at hm hm2
      have := (o1 _ hm).2
      have := (o2 _ hm2).1
      omega
  have hge : ∀ k ∈ (w.heap.size :: (ownsOf (.slice p U cp) ++ ownsOf vs)), w.heap.size ≤ k := by
    intro k hk
    simp only [List.mem_cons, List.mem_append, ownsOf, Option.mem_toList] at hk
    rcases hk with rfl | hk | hk
    · exact Nat.le_refl _
    · have := (o1 _ hk).1; omega
    · have := (o2 _ hk).1; omega
  refine ⟨_, ⟨_, down, hL, hd.below hlow, fun k hk hm => ?_, rfl⟩, Turns.mono (Turns.of_below (bs := []) hlow) (by simp), fun k hk => ?_⟩
  · have := hge k hk
    have := hd.lt k hm
    omega
  · rcases List.mem_append.1 hk with hk | hk
    · exact .inr (hge k hk)
    · exact .inl hk
theorem writeL_ok {L : PLog.Lg} (hk : L.Ok) {D : PDsk.Dsk} (_ : D.Ok) (hf : D.fuse = -1) (hp : L.pl + L.n ≤ D.sure.length) (k : Nat) : (writeL L D k).2 = 0 ∧ (writeL L D k).1.fuse ≠ 0 := by
  have hs := PLog.sec_lt (pl := L.pl) (x := k) (show 0 < L.n by have := hk.n4; omega)
  have hi := PLog.image_length (k := k) (life := L.life) (PLog.part_le L k)
  unfold writeL PDsk.write
  rw [if_neg (by rw [hf]; decide), if_neg (by rw [hi]; omega)]
  refine ⟨rfl, ?_⟩
  show PDsk.burn D.fuse ≠ 0
  rw [hf]
  decide
/-- the disk behind Open: where more was read than was found, the last stretch is written anew -/
def fixedD (D : PDsk.Dsk) (pl n life first : Nat) : PDsk.Dsk :=
  if (PLog.opened D pl n life first).bytes.length < (PLog.stream D pl n life n (PLog.begin first) 0).length then (PDsk.sync (writeL (PLog.opened D pl n life first) D (PLog.begin (PLog.opened D pl n life first).next)).1).1 else D
def LOpenPost (D : PDsk.Dsk) (pl n life first b : Nat) (down : List Nat) (w : World) (e : Ending) (w' : World) : Prop :=
  ∃ g own', e = .returned (.tuple #[.pointer (some ⟨g, 0, none⟩), .int .i64 0]) ∧ LD w' g (PLog.opened D pl n life first) b (fixedD D pl n life first) own' ∧ Stepped w w' down own'
set_option maxRecDepth 100000 in
set_option maxHeartbeats 8000000 in
theorem lopen_any {b : Nat} {D : PDsk.Dsk} {down : List Nat} (w : World) (hd : IsDisk w b D down) (pl n life first : Nat) (ho : PLog.Opens D pl n life first) (hf : D.fuse = -1) (hll : D.loose.length ≤ 900000) :
    Calls Try.prog 11 #[.pointer (some ⟨b, 0, none⟩), .int .i64 pl, .int .i64 n, .int .u64 life, .int .u64 first] w (LOpenPost D pl n life first b down w) := by
  have HM := Lib.hid (lmay_ok w hd pl n life ho.n4 ho.n5 ho.place ho.life1)
  have h1 := ho.first1
  have h5 := ho.first5
  have hn5 := ho.n5
  have HO := Lib.hid ho
  have HD := Lib.hid hd
  have z1 : ¬ (first : Int) < 110 := by omega
  have z2 : ¬ (4611686018427387904 : Int) < first := by omega
  have hbx := PLog.begin_le first
  obtain ⟨bx, hbx'⟩ : ∃ bx, PLog.begin first = bx := ⟨_, rfl⟩
  have HBG : Hid (∀ W, Calls Try.prog 32 #[.int .u64 first] W fun e w' => e = .returned (.int .u64 (bx : Nat)) ∧ W = w') := Lib.hid (fun W => by rw [← hbx']; exact begin_any first (by omega) W)
  rw [hbx'] at hbx
  have hBX := Lib.hid hbx'
  have wn : IntKind.u64.wrap (n : Int) = n := IntWalk.u64_in _ (by omega)
  have HA0 := Lib.hid (OpA.start w b pl n life first)
  clear ho hd hbx'
  go_enter Try.func11, Try.ntmps11
  go_wp2_with fail
  go_step3
  go_wp2_with fail
  refine HM.out.mono ?_; rintro e w1 ⟨rfl, rfl⟩
  go_wp2_with fail
  refine (HBG.out _).mono ?_; rintro e w1 ⟨rfl, rfl⟩
  go_wp2_with fail
  go_step3
  go_upto_block 0 with fail
  go_cut [13] from 15 to 90 (fun s13 wx => s13 = .pointer (some ⟨w.heap.size, 0, none⟩) ∧ Hid (OpA w b pl n life first (PLog.stream D pl n life n bx 0) wx))
  case first =>
    go_wp2_with fail
    go_loopw [15, 54] (fun ev kv wr => ∃ (K el : Nat) (acc : List UInt8), K ≤ n ∧ kv = .int .u64 K ∧ ev = .int .u64 el ∧ Hid (OpA w b pl n life first acc wr) ∧ Hid (PLog.stream D pl n life n bx 0 = acc ++ PLog.stream D pl n life (n - K) (bx + 110 * K) el ∧ acc.length ≤ 110 * K)) (fun _ kv _ => n - (intOf kv).toNat)
    case atStart => exact ⟨0, 0, [], Nat.zero_le _, rfl, rfl, HA0, Lib.hid ⟨by simp, by simp⟩⟩
    case round =>
      obtain ⟨K, el, acc, hKn, rfl, rfl, HA, HS⟩ := hrel
      by_cases hlt : K < n
      · obtain ⟨X, hX⟩ : ∃ X, X = bx + 110 * K := ⟨_, rfl⟩
        have wK : IntKind.u64.wrap ((K : Int) * 110) = (K * 110 : Nat) := by rw [IntWalk.u64_in _ (by omega)]; omega
        obtain ⟨Y, hY⟩ : ∃ Y : Nat, Y = K * 110 := ⟨_, rfl⟩
        rw [← hY] at wK
        have wX : IntKind.u64.wrap ((bx : Int) + Y) = X := by rw [IntWalk.u64_in _ (by omega)]; omega
        have w1 : IntKind.u64.wrap ((K : Int) + 1) = (K + 1 : Nat) := by rw [IntWalk.u64_in _ (by omega)]; omega
        have y1 : (K : Int) < n := by omega
        obtain ⟨t0, by0, hst⟩ : ∃ t0 by0, PLog.stretch D pl n life X = (t0, by0) := ⟨_, _, rfl⟩
        obtain ⟨t, ht⟩ : ∃ t : ByteArray, (⟨t0.toArray⟩ : ByteArray) = t := ⟨_, rfl⟩
        have htd : t.data.toList = t0 := by rw [← ht]
        have hts : t.size = t0.length := by rw [← ht, size_mk]
        have htl : t0.length ≤ 110 := by have := PLog.stretch_le D pl n life X; rw [hst] at this; exact this
        have HSTR := Lib.hid (stretch_any wr HA.out.str (HD.out.below (OpA.low HA.out)) (by rw [hf]; omega) HO.out.n4 HO.out.n5 HO.out.place X (by omega))
        rw [hst] at HSTR
        unfold StrPost at HSTR
        rw [ht] at HSTR
        have HSS : Hid (PLog.stream D pl n life n bx 0 = acc ++ (if t0 = [] ∨ by0 < el then [] else if t0.length < 110 then t0 else t0 ++ PLog.stream D pl n life (n - (K + 1)) (bx + 110 * (K + 1)) by0)) := Lib.hid (by
          rw [HS.out.1, show n - K = (n - (K + 1)) + 1 by omega, ← hX]
          show acc ++ (if (PLog.stretch D pl n life X).1 = [] ∨ (PLog.stretch D pl n life X).2 < el then [] else if (PLog.stretch D pl n life X).1.length < 110 then (PLog.stretch D pl n life X).1 else (PLog.stretch D pl n life X).1 ++ PLog.stream D pl n life (n - (K + 1)) (X + 110) (PLog.stretch D pl n life X).2) = _
          rw [hst, show X + 110 = bx + 110 * (K + 1) by omega])
        obtain ⟨vb, q1, q2, q3⟩ := HA.out
        clear q1 q2 q3
        by_cases hnil : t0 = []
        · have HFIN : Hid (PLog.stream D pl n life n bx 0 = acc) := Lib.hid (by rw [HSS.out, if_pos (.inl hnil), List.append_nil])
          have hte : t.toList.isEmpty = true := by rw [bytes_eq, htd, hnil]; rfl
          clear hnil ht htd hts htl hst hX hY HSS HS
          go_wp2_with fail
          refine HSTR.out.mono ?_; rintro e w2 ⟨rfl, hb⟩
          have HA2 := Lib.hid (HA.out.step hb)
          clear hb HA
          go_wp2
          go_meet
          exact ⟨rfl, Lib.hid (by rw [HFIN.out]; exact HA2.out)⟩
        have hte : t.toList.isEmpty = false := by
          rw [bytes_eq, htd]
          cases t0 with
          | nil => exact absurd rfl hnil
          | cons _ _ => rfl
        by_cases hel : by0 < el
        · have HFIN : Hid (PLog.stream D pl n life n bx 0 = acc) := Lib.hid (by rw [HSS.out, if_pos (.inr hel), List.append_nil])
          have y2 : (by0 : Int) < el := by omega
          clear hnil ht htd hts htl hst hX hY HSS HS hel
          go_wp2_with fail
          refine HSTR.out.mono ?_; rintro e w2 ⟨rfl, hb⟩
          have HA2 := Lib.hid (HA.out.step hb)
          clear hb HA
          go_wp2
          go_meet
          exact ⟨rfl, Lib.hid (by rw [HFIN.out]; exact HA2.out)⟩
        have y2 : ¬ (by0 : Int) < el := by omega
        have hno : ¬ (t0 = [] ∨ by0 < el) := fun h => h.elim hnil hel
        have hal := HS.out.2
        have HAPP : Hid (∀ W vb v' w4, Below wr.heap.size wr W → W.heap[w.heap.size]? = some (.cells (rowO b pl n life first vb (.slice none 0 0) 0 0) 64 (0, 0)) → Below w.heap.size w W → Sl W (w.heap.size + 1) 5 1 vb acc.length (bytesV acc) → Sl w4 (w.heap.size + 1) 5 1 v' (acc.length + t.size) (bytesV (acc ++ t.data.toList)) → W.grownBy w4 vb.ownBlock →
            OpA w b pl n life first (acc ++ t0) (w4.setCell ⟨w.heap.size, 4, none⟩ v')) := Lib.hid (fun W vb v' w4 _ k1 k2 k3 k4 k5 => by
          rw [htd] at k4
          rw [hts, ← List.length_append] at k4
          exact OpA.put k1 k2 k3 k4 k5)
        by_cases hful : t0.length < 110
        · have HFIN : Hid (PLog.stream D pl n life n bx 0 = acc ++ t0) := Lib.hid (by rw [HSS.out, if_neg hno, if_pos hful])
          have y3 : (t.size : Int) < 110 := by omega
          have htz : t.size ≤ 110 := by omega
          clear hnil ht htd hts htl hst hX hY HSS HS hel hno hful
          go_wp2_with fail
          refine HSTR.out.mono ?_; rintro e w2 ⟨rfl, hb⟩
          obtain ⟨vb2, q1, q2, q3⟩ := (HA.out.step hb)
          have c42 : w2.cell? ⟨w.heap.size, 4, none⟩ = some vb2 := cell_of_row _ _ 4 _ _ _ q1
          have HB2 := Lib.hid hb
          have HQ1 := Lib.hid q1
          have HQ2 := Lib.hid q2
          have HQ3 := Lib.hid q3
          have hsz : w.heap.size + 1 ≤ w2.heap.size := (Array.getElem?_eq_some_iff.1 q1).1
          have HSZ := Lib.hid hsz
          have HLN : Hid (acc.length + t.size ≤ 140737488355328) := Lib.hid (by omega)
          clear hb HA q1 q2 q3 hsz
          go_wp2_with (at_builtin; (with_reducible refine wpList_append_str HQ2.out t HSZ.out HLN.out rfl rfl rfl rfl ?_); intro v4 w4 k1 k2 k3; obtain ⟨p4, cap4, rfl⟩ := Sl.form k1; have HFA := Lib.hid (HAPP.out w2 vb2 _ w4 HB2.out HQ1.out HQ3.out HQ2.out k1 k2); have HH4 := Lib.hid (heap_grownL HQ1.out k2 (OpA.apart HQ2.out)); have c44 := cell_of_row _ _ 4 _ _ _ HH4.out; have f44 := frozen_free HH4.out (Free.none _) (j := 4) (by simp [rowO]); clear k1 k2 k3)
          go_meet
          exact ⟨rfl, Lib.hid (by rw [HFIN.out]; exact HFA.out)⟩
        · have hl110 : t0.length = 110 := by omega
          have HFIN : Hid (PLog.stream D pl n life n bx 0 = (acc ++ t0) ++ PLog.stream D pl n life (n - (K + 1)) (bx + 110 * (K + 1)) by0 ∧ (acc ++ t0).length ≤ 110 * (K + 1)) := Lib.hid ⟨by rw [HSS.out, if_neg hno, if_neg hful, List.append_assoc], by rw [List.length_append]; omega⟩
          have y3 : ¬ (t.size : Int) < 110 := by omega
          have htz : t.size ≤ 110 := by omega
          clear hnil ht htd hts htl hst hX hY HSS HS hel hno hful hl110
          go_wp2_with fail
          refine HSTR.out.mono ?_; rintro e w2 ⟨rfl, hb⟩
          obtain ⟨vb2, q1, q2, q3⟩ := (HA.out.step hb)
          have c42 : w2.cell? ⟨w.heap.size, 4, none⟩ = some vb2 := cell_of_row _ _ 4 _ _ _ q1
          have HB2 := Lib.hid hb
          have HQ1 := Lib.hid q1
          have HQ2 := Lib.hid q2
          have HQ3 := Lib.hid q3
          have hsz : w.heap.size + 1 ≤ w2.heap.size := (Array.getElem?_eq_some_iff.1 q1).1
          have HSZ := Lib.hid hsz
          have HLN : Hid (acc.length + t.size ≤ 140737488355328) := Lib.hid (by omega)
          clear hb HA q1 q2 q3 hsz
          go_wp2_with (at_builtin; (with_reducible refine wpList_append_str HQ2.out t HSZ.out HLN.out rfl rfl rfl rfl ?_); intro v4 w4 k1 k2 k3; obtain ⟨p4, cap4, rfl⟩ := Sl.form k1; have HFA := Lib.hid (HAPP.out w2 vb2 _ w4 HB2.out HQ1.out HQ3.out HQ2.out k1 k2); have HH4 := Lib.hid (heap_grownL HQ1.out k2 (OpA.apart HQ2.out)); have c44 := cell_of_row _ _ 4 _ _ _ HH4.out; have f44 := frozen_free HH4.out (Free.none _) (j := 4) (by simp [rowO]); clear k1 k2 k3)
          go_roundw
          case rel => exact ⟨K + 1, by0, acc ++ t0, by omega, rfl, rfl, HFA, HFIN⟩
          case measure => simp [intOf]; omega
      · have hKe : K = n := by omega
        have HFIN : Hid (PLog.stream D pl n life n bx 0 = acc) := Lib.hid (by rw [HS.out.1, show n - K = 0 by omega]; exact List.append_nil _)
        have y1 : ¬ (K : Int) < n := by omega
        clear HS hKe
        go_wp2
        go_meet
        exact ⟨rfl, Lib.hid (by rw [HFIN.out]; exact HA.out)⟩
  case rest =>
    obtain ⟨rfl, HA⟩ := hcut
    obtain ⟨ST, hST⟩ : ∃ ST, PLog.stream D pl n life n bx 0 = ST := ⟨_, rfl⟩
    have HF := Lib.hid (PLog.opened_facts HO.out)
    have HAH := HO.out.ahead
    rw [hBX.out, hST] at HF HAH
    rw [hST] at HA
    have hstl := PLog.stream_le D pl n life n bx 0
    rw [hST] at hstl
    obtain ⟨A, hA⟩ : ∃ A, first - bx = A := ⟨_, rfl⟩
    rw [hA] at HF HAH
    obtain ⟨F, hFF⟩ : ∃ F, PLog.found (ST.drop A) first = F := ⟨_, rfl⟩
    have hxx : first + (ST.drop A).length < 18446744073709551616 := by rw [List.length_drop]; omega
    have hFU := PLog.found_used _ _ hxx
    have hFE := PLog.found_end _ _ hxx
    have hFO := (PLog.found_ok _ _ hxx).1
    rw [hFF] at hFU hFE hFO
    have hFl := PLog.endOf_le F first
    have hLF : (PLog.opened D pl n life first).texts = F := by
      unfold PLog.opened
      rw [hBX.out, hST, hA, hFF]
    have hLN : (PLog.opened D pl n life first).next = PLog.endOf first F := by
      show PLog.endOf _ (PLog.opened D pl n life first).texts = _
      rw [hLF]
      rfl
    rw [hLN] at HF
    obtain ⟨E, hE⟩ : ∃ E, PLog.endOf first F = E := ⟨_, rfl⟩
    rw [hE] at HF hFU hFE hFl hLN
    obtain ⟨U, hU⟩ : ∃ U, A + (E - first) = U := ⟨_, rfl⟩
    rw [hU] at HF
    obtain ⟨Ls, hLs⟩ : ∃ Ls, ST.length = Ls := ⟨_, rfl⟩
    rw [hLs] at HAH hstl
    have hULs : U ≤ Ls := by have := HF.out.2.2; omega
    obtain ⟨vb, q1, q2, q3⟩ := HA.out
    rw [hLs] at q2
    have hcut := cutV_of (q2.base_le (Nat.zero_le _)) HAH
    obtain ⟨p, cp, rfl⟩ := Sl.form q2
    have hcp : Ls ≤ cp := by
      rcases q2.2 with ⟨e, h0⟩ | ⟨_, _, cap, _, _, e, _, _, _, hn, _⟩
      · omega
      · simp at e
        obtain ⟨_, rfl⟩ := e
        exact hn
    have HSCAN : Hid (∀ (x : ByteArray) (W : World), x.data.toList = ST.drop A → Calls Try.prog 35 #[.string x, .int .u64 first] W fun e w' => ∃ v err, e = .returned (.tuple #[v, .int .i64 (E - first : Nat), .int .i64 err]) ∧ Sl w' W.heap.size 9 1 v F.length (strV F) ∧ Below W.heap.size W w') := Lib.hid (fun x W hx => by
      have hxs : x.size = (ST.drop A).length := by rw [← hx]; simp
      refine (scan_any x first (by omega) (by rw [hxs, List.length_drop]; omega) W).mono ?_
      rintro e w' ⟨v, he, h1, h2⟩
      have e1 : PFrm.texts (PFrm.items (x.size + 1) x.data.toList first) = F := by
        rw [hx, hxs]; exact hFF
      rw [e1] at he h1
      rw [hFU] at he
      exact ⟨v, _, he, h1, h2⟩)
    have HQ2 := Lib.hid q2
    have HROW := Lib.hid q1
    have HLOW := Lib.hid q3
    have HLS := Lib.hid hLs
    have HFO := Lib.hid hFO
    have HLFT := Lib.hid hLF
    have HLNE := Lib.hid hLN
    have HSTE := Lib.hid hST
    have HEE := Lib.hid hE
    have hEF : E - first = U - A := by omega
    have hE50 : E ≤ 5000000000000000000 := by omega
    have hE10 : first ≤ E := by omega
    have hF50 : F.length ≤ 1000000 := by omega
    obtain ⟨V, hV⟩ : ∃ V, E - first = V := ⟨_, rfl⟩
    rw [hV] at HSCAN
    have wA : IntKind.u64.wrap ((first : Int) - bx) = A := by rw [IntWalk.u64_in _ (by omega)]; omega
    have wA2 : IntKind.i64.wrap (A : Int) = A := IntWalk.i64_in _ (by omega)
    have wU : IntKind.i64.wrap ((A : Int) + V) = U := by rw [IntWalk.i64_in _ (by omega)]; omega
    have y1 : ¬ (Ls : Int) < A := by omega
    have y2 : (0 : Int) ≤ U := by omega
    have y3 : (U : Int) ≤ cp := by omega
    have y3' : (U : Int) ≤ Ls := by omega
    have c4 : wc.cell? ⟨w.heap.size, 4, none⟩ = some (.slice p Ls cp) := cell_of_row _ _ 4 _ _ _ q1
    clear q1 q2 q3 hST hA hFF hxx hFU hFE hFO hFl hLF hLN hE hU hLs hV hEF HA
    go_upto_region 22 with fail
    go_cut [21, 22] from 23 to 114 (fun s21 s22 wx => ∃ v, s21 = v ∧ s22 = .int .i64 V ∧ Hid (Rd wx v (strV F)) ∧ Hid (Below wc.heap.size wc wx))
    case first =>
      rcases hcut with ⟨e0, e1, e2, e3⟩ | ⟨gb, ob, cb, e0, q0, q1, ⟨q2, q3⟩ | ⟨q2, q3⟩⟩
      · simp at e0
        obtain ⟨rfl, _, rfl⟩ := e0
        subst e1
        subst e2
        have HX := Lib.hid (HSCAN.out ⟨#[]⟩ wc (by rw [e3]; rfl))
        have hcv := Sl.conv (l := []) (Sl.nil wc 0 5 1)
        clear e3 hcp
        go_wp2_with fail
        refine HX.out.mono ?_; rintro e w2 ⟨v, err, rfl, k1, k2⟩
        have HR := Lib.hid (strV_rd k1)
        have HB := Lib.hid k2
        clear k1 k2
        go_wp2
        go_meet
        exact ⟨v, rfl, rfl, HR, HB⟩
      · simp at e0
        obtain ⟨rfl, rfl⟩ := e0
        obtain rfl : cp = A := q2
        obtain rfl : Ls = cp := by omega
        obtain ⟨x, hx⟩ : ∃ x : ByteArray, (⟨([] : List UInt8).toArray⟩ : ByteArray) = x := ⟨_, rfl⟩
        have HX := Lib.hid (HSCAN.out x wc (by rw [q3, ← hx]))
        have hcv : (convert 43 9 (.slice (some ⟨gb, ob, none⟩) 0 0)).run Try.prog wc = .ok (.string x) wc := by
          rw [← hx]
          exact run_convert_bytes_back wc _ _ _ ⟨gb, ob, none⟩ 0 [] Try.underlying43 Try.underlying5 Try.underlying9 (fun j hj => absurd hj (Nat.not_lt_zero _))
        have y4 : (0 : Int) ≤ Ls := by omega
        clear q3 hx hcp
        go_wp2_with fail
        refine HX.out.mono ?_; rintro e w2 ⟨v, err, rfl, k1, k2⟩
        have HR := Lib.hid (strV_rd k1)
        have HB := Lib.hid k2
        clear k1 k2
        go_wp2
        go_meet
        exact ⟨v, rfl, rfl, HR, HB⟩
      · simp at e0
        obtain ⟨rfl, rfl⟩ := e0
        obtain ⟨x, hx⟩ : ∃ x : ByteArray, (⟨(ST.drop A).toArray⟩ : ByteArray) = x := ⟨_, rfl⟩
        have HX := Lib.hid (HSCAN.out x wc (by rw [← hx]))
        have hcv : (convert 43 9 (.slice (some ⟨gb, ob + A, none⟩) (Ls - A) (cp - A))).run Try.prog wc = .ok (.string x) wc := by
          rw [← hx]
          exact conv_rds q3
        have y4 : (0 : Int) ≤ A := by omega
        have y5 : (A : Int) ≤ Ls := by omega
        have y6 : (A : Int) ≤ cp := by omega
        clear q3 hx
        go_wp2_with fail
        refine HX.out.mono ?_; rintro e w2 ⟨v, err, rfl, k1, k2⟩
        have HR := Lib.hid (strV_rd k1)
        have HB := Lib.hid k2
        clear k1 k2
        go_wp2
        go_meet
        exact ⟨v, rfl, rfl, HR, HB⟩
    case rest =>
      obtain ⟨v, rfl, rfl, HRD, HB⟩ := hcut
      replace HROW := Lib.hid ((HB.out.block _ (Array.getElem?_eq_some_iff.1 HROW.out).1).trans HROW.out)
      replace HLOW := Lib.hid (HLOW.out.step HB.out)
      replace HQ2 := Lib.hid (HQ2.out.keep fun k e => HB.out.block k (HQ2.out.lt k e).2)
      have c4' : wc.cell? ⟨w.heap.size, 4, none⟩ = some (.slice p Ls cp) := cell_of_row _ _ 4 _ _ _ HROW.out
      have f4 : wc.frozen? ⟨w.heap.size, 4, none⟩ = false := frozen_free HROW.out (Free.none _) (by simp [rowO])
      have HROW1 := Lib.hid (heap_set (j := 4) HROW.out (.slice p U cp))
      have c71 : (wc.setCell ⟨w.heap.size, 4, none⟩ (.slice p U cp)).cell? ⟨w.heap.size, 7, none⟩ = some (.int .u64 0) := by rw [cell_of_row _ _ 7 _ _ _ HROW1.out]; simp [rowO]
      have f71 : (wc.setCell ⟨w.heap.size, 4, none⟩ (.slice p U cp)).frozen? ⟨w.heap.size, 7, none⟩ = false := frozen_free HROW1.out (Free.none _) (by simp [rowO])
      obtain ⟨q, hq⟩ : ∃ q, decide ((U : Int) < Ls) = q := ⟨_, rfl⟩
      obtain ⟨pv, cv, hv, hvc, hvm, hvcell⟩ := HRD.out
      rw [strV_length] at hv
      subst hv
      have HQQ := Lib.hid hq
      clear c4 hvcell hvc hvm
      clear hq
      go_wp2
      obtain ⟨Wa, hWa⟩ : ∃ Wa, (wc.setCell ⟨w.heap.size, 4, none⟩ (.slice p U cp)).setCell ⟨w.heap.size, 7, none⟩ (.int .u64 first) = Wa := ⟨_, rfl⟩
      rw [hWa]
      have HRA : Hid (Wa.heap[w.heap.size]? = some (.cells (rowO b pl n life first (.slice p U cp) (.slice none 0 0) first 0) 64 (0, 0))) := Lib.hid (by
        rw [← hWa, heap_set HROW1.out]
        simp [rowO])
      have HSZA : Hid (w.heap.size + 1 ≤ Wa.heap.size) := Lib.hid (Array.getElem?_eq_some_iff.1 HRA.out).1
      have HBA : Hid (Below w.heap.size w Wa) := Lib.hid (by rw [← hWa]; exact (HLOW.out.setCell (p := ⟨w.heap.size, 4, none⟩) (Nat.le_refl _) _).setCell (p := ⟨w.heap.size, 7, none⟩) (Nat.le_refl _) _)
      have hother : ∀ k, k ≠ w.heap.size → Wa.heap[k]? = wc.heap[k]? := fun k hk => by
        rw [← hWa]
        exact (Below.heap_setCell _ ⟨w.heap.size, 7, none⟩ _ k hk).trans (Below.heap_setCell _ ⟨w.heap.size, 4, none⟩ _ k hk)
      have HSA : Hid (Sl Wa (w.heap.size + 1) 5 1 (.slice p U cp) U (bytesV (ST.take U))) := Lib.hid (by
        have h1 : Sl wc (w.heap.size + 1) 5 1 (.slice p U cp) U (bytesV (ST.take U)) := by
          have := Sl.frontp HQ2.out hULs
          rwa [show (bytesV ST).take U = bytesV (ST.take U) by unfold bytesV; rw [List.map_take]] at this
        exact h1.keep fun k e => hother k (by have := (h1.lt k e).1; omega))
      have HTX : Hid (∀ (W : World), Turns [w.heap.size] Wa W → ∀ i (hi : i < F.length), ∃ gx ox, pv = some ⟨gx, ox, none⟩ ∧ W.cell? ⟨gx, ox + i, none⟩ = some (.string ⟨F[i].toArray⟩)) := Lib.hid (fun W hW i hi => by
        obtain ⟨p', c', e1, _, _, e4⟩ := HRD.out
        rw [strV_length] at e1
        simp at e1
        obtain ⟨rfl, rfl⟩ := e1
        obtain ⟨gx, ox, e5, e6, e7⟩ := e4 (fun e => by
          have := strV_length F
          rw [e] at this
          simp at this
          omega)
        have hc := e7 i (by rw [strV_length]; exact hi)
        have hne : gx ≠ w.heap.size := fun e => by
          subst e
          rw [cell_of_row _ _ _ _ _ _ HROW.out] at hc
          exact rowO_no _ (hc.trans (by simp [strV]; rfl))
        refine ⟨gx, ox, e5, ?_⟩
        have hb : W.heap[gx]? = wc.heap[gx]? := (hW.block gx (by rw [← hWa]; simpa using e6) (by simpa using hne)).trans (hother gx hne)
        rw [World.cell?_of_block (a := ⟨gx, ox + i, none⟩) hb, hc]
        simp [strV])
      have HWA := Lib.hid hWa
      clear hWa hother c4' f4 c71 f71
      go_loopw [141] (fun iv wr => ∃ (i : Nat) (vs : Value), i ≤ F.length ∧ iv = .int .i64 i ∧ Hid (OpR w.heap.size Wa b pl n life first (.slice p U cp) vs i (PLog.startsOf first (F.take i)) (PLog.endOf first (F.take i)) wr)) (fun iv _ => F.length - (intOf iv).toNat)
      case atStart => exact ⟨0, _, Nat.zero_le _, rfl, Lib.hid ⟨HRA.out, Sl.nil _ _ _ _, Turns.refl _ _⟩⟩
      case round =>
        obtain ⟨i, vs, hin, rfl, HR⟩ := hrel
        by_cases hlt : i < F.length
        · obtain ⟨gx, ox, hpv, hcx⟩ := HTX.out wr HR.out.2.2 i hlt
          subst hpv
          have htl := HFO.out F[i] (List.getElem_mem hlt)
          obtain ⟨t, ht⟩ : ∃ t : ByteArray, (⟨F[i].toArray⟩ : ByteArray) = t := ⟨_, rfl⟩
          have hts : t.size = F[i].length := by rw [← ht, size_mk]
          rw [ht] at hcx
          have hes := PLog.endOf_take_succ F first i hlt
          have hee := PLog.endOf_take_le F first (i + 1) F.length (by omega)
          rw [List.take_length, HEE.out] at hee
          obtain ⟨e0, he0⟩ : ∃ e0, PLog.endOf first (F.take i) = e0 := ⟨_, rfl⟩
          obtain ⟨Q, hQ⟩ : ∃ Q, Q = 14 + t.size := ⟨_, rfl⟩
          obtain ⟨e1, he1⟩ : ∃ e1, e1 = e0 + Q := ⟨_, rfl⟩
          obtain ⟨Sx, hSx⟩ : ∃ Sx, PLog.startsOf first (F.take i) = Sx := ⟨_, rfl⟩
          rw [he0, hSx] at HR
          rw [he0] at hes
          have HES : Hid (PLog.endOf first (F.take (i + 1)) = e1) := Lib.hid (by rw [hes, he1, hQ, hts])
          have HST : Hid (PLog.startsOf first (F.take (i + 1)) = Sx ++ [e0]) := Lib.hid (by
            rw [List.take_succ_eq_append_getElem hlt, PLog.startsOf_append, he0, hSx]
            rfl)
          have hE5 : E ≤ 5000000000000000000 := hE50
          have he15 : e1 ≤ 5000000000000000000 := by omega
          obtain ⟨ps, cs, rfl⟩ := Sl.form HR.out.2.1
          have i0 : (0 : Int) ≤ i := by omega
          have i1 : (i : Int) < F.length := by omega
          have hil : i ≤ 1000000 := by omega
          have HSIZE : Hid (∀ W, Calls Try.prog 36 #[.int .i64 (t.size : Int)] W fun e w' => e = .returned (.int .i64 (Q : Nat)) ∧ W = w') := Lib.hid (fun W => by
            have := fsize_any (t.size : Int) (by omega) (by omega) W
            rwa [show PFrm.size (t.size : Int) = (Q : Nat) by unfold PFrm.size; rw [if_neg (by omega)]; omega] at this)
          have wq1 : IntKind.u64.wrap (Q : Int) = Q := IntWalk.u64_in _ (by omega)
          have wq2 : IntKind.u64.wrap ((e0 : Int) + Q) = e1 := by rw [IntWalk.u64_in _ (by omega)]; omega
          have c5 : wr.cell? ⟨w.heap.size, 5, none⟩ = some (.slice ps i cs) := cell_of_row _ _ 5 _ _ _ HR.out.1
          have c7 : wr.cell? ⟨w.heap.size, 7, none⟩ = some (.int .u64 e0) := cell_of_row _ _ 7 _ _ _ HR.out.1
          have c5a : ∀ X, (wr.alloc X).cell? ⟨w.heap.size, 5, none⟩ = some (.slice ps i cs) := fun X => cell_of_row _ _ 5 _ _ _ (heap_alloc_oldL HR.out.1 X)
          have c5b : ∀ X, (wr.drew.alloc X).cell? ⟨w.heap.size, 5, none⟩ = some (.slice ps i cs) := fun X => cell_of_row _ _ 5 _ _ _ (heap_alloc_oldL (w := wr.drew) HR.out.1 X)
          have hgs : w.heap.size < Wa.heap.size := HSZA.out
          have HGS := Lib.hid hgs
          have hwz : Wa.heap.size ≤ wr.heap.size := HR.out.2.2.size
          clear ht hts htl hes hee he0 hQ he1 hSx hE5
          go_wp2_with fail
          go_region_law (first
            | ((refine step_append_sl elem_u64 (by rfl) (by rfl) (HR.out.2.1.alloc _) (by rfl) [.int .u64 e0] (by rfl) (by rfl) (news_alloc _ [_] _ _) (by intro u hu; simp at hu; subst hu; rfl) (by unfold maxLen; omega) (by omega) (by rw [World.size_alloc]; omega) ?_); intro v5 w5 k1 k2 k3; obtain ⟨p5, cs5, rfl⟩ := Sl.form k1; have HA5 := Lib.hid (OpR.app (HR.out.low ((Below.refl _ wr).alloc (Nat.le_refl _) _)) HGS.out k1 k2); have c55 : w5.cell? ⟨w.heap.size, 5, none⟩ = some (.slice ps i cs) := (cell_of_row _ _ 5 _ _ _ HA5.out.1); have f55 : w5.frozen? ⟨w.heap.size, 5, none⟩ = false := (frozen_free HA5.out.1 (Free.none _) (by simp [rowO])); clear k1 k2 k3)
            | ((refine step_append_sl elem_u64 (by rfl) (by rfl) ((Sl.drew HR.out.2.1).alloc _) (by rfl) [.int .u64 e0] (by rfl) (by rfl) (news_alloc _ [_] _ _) (by intro u hu; simp at hu; subst hu; rfl) (by unfold maxLen; omega) (by omega) (by rw [World.size_alloc]; exact Nat.le_succ_of_le hwz) ?_); intro v5 w5 k1 k2 k3; obtain ⟨p5, cs5, rfl⟩ := Sl.form k1; have HA5 := Lib.hid (OpR.app (HR.out.low ((Below.refl _ wr).drew.alloc (Nat.le_refl _) _)) HGS.out k1 k2); have c55 : w5.cell? ⟨w.heap.size, 5, none⟩ = some (.slice ps i cs) := (cell_of_row _ _ 5 _ _ _ HA5.out.1); have f55 : w5.frozen? ⟨w.heap.size, 5, none⟩ = false := (frozen_free HA5.out.1 (Free.none _) (by simp [rowO])); clear k1 k2 k3)
            | ((refine step_append_sl elem_u64 (by rfl) (by rfl) (Sl.drew (HR.out.2.1.alloc _)) (by rfl) [.int .u64 e0] (by rfl) (by rfl) (news_alloc _ [_] _ _) (by intro u hu; simp at hu; subst hu; rfl) (by unfold maxLen; omega) (by omega) (by show Wa.heap.size ≤ (wr.alloc _).heap.size; rw [World.size_alloc]; omega) ?_); intro v5 w5 k1 k2 k3; obtain ⟨p5, cs5, rfl⟩ := Sl.form k1; have HA5 := Lib.hid (OpR.app (HR.out.low ((Below.refl _ wr).alloc (Nat.le_refl _) _).drew) HGS.out k1 k2); have c55 : w5.cell? ⟨w.heap.size, 5, none⟩ = some (.slice ps i cs) := (cell_of_row _ _ 5 _ _ _ HA5.out.1); have f55 : w5.frozen? ⟨w.heap.size, 5, none⟩ = false := (frozen_free HA5.out.1 (Free.none _) (by simp [rowO])); clear k1 k2 k3)
            | ((refine step_append_sl elem_u64 (by rfl) (by rfl) (Sl.drew ((Sl.drew HR.out.2.1).alloc _)) (by rfl) [.int .u64 e0] (by rfl) (by rfl) (news_alloc _ [_] _ _) (by intro u hu; simp at hu; subst hu; rfl) (by unfold maxLen; omega) (by omega) (by show Wa.heap.size ≤ (wr.drew.alloc _).heap.size; rw [World.size_alloc]; exact Nat.le_succ_of_le hwz) ?_); intro v5 w5 k1 k2 k3; obtain ⟨p5, cs5, rfl⟩ := Sl.form k1; have HA5 := Lib.hid (OpR.app (HR.out.low ((Below.refl _ wr).drew.alloc (Nat.le_refl _) _).drew) HGS.out k1 k2); have c55 : w5.cell? ⟨w.heap.size, 5, none⟩ = some (.slice ps i cs) := (cell_of_row _ _ 5 _ _ _ HA5.out.1); have f55 : w5.frozen? ⟨w.heap.size, 5, none⟩ = false := (frozen_free HA5.out.1 (Free.none _) (by simp [rowO])); clear k1 k2 k3))
          all_goals (
            obtain ⟨W6, hW6⟩ : ∃ W6, w5.setCell ⟨w.heap.size, 5, none⟩ (.slice p5 (i + 1) cs5) = W6 := ⟨_, rfl⟩
            have hA6 := HA5.out.2
            rw [hW6] at hA6 ⊢
            have HA6 := Lib.hid hA6
            have c76 : W6.cell? ⟨w.heap.size, 7, none⟩ = some (.int .u64 e0) := cell_of_row _ _ 7 _ _ _ hA6.1
            have f76 : W6.frozen? ⟨w.heap.size, 7, none⟩ = false := frozen_free hA6.1 (Free.none _) (by simp [rowO])
            clear hW6 hA6 c55 f55 c5 c7 c5a c5b HA5
            go_wp2_with fail
            go_region_with (first | ((with_reducible refine (HSIZE.out _).mono ?_); rintro e w8 ⟨rfl, rfl⟩))
            all_goals (
              go_wp2
              go_roundw
              case rel => exact ⟨i + 1, .slice p5 (i + 1) cs5, by omega, rfl, Lib.hid (by rw [HES.out, HST.out]; first | exact OpR.put HA6.out HGS.out | exact (OpR.put HA6.out HGS.out).low (Below.refl _ _).drew | exact (OpR.put HA6.out HGS.out).low (Below.refl _ _).drew.drew)⟩
              case measure => simp [intOf]; omega))
        · have hie : i = F.length := by omega
          have i1 : ¬ (i : Int) < F.length := by omega
          rw [hie] at HR
          rw [List.take_length, HEE.out] at HR
          have c7 : wr.cell? ⟨w.heap.size, 7, none⟩ = some (.int .u64 E) := cell_of_row _ _ 7 _ _ _ HR.out.1
          have c8 : wr.cell? ⟨w.heap.size, 8, none⟩ = some (.int .u64 0) := cell_of_row _ _ 8 _ _ _ HR.out.1
          have f8 : wr.frozen? ⟨w.heap.size, 8, none⟩ = false := frozen_free HR.out.1 (Free.none _) (by simp [rowO])
          clear hie
          have hbl : (ST.take U).length = U := by rw [List.length_take, HLS.out]; omega
          have hsl : (PLog.startsOf first F).length = F.length := PLog.startsOf_length _ _
          obtain ⟨own1, hld, hstp⟩ := open_ld (L := PLog.opened D pl n life first) HR.out HBA.out HSA.out HSZA.out HD.out HF.out.1 rfl rfl rfl rfl HLNE.out (by show PLog.endOf _ _ = E; rw [← HLNE.out]; rfl) rfl HF.out.2.1 hbl (by show PLog.startsOf _ _ = _; rw [HLFT.out]; rfl) hsl
          have HLD := Lib.hid hld
          have HSTP := Lib.hid hstp
          have HBL : Hid ((PLog.opened D pl n life first).bytes.length = U) := Lib.hid (by rw [HF.out.2.1]; exact hbl)
          have HSTL : Hid ((PLog.stream D pl n life n (PLog.begin first) 0).length = Ls) := Lib.hid (by rw [hBX.out, HSTE.out, HLS.out])
          clear hbl hsl hld hstp
          by_cases hst : U < Ls
          · have hk := HLD.out.ok
            obtain ⟨L, hL⟩ : ∃ L, PLog.opened D pl n life first = L := ⟨_, rfl⟩
            have hLn : L.next = E := by rw [← hL]; exact HLNE.out
            have hLf : L.first = first := by rw [← hL]; rfl
            have HFX : Hid (fixedD D pl n life first = (PDsk.sync (writeL L D (PLog.begin E)).1).1) := Lib.hid (by unfold fixedD; rw [if_pos (by rw [HBL.out, HSTL.out]; exact hst), hL, hLn])
            rw [hL] at HLD hk HBL
            have HLL := Lib.hid hL
            have hbE := PLog.begin_le E
            have hbm := PLog.begin_mono (show first ≤ E by omega)
            have hbx2 := hBX.out
            have hbyt := hk.bytes_length
            rw [HBL.out, hLn, hLf, hbx2] at hbyt
            rw [hbx2] at hbm
            obtain ⟨bE, hbE'⟩ : ∃ bE, PLog.begin E = bE := ⟨_, rfl⟩
            rw [hbE'] at hbE hbm HFX
            have HBE : Hid (∀ W, Calls Try.prog 32 #[.int .u64 E] W fun e w' => e = .returned (.int .u64 (bE : Nat)) ∧ W = w') := Lib.hid (fun W => by rw [← hbE']; exact begin_any E (by omega) W)
            obtain ⟨W8, hW8⟩ : ∃ W8, wr.setCell ⟨w.heap.size, 8, none⟩ (.int .u64 E) = W8 := ⟨_, rfl⟩
            have hW8r : W8.heap[w.heap.size]? = some (.cells (rowO b pl n life first (.slice p U cp) vs E E) 64 (0, 0)) := by
              rw [← hW8, heap_set HR.out.1]
              simp [rowO]
            have c48 : W8.cell? ⟨w.heap.size, 4, none⟩ = some (.slice p U cp) := cell_of_row _ _ 4 _ _ _ hW8r
            have c78 : (wr.setCell ⟨w.heap.size, 8, none⟩ (.int .u64 E)).cell? ⟨w.heap.size, 7, none⟩ = some (.int .u64 E) := by rw [hW8]; exact cell_of_row _ _ 7 _ _ _ hW8r
            obtain ⟨gp, op, hp⟩ : ∃ gp op, p = some ⟨gp, op, none⟩ := by
              rcases HSA.out.2 with ⟨e, h0⟩ | ⟨gp, op, _, _, _, e, _⟩
              · simp at e
                obtain ⟨rfl, _, rfl⟩ := e
                omega
              · simp at e
                exact ⟨gp, op, e.1⟩
            rw [hW8] at HLD
            rw [hp] at c48
            have hnl : (writeL L D bE).2 = 0 ∧ (writeL L D bE).1.fuse ≠ 0 := writeL_ok hk HD.out.1 hf (by rw [← hL]; exact HO.out.place) bE
            have HWR : Hid (Calls Try.prog 37 #[.pointer (some ⟨w.heap.size, 0, none⟩), .int .u64 bE] W8 (LDPost (.int .i64 0) w.heap.size L b (writeL L D bE).1 own1 W8)) := Lib.hid (by
              obtain ⟨o1, hL8⟩ := HLD.out.log
              refine HLD.out.of_disk (fun o2 hD2 => ?_)
              have := lwrites_any W8 hL8 hD2 bE (by rw [hLf, hbx2]; omega) (by rw [HBL.out, hLf, hbx2]; omega) (by omega) (gb := gp) (ob := op) (cb := cp) (by rw [HBL.out]; exact c48) (by rw [hLf, hbx2]; omega) (by omega)
              rw [hnl.1] at this
              exact this)
            have HSY : Hid (∀ W own2, LD W w.heap.size L b (writeL L D bE).1 own2 → Calls Try.prog 38 #[.pointer (some ⟨b, 0, none⟩)] W (LDPost (.int .i64 0) w.heap.size L b (PDsk.sync (writeL L D bE).1).1 own2 W)) := Lib.hid (fun W own2 hW => hW.of_disk (fun o2 hD2 => by
              have := sync_any W hD2
              rwa [show (PDsk.sync (writeL L D bE).1).2 = 0 by unfold PDsk.sync; rw [if_neg hnl.2]] at this))
            rw [hW8] at HSTP
            have HW8 := Lib.hid hW8
            clear hp hL hLn hLf hbE' hbx2 hnl hW8r hW8
            go_wp2_with fail
            refine (HBE.out _).mono ?_; rintro e w9 ⟨rfl, rfl⟩
            go_wp2_with fail
            rw [HW8.out]
            refine HWR.out.mono ?_
            rintro e w9 ⟨own2, rfl, k1, k2⟩
            have HL9 := Lib.hid k1
            have HS9 := Lib.hid k2
            clear k1 k2
            go_wp2_with fail
            refine (HSY.out _ _ HL9.out).mono ?_
            rintro e w10 ⟨own3, rfl, k1, k2⟩
            have HL10 := Lib.hid k1
            have HS10 := Lib.hid k2
            clear k1 k2
            go_wp2
            try rw [Exit.noGoto_ret]
            go_ret2
            exact ⟨w.heap.size, own3, rfl, by rw [HFX.out, HLL.out]; exact HL10.out, (HSTP.out.trans HS9.out).trans HS10.out⟩
          · have HFX : Hid (fixedD D pl n life first = D) := Lib.hid (by unfold fixedD; rw [if_neg (by rw [HBL.out, HSTL.out]; exact hst)])
            go_wp2
            try rw [Exit.noGoto_ret]
            go_ret2
            exact ⟨w.heap.size, own1, rfl, by rw [HFX.out]; exact HLD.out, HSTP.out⟩
end Go.Proofs.Ytjnggldalggfnaa
