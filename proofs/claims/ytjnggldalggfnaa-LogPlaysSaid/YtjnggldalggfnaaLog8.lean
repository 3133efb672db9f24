/-
  Log: a stretch's sector is written.
-/
import Derived.Test.YtjnggldalggfnaaLog7
import Derived.Test.YtjnggldalggfnaaDisk4
import Derived.Test.YtjnggldalggfnaaRead2
import Derived.Lib.BufferWrite
namespace Go
theorem run_copy_strL {P : Program} (w : World) (dT sT ty elem : TypeId) (b o n cap : Nat) (t : ByteArray)
    (hu : P.underlying dT = some (.slice elem)) (hz : (P.info? elem).map (·.size) = some 1) (hth : w.there b o n) :
    (Builtin.copy_ #[dT, sT] ty #[.slice (some ⟨b, o, none⟩) n cap, .string t]).run P w = .ok (goInt (Nat.min t.size n)) (w.setCells b o (bytesV (t.data.toList.take n))) := by
  have hl : (bytesV (t.data.toList.take n)).length ≤ n := by rw [bytesV_length, List.length_take]; omega
  have hst := run_storeCells_cells (P := P) b o (bytesV (t.data.toList.take n)) 0 w (fun j hj => by simpa using (hth j (by omega)).1) (fun j hj => by simpa using (hth j (by omega)).2) (bytesV_one _)
  have hm : List.take (Nat.min t.size n) (t.data.toList.map fun x => Value.int .u8 (x.toNat : Int)) = bytesV (t.data.toList.take n) := by
    unfold bytesV
    rw [← List.map_take]
    congr 1
    have e : t.data.toList.length = t.size := by simp
    by_cases h : t.size ≤ n
    · rw [show Nat.min t.size n = t.size from Nat.min_eq_left h, List.take_of_length_le (by omega), List.take_of_length_le (by omega)]
    · rw [show Nat.min t.size n = n from Nat.min_eq_right (by omega)]
  cases hq : P.info? elem with
  | none => simp [hq] at hz
  | some i =>
    simp [Builtin.copy_, run_underlying hu, Builtin.lenOf, Builtin.firstCells, sizeOf, typeInfo, hq]
    rw [hm, hst]
    simp [Result.andThen]
theorem wpList_copy_strL {P : Program} {dT sT elem : TypeId} (hu : P.underlying dT = some (.slice elem)) (hz : (P.info? elem).map (·.size) = some 1) {ops : Array Oper} {rest : List Oper} {o : Oper} {a : Act} {w : World} {Q : Exit → Act → World → Prop} {d x : Operand} {g off n c : Nat} {t : ByteArray}
    (hgd : o.guard = none) (ho : o.op = .call { callee := .builtin .copy, args := #[d, x], argTypes := #[dT, sT] }) (hd : a.eval d = .slice (some ⟨g, off, none⟩) n c) (hx : a.eval x = .string t) (hth : w.there g off n)
    (h : wpList P ops Q rest (a.put o.dst (goInt (Nat.min t.size n))) (w.setCells g off (bytesV (t.data.toList.take n)))) : wpList P ops Q (o :: rest) a w := by
  refine wpList_plain hgd fun K hK => ?_
  have hr := run_copy_strL (P := P) w dT sT o.type elem g off n c t hu hz hth
  unfold Oper.wp execOp
  simp only [ho, resolve, invoke, builtin, Sem.run_bind, Sem.run_pure, Result.andThen_ok, List.map_toArray, List.map_cons, List.map_nil, hd, hx, hr]
  exact hK _ _ h
/-- copy of a slice whose cells are known, where there is room for it -/
theorem run_copy_cellsL {P : Program} (w : World) (dT sT ty elem : TypeId) (b o n cap : Nat) (p : Option Addr) (m c : Nat) (xs : List Value) (hxs : xs.length = m) (hn : m ≤ n)
    (hp : xs ≠ [] → ∃ ad, p = some ad ∧ ∀ j u, xs[j]? = some u → w.cell? (ad.add j) = some u) (h1 : ∀ u ∈ xs, u.oneCell' = true)
    (hu : P.underlying dT = some (.slice elem)) (hz : (P.info? elem).map (·.size) = some 1) (hth : w.there b o n) :
    (Builtin.copy_ #[dT, sT] ty #[.slice (some ⟨b, o, none⟩) n cap, .slice p m c]).run P w = .ok (goInt m) (w.setCells b o xs) := by
  have hst := run_storeCells_cells (P := P) b o xs 0 w (fun j hj => by simpa using (hth j (by omega)).1) (fun j hj => by simpa using (hth j (by omega)).2) h1
  have hm : Nat.min m n = m := Nat.min_eq_left hn
  have hf : (Builtin.firstCells 1 m (.slice p m c)).run P w = .ok xs.toArray w := by
    cases p with
    | none =>
      have : xs = [] := by
        cases xs with
        | nil => rfl
        | cons x l => obtain ⟨ad, h, _⟩ := hp (by simp); cases h
      subst this
      simp [Builtin.firstCells]
    | some ad =>
      refine run_firstCells_some (P := P) w 1 m ad m c xs (by omega) ?_
      intro j v hv
      obtain ⟨ad', h, hc⟩ := hp (fun e => by rw [e] at hv; simp at hv)
      simp at h
      subst h
      exact hc j v hv
  cases hq : P.info? elem with
  | none => simp [hq] at hz
  | some i =>
    simp [hq] at hz
    simp [Builtin.copy_, run_underlying hu, Builtin.lenOf, sizeOf, typeInfo, hq, hz, hm]
    rw [hf]
    simp [Result.andThen]
    rw [hst]
    simp
theorem wpList_copy_cellsL {P : Program} {dT sT elem : TypeId} (hu : P.underlying dT = some (.slice elem)) (hz : (P.info? elem).map (·.size) = some 1) {ops : Array Oper} {rest : List Oper} {o : Oper} {a : Act} {w : World} {Q : Exit → Act → World → Prop} {d x : Operand} {g off n c : Nat} {p : Option Addr} {m cm : Nat} (xs : List Value)
    (hgd : o.guard = none) (ho : o.op = .call { callee := .builtin .copy, args := #[d, x], argTypes := #[dT, sT] }) (hd : a.eval d = .slice (some ⟨g, off, none⟩) n c) (hx : a.eval x = .slice p m cm) (hxs : xs.length = m) (hn : m ≤ n)
    (hp : xs ≠ [] → ∃ ad, p = some ad ∧ ∀ j u, xs[j]? = some u → w.cell? (ad.add j) = some u) (h1 : ∀ u ∈ xs, u.oneCell' = true) (hth : w.there g off n)
    (h : wpList P ops Q rest (a.put o.dst (goInt m)) (w.setCells g off xs)) : wpList P ops Q (o :: rest) a w := by
  refine wpList_plain hgd fun K hK => ?_
  have hr := run_copy_cellsL (P := P) w dT sT o.type elem g off n c p m cm xs hxs hn hp h1 hu hz hth
  unfold Oper.wp execOp
  simp only [ho, resolve, invoke, builtin, Sem.run_bind, Sem.run_pure, Result.andThen_ok, List.map_toArray, List.map_cons, List.map_nil, hd, hx, hr]
  exact hK _ _ h
end Go
namespace Go.Proofs.Ytjnggldalggfnaa
open Go.RowKit
theorem size_u8L : (Try.prog.info? 5).map (·.size) = some 1 := by kernel_rfl
theorem z128_list : Try.zeroCells81.toList = bytesV (List.replicate 128 0) := by kernel_rfl
/-- the sector's variable, laid and filled -/
theorem var_there {w : World} {t : TypeId} : (w.alloc (.cells Try.zeroCells81 t)).there w.heap.size 0 128 := by
  intro j hj
  have hz : Try.zeroCells81.size = 128 := by rw [← Array.length_toList, z128_list, bytesV_length, List.length_replicate]
  have hg := heap_alloc_new w (.cells Try.zeroCells81 t)
  have hc : (w.alloc (.cells Try.zeroCells81 t)).cell? ⟨w.heap.size, 0 + j, none⟩ = Try.zeroCells81[0 + j]? := cell_of_row _ _ _ _ t (0, 0) hg
  refine ⟨?_, ?_⟩
  · rw [hc, Array.getElem?_eq_getElem (by omega)]
    rfl
  · exact frozen_free hg (Free.none _) (by omega)
theorem Sl.le_cap {w : World} {base : Nat} {e : TypeId} {size n c : Nat} {ad : Addr} {xs : List Value} (h : Sl w base e size (.slice (some ad) n c) n xs) : n ≤ c ∧ c ≤ maxLen := by
  rcases h.2 with ⟨hh, _⟩ | ⟨g', off', cap, cur, fz, hh, hb, hgg, hf, hnc, hcm, hcs, htake⟩
  · cases hh
  · simp at hh
    obtain ⟨_, rfl⟩ := hh
    exact ⟨hnc, hcm⟩
theorem setCells_heap {g : Nat} {t : TypeId} {fz : Nat × Nat} : ∀ (vs : List Value) (o : Nat) (cur : Array Value) (w : World), w.heap[g]? = some (.cells cur t fz) → o + vs.length ≤ cur.size →
    (w.setCells g o vs).heap[g]? = some (.cells (cur.toList.take o ++ vs ++ cur.toList.drop (o + vs.length)).toArray t fz)
  | [], o, cur, w, h, _ => by simp [World.setCells, h]
  | v :: vs, o, cur, w, h, hl => by
    rw [List.length_cons] at hl
    have ih := setCells_heap vs (o + 1) (cur.setIfInBounds o v) (w.setCell ⟨g, o, none⟩ v) (heap_set h v) (by simp; omega)
    have := list_seg_step cur.toList o v vs (by rw [Array.length_toList]; omega)
    rw [show w.setCells g o (v :: vs) = (w.setCell ⟨g, o, none⟩ v).setCells g (o + 1) vs from rfl, ih]
    simp only [Array.toList_setIfInBounds, List.length_cons, this]
/-- a row of cells, as its slice is turned into a string -/
theorem conv_row {w : World} {g n : Nat} {l : List UInt8} {t : TypeId} {fz : Nat × Nat} (h : w.heap[g]? = some (.cells (bytesV l).toArray t fz)) (hn : l.length = n) : (convert 43 9 (.slice (some ⟨g, 0, none⟩) n n)).run Try.prog w = .ok (.string ⟨l.toArray⟩) w := by
  subst hn
  refine run_convert_bytes_back w _ _ _ ⟨g, 0, none⟩ _ l Try.underlying43 Try.underlying5 Try.underlying9 ?_
  intro j hj
  rw [Addr.add_mid, Nat.zero_add, cell_of_row _ _ _ _ _ _ h]
  simpa using bytesV_at hj
theorem image_row (hd p : List UInt8) (h1 : hd.length = 18) (h2 : p.length ≤ 110) : ((bytesV (List.replicate 128 0)).take 0 ++ bytesV hd ++ (bytesV (List.replicate 128 0)).drop (0 + (bytesV hd).length)).take 18 ++ bytesV p ++ ((bytesV (List.replicate 128 0)).take 0 ++ bytesV hd ++ (bytesV (List.replicate 128 0)).drop (0 + (bytesV hd).length)).drop (18 + (bytesV p).length) =
    bytesV (hd ++ p ++ List.replicate (110 - p.length) 0) := by
  rw [List.take_zero, List.nil_append, Nat.zero_add, bytesV_length, bytesV_length, h1]
  rw [List.take_left' (by rw [bytesV_length, h1]), ← List.drop_drop, List.drop_left' (by rw [bytesV_length, h1])]
  rw [bytesV_append, bytesV_append]
  congr 1
  unfold bytesV
  rw [← List.map_drop, ← List.map_drop, List.drop_drop, List.drop_replicate]
  congr 2
  omega
theorem row_there {w : World} {g : Nat} {cur : Array Value} {t : TypeId} (h : w.heap[g]? = some (.cells cur t (0, 0))) {o n : Nat} (hn : o + n ≤ cur.size) : w.there g o n := by
  intro j hj
  refine ⟨?_, frozen_free h (Free.none _) (by omega)⟩
  rw [cell_of_row _ _ _ _ _ _ h, Array.getElem?_eq_getElem (by omega)]
  rfl
theorem z128_row : (Try.zeroCells81.toList) = bytesV (List.replicate 128 0) := z128_list
theorem below_setCellsL {B : Nat} {w0 w : World} {g : Nat} (h : Below B w0 w) (hg : B ≤ g) : ∀ (vs : List Value) (o : Nat), Below B w0 (w.setCells g o vs) := by
  intro vs
  induction vs generalizing w with
  | nil => intro o; exact h
  | cons v vs ih => intro o; exact ih (h.setCell (p := ⟨g, o, none⟩) hg v) (o + 1)
def writeL (L : PLog.Lg) (D : PDsk.Dsk) (k : Nat) : PDsk.Dsk × Int := PDsk.write D (PLog.sec L.pl L.n k : Nat) (PLog.image k L.life (PLog.part L k))
set_option maxRecDepth 20000 in
set_option maxHeartbeats 4000000 in
theorem lwrites_any {g b : Nat} {L : PLog.Lg} {D : PDsk.Dsk} {own down : List Nat} (w : World) (h : IsLog w g L b own) (hd : IsDisk w b D down) (k : Nat) (h1 : PLog.begin L.first ≤ k) (h2 : k - PLog.begin L.first ≤ L.bytes.length) (h3 : k ≤ 9000000000000000000)
    {gb ob cb : Nat} (c4 : w.cell? ⟨g, 4, none⟩ = some (.slice (some ⟨gb, ob, none⟩) L.bytes.length cb)) (hcb : k - PLog.begin L.first < cb) (hll : D.loose.length ≤ 1000000) :
    Calls Try.prog 37 #[.pointer (some ⟨g, 0, none⟩), .int .u64 k] w (StepPost (.int .i64 (writeL L D k).2) b (writeL L D k).1 down w) := by
  have H := Lib.hid h
  have HD := Lib.hid hd
  obtain ⟨c0, _, _, c3, c6, _, _, _⟩ := h.cells
  have hglt := h.lt g h.mem
  have hfn := L.first_next
  have hnx := h.1.next5
  have hlf := h.1.life5
  have hln := h.1.bytes_length
  have hrg := h.1.ring
  have hn5 := h.1.n5
  obtain ⟨Bg, hBg⟩ : ∃ Bg, PLog.begin L.first = Bg := ⟨_, rfl⟩
  have hbf := PLog.begin_le L.first
  rw [hBg] at h1 h2 hcb hln hrg hbf
  obtain ⟨A, hA⟩ : ∃ A, k - Bg = A := ⟨_, rfl⟩
  rw [hA] at h2 hcb
  -- the part
  obtain ⟨_, vb, vs, hb, hs, _⟩ := h
  have e4 : vb = .slice (some ⟨gb, ob, none⟩) L.bytes.length cb := by
    have : w.cell? ⟨g, 4, none⟩ = some vb := by simp [World.cell?, hb, logV]
    rw [this] at c4; simpa using c4
  subst e4
  have hNc := (Sl.le_cap hs).1
  obtain ⟨N, hN⟩ : ∃ N, L.bytes.length = N := ⟨_, rfl⟩
  rw [hN] at hNc
  obtain ⟨Z, hZ⟩ : ∃ Z : Nat, Z = min (A + 110) N := ⟨_, rfl⟩
  have hsub := Sl.sub hs (lo := A) (hi := Z) (by omega) (by omega)
  have hpt : ((bytesV L.bytes).take Z).drop A = bytesV (PLog.part L k) := by
    unfold bytesV PLog.part
    rw [← List.map_take, ← List.map_drop, hBg, hA, List.drop_take]
    congr 1
    rw [hZ]
    by_cases hc : A + 110 ≤ N
    · rw [Nat.min_eq_left hc, show A + 110 - A = 110 by omega]
    · rw [Nat.min_eq_right (by omega), List.take_of_length_le (by rw [List.length_drop]; omega), List.take_of_length_le (by rw [List.length_drop]; omega)]
  rw [hpt] at hsub
  obtain ⟨P, hP⟩ : ∃ P, PLog.part L k = P := ⟨_, rfl⟩
  rw [hP] at hsub
  have hPl : P.length = Z - A := by have := hsub.1; rw [bytesV_length, Nat.mul_one] at this; exact this
  have HSUB := Lib.hid hsub
  have hgbl := (hsub.lt gb rfl).2
  have hP110 : P.length ≤ 110 := by rw [← hP]; exact PLog.part_le L k
  have HWL : Hid (writeL L D k = PDsk.write D (PLog.sec L.pl L.n k : Nat) (PLog.image k L.life P)) := Lib.hid (by unfold writeL; rw [hP])
  rw [hN] at c4 h2 hln
  have HBG : Hid (∀ W, Calls Try.prog 32 #[.int .u64 L.first] W fun e w' => e = .returned (.int .u64 (Bg : Nat)) ∧ W = w') := Lib.hid (fun W => by rw [← hBg]; exact begin_any L.first (by omega) W)
  obtain ⟨f, hf⟩ : ∃ f, L.first = f := ⟨_, rfl⟩
  rw [hf] at c6 HBG hbf hfn
  obtain ⟨lf, hlf'⟩ : ∃ lf, L.life = lf := ⟨_, rfl⟩
  rw [hlf'] at c3 hlf HWL
  obtain ⟨Q, hQ⟩ : ∃ Q : Nat, Z - A = Q := ⟨_, rfl⟩
  rw [hQ] at hPl
  have hQ2 : Q ≤ 110 := by omega
  obtain ⟨s1, hs1⟩ : ∃ s1 : ByteArray, (⟨(PWord.be 8 k).toArray⟩ : ByteArray) = s1 := ⟨_, rfl⟩
  obtain ⟨s2, hs2⟩ : ∃ s2 : ByteArray, (⟨(PWord.be 8 lf).toArray⟩ : ByteArray) = s2 := ⟨_, rfl⟩
  obtain ⟨s3, hs3⟩ : ∃ s3 : ByteArray, (⟨(PWord.be 2 Q).toArray⟩ : ByteArray) = s3 := ⟨_, rfl⟩
  have HP1 : Hid (∀ W, Calls Try.prog 57 #[.int .u64 k, .int .i64 8] W fun e w' => e = .returned (.tuple #[.string s1, .bool true]) ∧ Below W.heap.size W w') := Lib.hid (fun W => by
    have := put_any k 8 (by omega) W
    rw [put8 k (by omega), hs1] at this
    exact this)
  have HP2 : Hid (∀ W, Calls Try.prog 57 #[.int .u64 L.life, .int .i64 8] W fun e w' => e = .returned (.tuple #[.string s2, .bool true]) ∧ Below W.heap.size W w') := Lib.hid (fun W => by
    rw [hlf']
    have := put_any lf 8 (by omega) W
    rw [put8 lf (by omega), hs2] at this
    exact this)
  have HP3 : Hid (∀ W, Calls Try.prog 57 #[.int .u64 Q, .int .i64 2] W fun e w' => e = .returned (.tuple #[.string s3, .bool true]) ∧ Below W.heap.size W w') := Lib.hid (fun W => by
    have := put_any Q 2 (by omega) W
    rw [put2 Q (by omega), hs3] at this
    exact this)
  obtain ⟨s4, hs4⟩ : ∃ s4 : ByteArray, s1 ++ s2 ++ s3 = s4 := ⟨_, rfl⟩
  have hs4d : s4.data.toList = PWord.be 8 k ++ PWord.be 8 lf ++ PWord.be 2 Q := by
    rw [← hs4, ← hs1, ← hs2, ← hs3]; simp
  have hs4l : s4.data.toList.length = 18 := by rw [hs4d]; simp [PWord.be_length]
  have HS4 := Lib.hid hs4
  have HS4D := Lib.hid hs4d
  have HS4L := Lib.hid hs4l
  have hz1 : s1.size = 8 := by rw [← hs1, size_mk, PWord.be_length]
  have hz2 : s2.size = 8 := by rw [← hs2, size_mk, PWord.be_length]
  have hz3 : s3.size = 2 := by rw [← hs3, size_mk, PWord.be_length]
  obtain ⟨x, hx⟩ : ∃ x : ByteArray, (⟨(PLog.image k lf P).toArray⟩ : ByteArray) = x := ⟨_, rfl⟩
  have hxs : x.size = 128 := by rw [← hx, size_mk, PLog.image_length hP110]
  have HXD : Hid (x.data.toList = PLog.image k lf P) := Lib.hid (by rw [← hx])
  have HXS := Lib.hid hxs
  have HIM : Hid (∀ W : World, ∀ G : Nat, W.heap[G]? = some (.cells (((bytesV (List.replicate 128 0)).take 0 ++ bytesV (s4.data.toList.take 128) ++ (bytesV (List.replicate 128 0)).drop (0 + (bytesV (s4.data.toList.take 128)).length)).take 18 ++ bytesV P ++ ((bytesV (List.replicate 128 0)).take 0 ++ bytesV (s4.data.toList.take 128) ++ (bytesV (List.replicate 128 0)).drop (0 + (bytesV (s4.data.toList.take 128)).length)).drop (18 + (bytesV P).length)).toArray 81 (0, 0)) →
      (convert 43 9 (.slice (some ⟨G, 0, none⟩) 128 128)).run Try.prog W = .ok (.string x) W) := Lib.hid (fun W G hG => by
    rw [show s4.data.toList.take 128 = s4.data.toList from List.take_of_length_le (by omega), image_row s4.data.toList P hs4l hP110] at hG
    have e : s4.data.toList ++ P ++ List.replicate (110 - P.length) 0 = PLog.image k lf P := by rw [hs4d]; unfold PLog.image; rw [hPl]
    rw [e] at hG
    have := conv_row hG (PLog.image_length hP110)
    rw [hx] at this
    exact this)
  have HSEC : Hid (∀ W, IsLog W g L b own → Calls Try.prog 61 #[.pointer (some ⟨g, 0, none⟩), .int .u64 k] W fun e w' => e = .returned (.int .i64 (PLog.sec L.pl L.n k : Nat)) ∧ Below W.heap.size W w') := Lib.hid (fun W hW => sector_any W hW k (by omega))
  obtain ⟨S, hS⟩ : ∃ S, PLog.sec L.pl L.n k = S := ⟨_, rfl⟩
  have hS5 : S ≤ 16384 := by
    rw [← hS]
    have := PLog.sec_lt (pl := L.pl) (x := k) (show 0 < L.n by have := H.out.1.n4; omega)
    have := H.out.1.place
    omega
  rw [hS] at HSEC HWL
  have HWR : Hid (∀ W, IsDisk W b D down → Calls Try.prog 64 #[.pointer (some ⟨b, 0, none⟩), .int .i64 S, .string x] W (StepPost (.int .i64 (writeL L D k).2) b (writeL L D k).1 down W)) := Lib.hid (fun W hW => by
    have := write_any W hW (S : Int) x (by rw [hxs]; unfold maxLen; omega) (by omega) (by omega) hll
    rw [HXD.out, ← HWL.out] at this
    exact this)
  have HMIN : Hid ((if (N : Int) < (A : Int) + 110 then (N : Int) else (A : Int) + 110) = (Z : Int)) := Lib.hid (by omega)
  have HQQ := Lib.hid hQ
  have HPL := Lib.hid hPl
  have HP110 := Lib.hid hP110
  have wA : IntKind.u64.wrap ((k : Int) - Bg) = A := by rw [IntWalk.u64_in _ (by omega)]; omega
  have wA2 : IntKind.i64.wrap (A : Int) = A := IntWalk.i64_in _ (by omega)
  have wA3 : IntKind.i64.wrap ((A : Int) + 110) = (A + 110 : Nat) := by rw [IntWalk.i64_in _ (by omega)]; omega
  have wQ : IntKind.u64.wrap (Q : Int) = Q := IntWalk.u64_in _ (by omega)
  have z1 : (0 : Int) ≤ A := by omega
  have z2 : (A : Int) ≤ Z := by omega
  have z3 : (Z : Int) ≤ cb := by omega
  have z4 : (Z : Int) ≤ N := by omega
  have zc : ¬ cb = A := by omega
  have hb0 := (Below.refl w.heap.size w).alloc (Nat.le_refl _) (.cells Try.zeroCells81 81)
  have c0' := (hb0.cell (p := ⟨g, 0, none⟩) hglt).trans c0
  have c3' := (hb0.cell (p := ⟨g, 3, none⟩) hglt).trans c3
  have c4' := (hb0.cell (p := ⟨g, 4, none⟩) hglt).trans c4
  have c6' := (hb0.cell (p := ⟨g, 6, none⟩) hglt).trans c6
  have HB := Lib.hid hb0
  clear hd hb hs hsub hpt hP hBg hA hN hZ hf hlf' hQ hPl hP110 hs1 hs2 hs3 hs4 hs4d hs4l hx hxs hS hll hb0 hfn hnx hln hrg hn5 hbf c0 c3 c4 c6
  go_enter Try.func37, Try.ntmps37
  go_wp2_with fail
  refine (HBG.out _).mono ?_; rintro e w1 ⟨rfl, rfl⟩
  go_wp2_with fail
  go_quiet (fail)
  obtain ⟨W1, hW1⟩ : ∃ W1, (w.alloc (.cells Try.zeroCells81 81)).drewN nq = W1 := ⟨_, rfl⟩
  replace HB : Hid (Below w.heap.size w W1) := Lib.hid (by rw [← hW1]; exact HB.out.trans ((lowN _ nq).mono HB.out.size))
  have HV : Hid (W1.heap[w.heap.size]? = some (.cells Try.zeroCells81 81 (0, 0))) := Lib.hid (by rw [← hW1]; exact heap_alloc_new w _)
  rw [hW1]
  clear hW1 c0' c3' c4' c6'
  have c0 := (H.out.below HB.out).cells.1
  have c3 := (H.out.below HB.out).cells.2.2.2.1
  simp only [HMIN.out, Int.toNat_natCast, HQQ.out]
  clear wA wA2 wA3 z1 z2 z3 z4 zc HMIN
  go_wp2_with fail
  refine (HP1.out _).mono ?_; rintro e w2 ⟨rfl, hb⟩
  have hlt := (Array.getElem?_eq_some_iff.1 HV.out).1
  replace HV := Lib.hid ((hb.block _ hlt).trans HV.out)
  replace HB := Lib.hid (HB.out.step hb)
  clear hb hlt c0 c3
  have c3 := (H.out.below HB.out).cells.2.2.2.1
  go_wp2_with fail
  refine (HP2.out _).mono ?_; rintro e w3 ⟨rfl, hb⟩
  have hlt := (Array.getElem?_eq_some_iff.1 HV.out).1
  replace HV := Lib.hid ((hb.block _ hlt).trans HV.out)
  replace HB := Lib.hid (HB.out.step hb)
  clear hb hlt c3
  go_wp2_with fail
  refine (HP3.out _).mono ?_; rintro e w4 ⟨rfl, hb⟩
  have hlt := (Array.getElem?_eq_some_iff.1 HV.out).1
  replace HV := Lib.hid ((hb.block _ hlt).trans HV.out)
  replace HB := Lib.hid (HB.out.step hb)
  clear hb hlt
  have HZS : Hid (Try.zeroCells81.size = 128) := Lib.hid (by rw [← Array.length_toList, z128_list, bytesV_length, List.length_replicate])
  have HTH := Lib.hid (row_there HV.out (o := 0) (n := 128) (by rw [HZS.out]; omega))
  have hl18 : (bytesV (s4.data.toList.take 128)).length = 18 := by rw [bytesV_length, List.take_of_length_le (by have := HS4L.out; omega), HS4L.out]
  have HV5 := Lib.hid (setCells_heap (bytesV (s4.data.toList.take 128)) 0 _ w4 HV.out (by rw [HZS.out, hl18]; omega))
  obtain ⟨W5, hW5⟩ : ∃ W5, w4.setCells w.heap.size 0 (bytesV (s4.data.toList.take 128)) = W5 := ⟨_, rfl⟩
  replace HB : Hid (Below w.heap.size w W5) := Lib.hid (by rw [← hW5]; exact below_setCellsL HB.out (Nat.le_refl _) _ _)
  rw [hW5] at HV5
  have HR5 : Hid ((Try.zeroCells81.toList.take 0 ++ bytesV (s4.data.toList.take 128) ++ Try.zeroCells81.toList.drop (0 + (bytesV (s4.data.toList.take 128)).length)).length = 128) := Lib.hid (by
    rw [List.length_append, List.length_append, List.length_take, List.length_drop, hl18, Array.length_toList, HZS.out]; omega)
  have HTH5 := Lib.hid (row_there HV5.out (o := 18) (n := 110) (by rw [List.size_toArray, HR5.out]; omega))
  have HSUB5 : Hid (Sl W5 0 5 1 (.slice (some ⟨gb, ob + A, none⟩) Q (cb - A)) Q (bytesV P)) := Lib.hid (by
    have := HSUB.out
    rw [HQQ.out] at this
    exact this.keep fun k e => HB.out.block k (by simp [Value.ownBlock] at e; subst e; exact hgbl))
  have HAD : Hid (∀ j u, (bytesV P)[j]? = some u → W5.cell? ((⟨gb, ob + A, none⟩ : Addr).add j) = some u) := Lib.hid (HSUB5.out.cells rfl)
  have HPQ : Hid ((bytesV P).length = Q) := Lib.hid (by rw [bytesV_length, HPL.out])
  have HV6 := Lib.hid (setCells_heap (bytesV P) 18 _ W5 HV5.out (by rw [List.size_toArray, HR5.out, bytesV_length]; have := HP110.out; omega))
  obtain ⟨W6, hW6⟩ : ∃ W6, W5.setCells w.heap.size 18 (bytesV P) = W6 := ⟨_, rfl⟩
  replace HB : Hid (Below w.heap.size w W6) := Lib.hid (by rw [← hW6]; exact below_setCellsL HB.out (Nat.le_refl _) _ _)
  rw [hW6] at HV6
  have HW5 := Lib.hid hW5
  have HW6 := Lib.hid hW6
  have HC6 : Hid (∀ W, W.heap[w.heap.size]? = W6.heap[w.heap.size]? → (convert 43 9 (.slice (some ⟨w.heap.size, 0, none⟩) 128 128)).run Try.prog W = .ok (.string x) W) := Lib.hid (fun W e => HIM.out W w.heap.size (by
    rw [e, HV6.out, z128_list, List.toList_toArray]))
  clear hl18 hW5 hW6
  go_wp2_with (first
    | ((with_reducible refine wpList_copy_strL Try.underlying43 size_u8L rfl rfl rfl rfl HTH.out ?_); rw [HS4.out, HW5.out])
    | ((with_reducible refine wpList_copy_cellsL Try.underlying43 size_u8L (bytesV P) rfl rfl rfl rfl HPQ.out hQ2 (fun _ => ⟨_, rfl, HAD.out⟩) (bytesV_one _) HTH5.out ?_); rw [HW6.out]))
  have HG6 : Hid (w.heap.size < W6.heap.size) := Lib.hid (Array.getElem?_eq_some_iff.1 HV6.out).1
  have c0 := (H.out.below HB.out).cells.1
  have hcv := HC6.out W6 rfl
  have hcv1 := HC6.out W6.drew rfl
  have hcv2 := HC6.out W6.drew.drew rfl
  have HL0 : Hid (IsLog W6 g L b own) := Lib.hid (H.out.below HB.out)
  have HL1 : Hid (IsLog W6.drew g L b own) := HL0
  have HL2 : Hid (IsLog W6.drew.drew g L b own) := HL0
  go_region_with (first
    | ((with_reducible refine (HSEC.out _ HL0.out).mono ?_); rintro e w8 ⟨rfl, hb⟩; have HB8 := Lib.hid (HB.out.step hb); have c08 := (H.out.below HB8.out).cells.1; have hcv8 := HC6.out w8 (hb.block _ HG6.out); have hcv8d := HC6.out w8.drew (hb.block _ HG6.out); clear hb)
    | ((with_reducible refine (HSEC.out _ HL1.out).mono ?_); rintro e w8 ⟨rfl, hb⟩; have HB8 := Lib.hid (HB.out.drew.step hb); have c08 := (H.out.below HB8.out).cells.1; have hcv8 := HC6.out w8 (hb.block _ HG6.out); have hcv8d := HC6.out w8.drew (hb.block _ HG6.out); clear hb)
    | ((with_reducible refine (HSEC.out _ HL2.out).mono ?_); rintro e w8 ⟨rfl, hb⟩; have HB8 := Lib.hid (HB.out.drew.drew.step hb); have c08 := (H.out.below HB8.out).cells.1; have hcv8 := HC6.out w8 (hb.block _ HG6.out); have hcv8d := HC6.out w8.drew (hb.block _ HG6.out); clear hb)
    | ((with_reducible refine (HWR.out _ (HD.out.below HB8.out)).mono ?_); rintro e w9 ⟨down', rfl, k1, k2⟩; have K1 := Lib.hid k1; have K2 := Lib.hid k2; clear k1 k2))
  all_goals (
    go_wp2
    go_ret
    exact ⟨down', rfl, K1.out, (Stepped.of_below HB8.out down).trans K2.out⟩)
end Go.Proofs.Ytjnggldalggfnaa
