/-
  A play: Reserve, Keep, Append, Force, of both.
-/
import Derived.Test.YtjnggldalggfnaaLpE
import Derived.Test.YtjnggldalggfnaaLog13
namespace Go.Proofs.Ytjnggldalggfnaa
open Go.RowKit
/-- a play under way, beside the act's box -/
structure DoX (w0 wr : World) (p gl b gr life n : Nat) (kv : Value) (L1 : PLog.Lg) (D : PDsk.Dsk) (o1 : List Nat) (L2 : PLog.Lg) (fix : List UInt8) (fa : Nat) (o2 own0 : List Nat) (g : Nat) (row : Array Value) : Prop where
  pl : PlayX wr p gl b gr life n kv L1 D o1 L2 fix fa o2
  st : Stepped w0 wr own0 (plOwn p o1 o2)
  ar : wr.heap[g]? = some (.cells row 46 (0, 0))
  gn : g ∉ plOwn p o1 o2
section
variable {w0 w wb w' : World} {p gl gl' b gr gr' life life' n g : Nat} {kv : Value} {L1 L1' : PLog.Lg} {D D' : PDsk.Dsk} {o1 o1' : List Nat} {L2 L2' : PLog.Lg} {fix fix' : List UInt8} {fa fa' : Nat} {o2 o2' own0 : List Nat} {row : Array Value}
theorem DoX.step (h : DoX w0 w p gl b gr life n kv L1 D o1 L2 fix fa o2 own0 g row) (hp : PlayX w' p gl' b gr' life' n kv L1' D' o1' L2' fix' fa' o2') (s : Stepped w w' (plOwn p o1 o2) (plOwn p o1' o2')) : DoX w0 w' p gl' b gr' life' n kv L1' D' o1' L2' fix' fa' o2' own0 g row :=
  ⟨hp, h.st.trans s, (s.1.block g (Array.getElem?_eq_some_iff.1 h.ar).1 h.gn).trans h.ar, fun hm => by
    rcases s.2 g hm with h1 | h1
    · exact h.gn h1
    · have := (Array.getElem?_eq_some_iff.1 h.ar).1; omega⟩
theorem DoX.below (h : DoX w0 w p gl b gr life n kv L1 D o1 L2 fix fa o2 own0 g row) (hb : Below w.heap.size w w') : DoX w0 w' p gl b gr life n kv L1 D o1 L2 fix fa o2 own0 g row := h.step (h.pl.below hb) (Stepped.of_below hb _)
theorem DoX.refs (h : DoX w0 w p gl b gr life n kv L1 D o1 L2 fix fa o2 own0 g row) (hb : Below w.heap.size w wb) (hr : IsRef w' gr L2' fix' fa' o2') (s : Stepped wb w' o2 o2') : DoX w0 w' p gl b gr life n kv L1 D o1 L2' fix' fa' o2' own0 g row := by
  have h2 := (h.below hb).pl.refs hr s
  exact (h.below hb).step h2.1 h2.2
theorem DoX.logs (h : DoX w0 w p gl b gr life n kv L1 D o1 L2 fix fa o2 own0 g row) (hb : Below w.heap.size w wb) (hl : LD w' gl L1' b D' o1') (s : Stepped wb w' o1 o1') : DoX w0 w' p gl b gr life n kv L1' D' o1' L2 fix fa o2 own0 g row := by
  have h2 := (h.below hb).pl.log hl s rfl
  exact (h.below hb).step h2.1 h2.2
theorem DoX.start (h : PlayX w p gl b gr life n kv L1 D o1 L2 fix fa o2) (row : Array Value) : DoX w (w.alloc (.cells row 46)) p gl b gr life n kv L1 D o1 L2 fix fa o2 (plOwn p o1 o2) w.heap.size row := by
  have hb : Below w.heap.size w (w.alloc (.cells row 46)) := (Below.refl _ _).alloc (Nat.le_refl _) _
  exact ⟨h.below hb, Stepped.of_below hb _, heap_alloc_new _ _, fun hm => by have := h.lt _ hm; omega⟩
end
def DoesPost (p b n : Nat) (kv : Value) (L : PLog.Lg) (own : List Nat) (w : World) (e : Ending) (w' : World) : Prop :=
  ∃ gl gr L' D' fix fa o1 o2, e = .returned (.bool true) ∧ PlayX w' p gl b gr L'.life n kv L' D' o1 L' fix fa o2 ∧ PLog.Pl n L' D' ∧ L'.next ≤ L.next + 5000 ∧ L'.life ≤ L.life + 1 ∧ Stepped w w' own (plOwn p o1 o2)
theorem DoesPost.mk' {w0 w' : World} {p gl b gr n : Nat} {kv : Value} {L L' : PLog.Lg} {D' : PDsk.Dsk} {o1 : List Nat} {fix : List UInt8} {fa : Nat} {o2 own0 : List Nat} {g : Nat} {row : Array Value} {life : Nat} (h : DoX w0 w' p gl b gr life n kv L' D' o1 L' fix fa o2 own0 g row) (hl : life = L'.life) (hP : PLog.Pl n L' D') (h1 : L'.next ≤ L.next + 5000) (h2 : L'.life ≤ L.life + 1) (e : Ending) (he : e = .returned (.bool true)) : DoesPost p b n kv L own0 w0 e w' := by
  subst hl
  exact ⟨gl, gr, L', D', fix, fa, o1, o2, he, h.pl, hP, h1, h2, h.st⟩
end Go.Proofs.Ytjnggldalggfnaa
namespace Go.Proofs.Ytjnggldalggfnaa
open Go.RowKit
section
variable {p gl b gr n : Nat} {kv : Value} {L : PLog.Lg} {D : PDsk.Dsk} {o1 : List Nat} {fix : List UInt8} {fa : Nat} {o2 : List Nat}
set_option maxRecDepth 100000 in
set_option maxHeartbeats 8000000 in
theorem pdoes_reserve (w : World) (h : PlayX w p gl b gr L.life n kv L D o1 L fix fa o2) (hP : PLog.Pl n L D) (x : ActM) (hx : x.Ok) (hd : x.dO % 5 = 3) :
    Calls Try.prog 27 #[.pointer (some ⟨p, 0, none⟩), .agg x.row] w (DoesPost p b n kv L (plOwn p o1 o2) w) := by
  obtain ⟨q1, q2, q3⟩ := hP.reserve x.n
  have HDO := Lib.hid (DoX.start h x.row)
  obtain ⟨xd, xs, xl, xw, xn, xk, xkeep⟩ := x
  unfold ActM.row at HDO ⊢
  obtain ⟨_, _, _, _, hx5, hx6, _⟩ := hx
  dsimp only at hx5 hx6 hd HDO q1 q2 q3 ⊢
  obtain ⟨RW, hRW⟩ : ∃ RW, (PLog.reserve L xn) = RW := ⟨_, rfl⟩
  rw [hRW] at q1 q2 q3
  obtain ⟨L', C⟩ := RW
  dsimp only at q1 q2 q3
  have HEND : Hid (PLog.Pl n L' D ∧ L'.next ≤ L.next + 5000 ∧ L'.life ≤ L.life + 1 ∧ L.life = L'.life) := Lib.hid ⟨q1, by omega, by omega, q3.symm⟩
  have HA : Hid (∀ W o, LD W gl L b D o → Calls Try.prog 14 #[.pointer (some ⟨gl, 0, none⟩), .int .i64 xn] W (LDPost (.int .i64 C) gl L' b D o W)) := Lib.hid (fun W o hW => by
    have := hW.of_log (fun o hL => reserve_any W hL xn hx5 hx6)
    rwa [hRW] at this)
  have HB : Hid (∀ W o, IsRef W gr L fix fa o → Calls Try.prog 50 #[.pointer (some ⟨gr, 0, none⟩), .int .i64 xn] W (RefPost (.int .i64 C) gr L' fix fa o W)) := Lib.hid (fun W o hW => by
    have := rreserve_any W hW xn hx5 hx6
    rwa [hRW] at this)
  obtain ⟨W1, hW1⟩ : ∃ W1, w.alloc (.cells #[.int .u8 xd, .string xs, .int .u64 xl, .int .u8 xw, .int .i64 xn, xk] 46) = W1 := ⟨_, rfl⟩
  have HW1 := Lib.hid hW1
  rw [hW1] at HDO
  have a0 : W1.cell? ⟨w.heap.size, 0, none⟩ = some (.int .u8 xd) := by simp [World.cell?, HDO.out.ar]
  have a4 : W1.cell? ⟨w.heap.size, 4, none⟩ = some (.int .i64 xn) := by simp [World.cell?, HDO.out.ar]
  obtain ⟨_, c1, c2, _, _⟩ := HDO.out.pl.cells
  have m1 : (xd : Int) % 5 = 3 := by omega
  clear h hP hd hx5 hx6 q1 q2 q3 hRW hW1
  go_enter Try.func27, Try.ntmps27
  go_upto_region 1 with fail
  rw [HW1.out]
  go_wp2_with fail
  go_region_law (first
    | ((try go_simp); ((with_reducible refine (HA.out _ o1 (by first | exact HDO.out.pl.ld | exact (HDO.out.below (Below.refl _ _).drew).pl.ld | exact (HDO.out.below (Below.refl _ _).drew.drew).pl.ld)).mono ?_); rintro e w4 ⟨o1', rfl, hl4, hs4⟩; have HD4 := Lib.hid (HDO.out.logs (by first | exact Below.refl _ _ | exact (Below.refl _ _).drew | exact (Below.refl _ _).drew.drew) hl4 hs4); have a44 : w4.cell? ⟨w.heap.size, 4, none⟩ = some (.int .i64 xn) := (by simp [World.cell?, HD4.out.ar]); have c24 := HD4.out.pl.cells.2.2.1; clear hl4 hs4); go_wp2_with fail)
    | ((try go_simp); ((with_reducible refine (HB.out _ o2 (by first | exact HD4.out.pl.ref | exact (HD4.out.below (Below.refl _ _).drew).pl.ref | exact (HD4.out.below (Below.refl _ _).drew.drew).pl.ref)).mono ?_); rintro e w5 ⟨o2', rfl, hr5, hs5⟩; have HD5 := Lib.hid (HD4.out.refs (by first | exact Below.refl _ _ | exact (Below.refl _ _).drew | exact (Below.refl _ _).drew.drew) hr5 hs5); clear hr5 hs5); go_wp2_with fail))
  all_goals (
    go_wp2
    go_ret
    exact DoesPost.mk' HD5.out HEND.out.2.2.2 HEND.out.1 HEND.out.2.1 HEND.out.2.2.1 _ rfl)
end
end Go.Proofs.Ytjnggldalggfnaa
namespace Go.Proofs.Ytjnggldalggfnaa
open Go.RowKit
section
variable {p gl b gr n : Nat} {kv : Value} {L : PLog.Lg} {D : PDsk.Dsk} {o1 : List Nat} {fix : List UInt8} {fa : Nat} {o2 : List Nat}
set_option maxRecDepth 100000 in
set_option maxHeartbeats 8000000 in
theorem pdoes_keep (w : World) (h : PlayX w p gl b gr L.life n kv L D o1 L fix fa o2) (hP : PLog.Pl n L D) (x : ActM) (hx : x.Ok) (hd : x.dO % 5 = 2) :
    Calls Try.prog 27 #[.pointer (some ⟨p, 0, none⟩), .agg x.row] w (DoesPost p b n kv L (plOwn p o1 o2) w) := by
  obtain ⟨Y, hY⟩ : ∃ Y, PLog.lsnOf L x.which x.lsn = Y := ⟨_, rfl⟩
  obtain ⟨q1, q2, q3⟩ := hP.keep Y
  have HDO := Lib.hid (DoX.start h x.row)
  have HLS : Hid (∀ W, PlayX W p gl b gr L.life n kv L D o1 L fix fa o2 → Calls Try.prog 48 #[.pointer (some ⟨p, 0, none⟩), .agg x.row] W fun e w' => e = .returned (.int .u64 (Y : Nat)) ∧ Below W.heap.size W w') := Lib.hid (fun W hW => by
    have := plsn_any W hW x hx
    rwa [hY] at this)
  obtain ⟨xd, xs, xl, xw, xn, xk, xkeep⟩ := x
  unfold ActM.row at HDO HLS ⊢
  dsimp only at hd HDO HLS hY ⊢
  obtain ⟨RW, hRW⟩ : ∃ RW, (PLog.keep L Y) = RW := ⟨_, rfl⟩
  rw [hRW] at q1 q2 q3
  obtain ⟨L', C⟩ := RW
  dsimp only at q1 q2 q3
  have HEND : Hid (PLog.Pl n L' D ∧ L'.next ≤ L.next + 5000 ∧ L'.life ≤ L.life + 1 ∧ L.life = L'.life) := Lib.hid ⟨q1, by omega, by omega, q3.symm⟩
  have HA : Hid (∀ W o, LD W gl L b D o → Calls Try.prog 13 #[.pointer (some ⟨gl, 0, none⟩), .int .u64 Y] W (LDPost (.int .i64 C) gl L' b D o W)) := Lib.hid (fun W o hW => by
    have := hW.of_log (fun o hL => lkeep_any W hL Y)
    rwa [hRW] at this)
  have HB : Hid (∀ W o, IsRef W gr L fix fa o → Calls Try.prog 49 #[.pointer (some ⟨gr, 0, none⟩), .int .u64 Y] W (RefPost (.int .i64 C) gr L' fix fa o W)) := Lib.hid (fun W o hW => by
    have := rkeep_any W hW Y
    rwa [hRW] at this)
  obtain ⟨W1, hW1⟩ : ∃ W1, w.alloc (.cells #[.int .u8 xd, .string xs, .int .u64 xl, .int .u8 xw, .int .i64 xn, xk] 46) = W1 := ⟨_, rfl⟩
  have HW1 := Lib.hid hW1
  rw [hW1] at HDO
  have a0 : W1.cell? ⟨w.heap.size, 0, none⟩ = some (.int .u8 xd) := by simp [World.cell?, HDO.out.ar]
  have a1 : W1.cell? ⟨w.heap.size, 1, none⟩ = some (.string xs) := by simp [World.cell?, HDO.out.ar]
  have a2 : W1.cell? ⟨w.heap.size, 2, none⟩ = some (.int .u64 xl) := by simp [World.cell?, HDO.out.ar]
  have a3 : W1.cell? ⟨w.heap.size, 3, none⟩ = some (.int .u8 xw) := by simp [World.cell?, HDO.out.ar]
  have a4 : W1.cell? ⟨w.heap.size, 4, none⟩ = some (.int .i64 xn) := by simp [World.cell?, HDO.out.ar]
  have a5 : W1.cell? ⟨w.heap.size, 5, none⟩ = some xk := by simp [World.cell?, HDO.out.ar]
  have m1 : (xd : Int) % 5 = 2 := by omega
  have HLS1 := Lib.hid (HLS.out W1 HDO.out.pl)
  clear h hP hd hx q1 q2 q3 hRW hW1 hY
  go_enter Try.func27, Try.ntmps27
  go_upto_region 1 with fail
  rw [HW1.out]
  go_wp2_with fail
  refine HLS1.out.mono ?_; rintro e w2 ⟨rfl, hb⟩
  have HD2 := Lib.hid (HDO.out.below hb)
  obtain ⟨_, c1, c2, _, _⟩ := HD2.out.pl.cells
  clear hb a0 a1 a2 a3 a4 a5
  go_wp2_with fail
  go_region_law (first
    | ((try go_simp); ((with_reducible refine (HA.out _ o1 (by first | exact HD2.out.pl.ld | exact (HD2.out.below (Below.refl _ _).drew).pl.ld | exact (HD2.out.below (Below.refl _ _).drew.drew).pl.ld)).mono ?_); rintro e w4 ⟨o1', rfl, hl4, hs4⟩; have HD4 := Lib.hid (HD2.out.logs (by first | exact Below.refl _ _ | exact (Below.refl _ _).drew | exact (Below.refl _ _).drew.drew) hl4 hs4); have c24 := HD4.out.pl.cells.2.2.1; clear hl4 hs4); go_wp2_with fail)
    | ((try go_simp); ((with_reducible refine (HB.out _ o2 (by first | exact HD4.out.pl.ref | exact (HD4.out.below (Below.refl _ _).drew).pl.ref | exact (HD4.out.below (Below.refl _ _).drew.drew).pl.ref)).mono ?_); rintro e w5 ⟨o2', rfl, hr5, hs5⟩; have HD5 := Lib.hid (HD4.out.refs (by first | exact Below.refl _ _ | exact (Below.refl _ _).drew | exact (Below.refl _ _).drew.drew) hr5 hs5); clear hr5 hs5); go_wp2_with fail))
  all_goals (
    go_wp2
    go_ret
    exact DoesPost.mk' HD5.out HEND.out.2.2.2 HEND.out.1 HEND.out.2.1 HEND.out.2.2.1 _ rfl)
end
end Go.Proofs.Ytjnggldalggfnaa
namespace Go.Proofs.Ytjnggldalggfnaa
open Go.RowKit
section
variable {p gl b gr n : Nat} {kv : Value} {L : PLog.Lg} {D : PDsk.Dsk} {o1 : List Nat} {fix : List UInt8} {fa : Nat} {o2 : List Nat}
set_option maxRecDepth 100000 in
set_option maxHeartbeats 8000000 in
theorem pdoes_append (w : World) (h : PlayX w p gl b gr L.life n kv L D o1 L fix fa o2) (hP : PLog.Pl n L D) (x : ActM) (hx : x.s.size ≤ 3000) (hn : L.next ≤ 8900000000000000000) (hd : x.dO % 5 = 0) :
    Calls Try.prog 27 #[.pointer (some ⟨p, 0, none⟩), .agg x.row] w (DoesPost p b n kv L (plOwn p o1 o2) w) := by
  obtain ⟨q1, q2, q3⟩ := hP.append x.s.data.toList hn
  have HDO := Lib.hid (DoX.start h x.row)
  obtain ⟨xd, xs, xl, xw, xn, xk, xkeep⟩ := x
  unfold ActM.row at HDO ⊢
  dsimp only at hx hd HDO q1 q2 q3 ⊢
  have hls := list_size xs
  obtain ⟨RW, hRW⟩ : ∃ RW, (PLog.append L xs.data.toList) = RW := ⟨_, rfl⟩
  rw [hRW] at q1 q2 q3
  obtain ⟨L', A, C⟩ := RW
  dsimp only at q1 q2 q3
  have HEND : Hid (PLog.Pl n L' D ∧ L'.next ≤ L.next + 5000 ∧ L'.life ≤ L.life + 1 ∧ L.life = L'.life) := Lib.hid ⟨q1, by omega, by omega, q3.symm⟩
  have HA : Hid (∀ W o, LD W gl L b D o → Calls Try.prog 8 #[.pointer (some ⟨gl, 0, none⟩), .string xs] W (LDPost (.tuple #[.int .u64 A, .int .i64 C]) gl L' b D o W)) := Lib.hid (fun W o hW => by
    have := lappend_ld hW xs (by unfold maxLen; omega) hn
    rwa [hRW] at this)
  have HB : Hid (∀ W o, IsRef W gr L fix fa o → Calls Try.prog 46 #[.pointer (some ⟨gr, 0, none⟩), .string xs] W (RefPost (.tuple #[.int .u64 A, .int .i64 C]) gr L' fix fa o W)) := Lib.hid (fun W o hW => by
    have := rappend_any W hW xs hn
    unfold RAppPost at this
    rwa [hRW] at this)
  obtain ⟨W1, hW1⟩ : ∃ W1, w.alloc (.cells #[.int .u8 xd, .string xs, .int .u64 xl, .int .u8 xw, .int .i64 xn, xk] 46) = W1 := ⟨_, rfl⟩
  have HW1 := Lib.hid hW1
  rw [hW1] at HDO
  have a0 : W1.cell? ⟨w.heap.size, 0, none⟩ = some (.int .u8 xd) := by simp [World.cell?, HDO.out.ar]
  have a1 : W1.cell? ⟨w.heap.size, 1, none⟩ = some (.string xs) := by simp [World.cell?, HDO.out.ar]
  obtain ⟨_, c1, _, _, _⟩ := HDO.out.pl.cells
  have m1 : (xd : Int) % 5 = 0 := by omega
  clear h hP hd hx q1 q2 q3 hRW hW1 hls
  go_enter Try.func27, Try.ntmps27
  go_upto_region 1 with fail
  rw [HW1.out]
  go_upto_region 3 with fail
  go_cut [5, 6] from 17 to 29 (fun s5 s6 wx => s5 = .int .u64 A ∧ s6 = .int .i64 C ∧ ∃ o1', Hid (DoX w wx p gl b gr L.life n kv L' D o1' L fix fa o2 (plOwn p o1 o2) w.heap.size #[.int .u8 xd, .string xs, .int .u64 xl, .int .u8 xw, .int .i64 xn, xk]))
  case first =>
    go_region_law ((try go_simp); ((with_reducible refine (HA.out _ o1 (by first | exact HDO.out.pl.ld | exact (HDO.out.below (Below.refl _ _).drew).pl.ld | exact (HDO.out.below (Below.refl _ _).drew.drew).pl.ld)).mono ?_); rintro e w4 ⟨o1', rfl, hl4, hs4⟩; have HD4 := Lib.hid (HDO.out.logs (by first | exact Below.refl _ _ | exact (Below.refl _ _).drew | exact (Below.refl _ _).drew.drew) hl4 hs4); clear hl4 hs4); go_wp2_with fail)
    all_goals (
      (try go_simp)
      go_wp2_with fail
      go_meet
      exact ⟨rfl, rfl, _, HD4⟩)
  case rest =>
    obtain ⟨rfl, rfl, o1', HD4⟩ := hcut
    have c24 := HD4.out.pl.cells.2.2.1
    have a14 : wc.cell? ⟨w.heap.size, 1, none⟩ = some (.string xs) := by simp [World.cell?, HD4.out.ar]
    clear a0 a1 c1
    go_wp2_with fail
    go_region_law ((try go_simp); ((with_reducible refine (HB.out _ o2 (by first | exact HD4.out.pl.ref | exact (HD4.out.below (Below.refl _ _).drew).pl.ref | exact (HD4.out.below (Below.refl _ _).drew.drew).pl.ref)).mono ?_); rintro e w5 ⟨o2', rfl, hr5, hs5⟩; have HD5 := Lib.hid (HD4.out.refs (by first | exact Below.refl _ _ | exact (Below.refl _ _).drew | exact (Below.refl _ _).drew.drew) hr5 hs5); clear hr5 hs5); go_wp2_with fail)
    all_goals (
      go_wp2
      go_ret
      exact DoesPost.mk' HD5.out HEND.out.2.2.2 HEND.out.1 HEND.out.2.1 HEND.out.2.2.1 _ rfl)
end
end Go.Proofs.Ytjnggldalggfnaa
namespace Go.Proofs.Ytjnggldalggfnaa
open Go.RowKit
section
variable {p gl b gr n : Nat} {kv : Value} {L : PLog.Lg} {D : PDsk.Dsk} {o1 : List Nat} {fix : List UInt8} {fa : Nat} {o2 : List Nat}
set_option maxRecDepth 100000 in
set_option maxHeartbeats 8000000 in
theorem pdoes_force (w : World) (h : PlayX w p gl b gr L.life n kv L D o1 L fix fa o2) (hP : PLog.Pl n L D) (x : ActM) (hx : x.Ok) (hd : x.dO % 5 = 1) :
    Calls Try.prog 27 #[.pointer (some ⟨p, 0, none⟩), .agg x.row] w (DoesPost p b n kv L (plOwn p o1 o2) w) := by
  obtain ⟨Y, hY⟩ : ∃ Y, PLog.lsnOf L x.which x.lsn = Y := ⟨_, rfl⟩
  obtain ⟨_, _, _, _, q5, q6, q7⟩ := hP.force Y
  have HDO := Lib.hid (DoX.start h x.row)
  have HLS : Hid (∀ W, PlayX W p gl b gr L.life n kv L D o1 L fix fa o2 → Calls Try.prog 48 #[.pointer (some ⟨p, 0, none⟩), .agg x.row] W fun e w' => e = .returned (.int .u64 (Y : Nat)) ∧ Below W.heap.size W w') := Lib.hid (fun W hW => by
    have := plsn_any W hW x hx
    rwa [hY] at this)
  obtain ⟨xd, xs, xl, xw, xn, xk, xkeep⟩ := x
  unfold ActM.row at HDO HLS ⊢
  dsimp only at hd HDO HLS hY ⊢
  obtain ⟨L', hL'⟩ : ∃ L', (PLog.force L D Y).1 = L' := ⟨_, rfl⟩
  obtain ⟨D', hD'⟩ : ∃ D', (PLog.force L D Y).2.1 = D' := ⟨_, rfl⟩
  rw [hL'] at q5 q6 q7
  rw [hD'] at q7
  have HEND : Hid (PLog.Pl n L' D' ∧ L'.next ≤ L.next + 5000 ∧ L'.life ≤ L.life + 1 ∧ L.life = L'.life) := Lib.hid ⟨q7, by omega, by omega, q6.symm⟩
  have HA : Hid (∀ W, PlayX W p gl b gr L.life n kv L D o1 L fix fa o2 → Calls Try.prog 47 #[.pointer (some ⟨p, 0, none⟩), .int .u64 Y] W (PForcePost p gl b gr L.life n kv L' D' fix fa (plOwn p o1 o2) W)) := Lib.hid (fun W hW => by
    have := pforce_any W hW hP Y
    rwa [hL', hD'] at this)
  obtain ⟨W1, hW1⟩ : ∃ W1, w.alloc (.cells #[.int .u8 xd, .string xs, .int .u64 xl, .int .u8 xw, .int .i64 xn, xk] 46) = W1 := ⟨_, rfl⟩
  have HW1 := Lib.hid hW1
  rw [hW1] at HDO
  have a0 : W1.cell? ⟨w.heap.size, 0, none⟩ = some (.int .u8 xd) := by simp [World.cell?, HDO.out.ar]
  have a1 : W1.cell? ⟨w.heap.size, 1, none⟩ = some (.string xs) := by simp [World.cell?, HDO.out.ar]
  have a2 : W1.cell? ⟨w.heap.size, 2, none⟩ = some (.int .u64 xl) := by simp [World.cell?, HDO.out.ar]
  have a3 : W1.cell? ⟨w.heap.size, 3, none⟩ = some (.int .u8 xw) := by simp [World.cell?, HDO.out.ar]
  have a4 : W1.cell? ⟨w.heap.size, 4, none⟩ = some (.int .i64 xn) := by simp [World.cell?, HDO.out.ar]
  have a5 : W1.cell? ⟨w.heap.size, 5, none⟩ = some xk := by simp [World.cell?, HDO.out.ar]
  have m1 : (xd : Int) % 5 = 1 := by omega
  have HLS1 := Lib.hid (HLS.out W1 HDO.out.pl)
  clear h hP hd hx q5 q6 q7 hL' hD' hW1 hY
  go_enter Try.func27, Try.ntmps27
  go_upto_region 1 with fail
  rw [HW1.out]
  go_wp2_with fail
  refine HLS1.out.mono ?_; rintro e w2 ⟨rfl, hb⟩
  have HD2 := Lib.hid (HDO.out.below hb)
  clear hb a0 a1 a2 a3 a4 a5
  go_wp2_with fail
  refine (HA.out _ HD2.out.pl).mono ?_; rintro e w3 ⟨o1', o2', rfl, hp3, hs3⟩
  have HD5 := Lib.hid (HD2.out.step hp3 hs3)
  clear hp3 hs3
  go_wp2
  go_ret
  exact DoesPost.mk' HD5.out HEND.out.2.2.2 HEND.out.1 HEND.out.2.1 HEND.out.2.2.1 _ rfl
end
end Go.Proofs.Ytjnggldalggfnaa
