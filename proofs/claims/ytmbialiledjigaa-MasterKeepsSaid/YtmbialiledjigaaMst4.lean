/-
  Masters: Decode of the program.
-/
import Derived.Test.YtmbialiledjigaaMst3
import Derived.Laws.ResultCell
import Derived.Laws.CopyOwn
namespace Go.Proofs.Ytmbialiledjigaa
open Go.RowKit
open PMst (Mst)
def zM : Array Value := #[.int .u64 0, .int .u64 0, .int .u64 0, .int .u64 0, .bool false]
def gotA (m : Mst) : Nat → Array Value
  | 0 => #[.int .u64 0, .int .u64 0, .int .u64 0, .int .u64 0]
  | 1 => #[.int .u64 m.count, .int .u64 0, .int .u64 0, .int .u64 0]
  | 2 => #[.int .u64 m.count, .int .u64 m.life, .int .u64 0, .int .u64 0]
  | 3 => #[.int .u64 m.count, .int .u64 m.life, .int .u64 m.check, .int .u64 0]
  | _ => #[.int .u64 m.count, .int .u64 m.life, .int .u64 m.check, .int .u64 m.first]
theorem made2 (w : World) (A B : Array Value) (t u : TypeId) : ((w.alloc (.cells A t)).alloc (.cells B u)).heap[w.heap.size]? = some (.cells A t (0, 0)) ∧ ((w.alloc (.cells A t)).alloc (.cells B u)).heap[w.heap.size + 1]? = some (.cells B u (0, 0)) ∧ Below w.heap.size w ((w.alloc (.cells A t)).alloc (.cells B u)) := by
  refine ⟨?_, ?_, ((Below.refl _ _).alloc (Nat.le_refl _) _).alloc (by simp) _⟩
  · exact (Below.heap_alloc _ _ _ (by simp)).trans (heap_alloc_new w _)
  · have := heap_alloc_new (w.alloc (.cells A t)) (.cells B u)
    rwa [World.size_alloc] at this
theorem cells4 {W : World} {b : Nat} {v0 v1 v2 v3 : Value} {t : TypeId} {fz : Nat × Nat} (h : W.heap[b]? = some (.cells #[v0, v1, v2, v3] t fz)) :
    W.cell? ⟨b, 0, none⟩ = some v0 ∧ W.cell? ⟨b, 1, none⟩ = some v1 ∧ W.cell? ⟨b, 2, none⟩ = some v2 ∧ W.cell? ⟨b, 3, none⟩ = some v3 := by
  simp [World.cell?, h]
theorem keep2 {w wr w2 : World} {A B : Array Value} {t u : TypeId} (h : wr.heap[w.heap.size]? = some (.cells A t (0, 0)) ∧ wr.heap[w.heap.size + 1]? = some (.cells B u (0, 0)) ∧ Below w.heap.size w wr) (hb : Below wr.heap.size wr w2) :
    w2.heap[w.heap.size]? = some (.cells A t (0, 0)) ∧ w2.heap[w.heap.size + 1]? = some (.cells B u (0, 0)) ∧ Below w.heap.size w w2 :=
  ⟨(hb.block _ (Array.getElem?_eq_some_iff.1 h.1).1).trans h.1, (hb.block _ (Array.getElem?_eq_some_iff.1 h.2.1).1).trans h.2.1, h.2.2.step hb⟩
theorem get_set {w wr w2 : World} {A B : Array Value} {t u : TypeId} {j : Nat} (h : wr.heap[w.heap.size]? = some (.cells A t (0, 0)) ∧ wr.heap[w.heap.size + 1]? = some (.cells B u (0, 0)) ∧ Below w.heap.size w wr) (hb : Below wr.heap.size wr w2) (v : Value) :
    w2.cell? ⟨w.heap.size + 1, j, none⟩ = B[j]? ∧ w2.frozen? ⟨w.heap.size + 1, j, none⟩ = false ∧
    ((w2.setCell ⟨w.heap.size + 1, j, none⟩ v).heap[w.heap.size]? = some (.cells A t (0, 0)) ∧ (w2.setCell ⟨w.heap.size + 1, j, none⟩ v).heap[w.heap.size + 1]? = some (.cells (B.setIfInBounds j v) u (0, 0)) ∧ Below w.heap.size w (w2.setCell ⟨w.heap.size + 1, j, none⟩ v)) := by
  obtain ⟨h1, h2, h3⟩ := keep2 h hb
  refine ⟨by simp [World.cell?, h2], by simp [World.frozen?, h2], (Below.heap_setCell _ _ _ _ (by simp)).trans h1, heap_set h2 v, h3.setCell (by simp) v⟩
def five (m : Mst) : Array Value := #[.int .u64 m.count, .int .u64 m.life, .int .u64 m.check, .int .u64 m.first, .bool m.clean]
theorem after_enc {w w2 w3 : World} {A B : Array Value} {t u : TypeId} (h : w2.heap[w.heap.size]? = some (.cells A t (0, 0)) ∧ w2.heap[w.heap.size + 1]? = some (.cells B u (0, 0)) ∧ Below w.heap.size w w2) (C : Array Value) (v : TypeId) (hb : Below (w2.alloc (.cells C v)).heap.size (w2.alloc (.cells C v)) w3) :
    w3.heap[w.heap.size]? = some (.cells A t (0, 0)) ∧ w3.heap[w2.heap.size]? = some (.cells C v (0, 0)) ∧ Below w.heap.size w w3 := by
  have hl := (Array.getElem?_eq_some_iff.1 h.1).1
  refine ⟨(hb.block _ (by rw [World.size_alloc]; omega)).trans ((Below.heap_alloc _ _ _ hl).trans h.1), (hb.block _ (by rw [World.size_alloc]; omega)).trans (heap_alloc_new w2 _), (h.2.2.alloc (by omega) _).step hb⟩
theorem load_mst (W : World) (h : Nat) (m : Mst) (t : TypeId) (hW : W.heap[h]? = some (.cells (five m) t (0, 0))) : (loadVar 24 ⟨h, 0, none⟩).run Try.prog W = .ok (mv m) W := by
  have hc := cells5 hW
  refine run_loadVar_mid (P := Try.prog) W h 0 24 (five m).toList _ ?_ Try.underlying24 rfl (by kernel_rfl)
  intro j v hv
  have hj : j < 5 := (List.getElem?_eq_some_iff.1 hv).1
  have : j = 0 ∨ j = 1 ∨ j = 2 ∨ j = 3 ∨ j = 4 := by omega
  rcases this with rfl | rfl | rfl | rfl | rfl <;> simp [five] at hv <;> subst hv <;> simp [hc]
theorem res_mst {fn : Func} {m : Mst} {p u : Tmp} (hr : fn.results = #[.cell p 24, .tmp u]) (tmps : Array Value) (W : World) (h : Nat) {t : TypeId} {x : Value} (hp : tmps.getD p undef = .pointer (some ⟨h, 0, none⟩)) (hx : tmps.getD u undef = x) (hW : W.heap[h]? = some (.cells (five m) t (0, 0))) :
    (results fn tmps).run Try.prog W = .ok (.tuple #[mv m, x]) W := by
  rw [results_cell_tmp hr, hp, hx]
  simp only [asAddr, Sem.run_pure, Result.andThen_ok, load_mst W h m t hW]
set_option maxHeartbeats 4000000 in
theorem mdec_any (s : ByteArray) (hs : s.size ≤ maxLen) (w : World) : Calls Try.prog 10 #[.string s] w fun e w' => e = .returned (.tuple #[mv (PMst.dec s.data.toList).1, .int .i64 (PMst.dec s.data.toList).2]) ∧ Below w.heap.size w w' := by
  obtain ⟨G, hG⟩ : ∃ G, PMst.got s.data.toList = G := ⟨_, rfl⟩
  have HOK : Hid G.Ok := Lib.hid (by rw [← hG]; exact PMst.got_ok _)
  have G0 : Hid ((PWord.get s.data.toList 1 8).1 = G.count) := Lib.hid (by rw [← hG]; rfl)
  have G1 : Hid ((PWord.get s.data.toList 9 8).1 = G.life) := Lib.hid (by rw [← hG]; rfl)
  have G2 : Hid ((PWord.get s.data.toList 17 8).1 = G.check) := Lib.hid (by rw [← hG]; rfl)
  have G3 : Hid ((PWord.get s.data.toList 25 8).1 = G.first) := Lib.hid (by rw [← hG]; rfl)
  have G4 : Hid ((((PWord.get s.data.toList 33 1).1 : Int) == 1) = G.clean) := Lib.hid (by rw [← hG]; unfold PMst.got; dsimp only; rw [Bool.eq_iff_iff]; simp; omega)
  have HME := Lib.hid (menc_any G HOK.out)
  unfold mv at HME
  have HD : Hid (PMst.dec s.data.toList = if PMst.may G && decide (PMst.enc G = s.data.toList) then (G, 0) else (PMst.zero, 7)) := Lib.hid (by unfold PMst.dec PMst.good; rw [hG])
  clear hG
  go_enter Try.func10, Try.ntmps10
  go_wp2
  go_loopw [11] (fun iv wr => ∃ k : Nat, k ≤ 4 ∧ iv = .int .i64 k ∧ Hid (wr.heap[w.heap.size]? = some (.cells zM 24 (0, 0)) ∧ wr.heap[w.heap.size + 1]? = some (.cells (gotA G k) 50 (0, 0)) ∧ Below w.heap.size w wr)) (fun iv _ => 4 - (intOf iv).toNat)
  case atStart => exact ⟨0, by omega, rfl, Lib.hid (made2 w _ _ _ _)⟩
  case round =>
    obtain ⟨k, hk, rfl, HR⟩ := hrel
    have hcase : k = 0 ∨ k = 1 ∨ k = 2 ∨ k = 3 ∨ k = 4 := by omega
    rcases hcase with rfl | rfl | rfl | rfl | rfl
    · go_wp2_with fail
      refine (get_any s 1 8 hs _).mono ?_
      rintro e w2 ⟨rfl, hb⟩
      rw [G0.out]
      generalize (PWord.get s.data.toList 1 8).2 = ok
      have HS := Lib.hid (get_set (j := 0) HR.out hb (.int .u64 G.count))
      have hcc := HS.out.1
      have hcf := HS.out.2.1
      clear hb
      go_wp2
      exact ⟨⟨1, by omega, by go_num, Lib.hid HS.out.2.2⟩, by simp [intOf]⟩
    · go_wp2_with fail
      refine (get_any s 9 8 hs _).mono ?_
      rintro e w2 ⟨rfl, hb⟩
      rw [G1.out]
      generalize (PWord.get s.data.toList 9 8).2 = ok
      have HS := Lib.hid (get_set (j := 1) HR.out hb (.int .u64 G.life))
      have hcc := HS.out.1
      have hcf := HS.out.2.1
      clear hb
      go_wp2
      exact ⟨⟨2, by omega, by go_num, Lib.hid HS.out.2.2⟩, by simp [intOf]⟩
    · go_wp2_with fail
      refine (get_any s 17 8 hs _).mono ?_
      rintro e w2 ⟨rfl, hb⟩
      rw [G2.out]
      generalize (PWord.get s.data.toList 17 8).2 = ok
      have HS := Lib.hid (get_set (j := 2) HR.out hb (.int .u64 G.check))
      have hcc := HS.out.1
      have hcf := HS.out.2.1
      clear hb
      go_wp2
      exact ⟨⟨3, by omega, by go_num, Lib.hid HS.out.2.2⟩, by simp [intOf]⟩
    · go_wp2_with fail
      refine (get_any s 25 8 hs _).mono ?_
      rintro e w2 ⟨rfl, hb⟩
      rw [G3.out]
      generalize (PWord.get s.data.toList 25 8).2 = ok
      have HS := Lib.hid (get_set (j := 3) HR.out hb (.int .u64 G.first))
      have hcc := HS.out.1
      have hcf := HS.out.2.1
      clear hb
      go_wp2
      exact ⟨⟨4, by omega, by go_num, Lib.hid HS.out.2.2⟩, by simp [intOf]⟩
    · go_wp2_with fail
      refine (get_any s 33 1 hs _).mono ?_
      rintro e w2 ⟨rfl, hb⟩
      have HS := Lib.hid (keep2 HR.out hb)
      have hg4 := G4.out
      generalize (PWord.get s.data.toList 33 1).1 = fl at *
      generalize (PWord.get s.data.toList 33 1).2 = ok at *
      obtain ⟨d0, d1, d2, d3⟩ := cells4 HS.out.2.1
      clear hb
      go_wp2_with fail
      refine (HME.out _).mono ?_
      rintro e w3 ⟨rfl, hb⟩
      have H3 := Lib.hid (after_enc HS.out (five G) 24 hb)
      have HZ := Lib.hid H3.out.1
      have HF := Lib.hid H3.out.2.1
      clear hb d0 d1 d2 d3 hg4
      have HI : Hid ((Try.prog.info? 24).map (·.size) = some zM.size) := Lib.hid (by kernel_rfl)
      have HI2 : Hid ((Try.prog.info? 24).map (·.size) = some (five G).size) := Lib.hid (by kernel_rfl)
      have HZ1 : Hid (zM.all (·.oneCell') = true) := Lib.hid (by simp [zM, Value.oneCell'])
      have HZS : Hid (zM.size = (five G).size) := Lib.hid rfl
      have H1 : Hid ((five G).all (·.oneCell') = true) := Lib.hid (by simp [five, Value.oneCell'])
      cases hmay : PMst.may G
      · have HEQ : Hid (PMst.dec s.data.toList = (PMst.zero, 7)) := Lib.hid (by rw [HD.out, hmay]; rfl)
        have he : PMst.err G = 2 := (by unfold PMst.err; rw [hmay]; rfl)
        rw [he]
        clear he hmay
        go_wp2_with ((with_reducible refine wpList_row_same rfl 24 (.tmp 2) (.tmp 53) rfl w.heap.size 24 zM ?_ ?_ HZ.out HI.out HZ1.out ?_); (· rfl); (· rfl))
        (try simp only [Exit.inBlock, Exit.then])
        refine bodyPost_ret (v := .tuple #[mv PMst.zero, .int .i64 7]) ?_ ?_ ?_
        · exact res_mst (m := PMst.zero) rfl _ _ w.heap.size rfl rfl HZ.out
        · rfl
        · exact ⟨by rw [HEQ.out], H3.out.2.2⟩
      · have he : PMst.err G = 0 := (by unfold PMst.err; rw [if_pos hmay])
        rw [he]
        clear he
        by_cases hen : PMst.enc G = s.data.toList
        · have HEQ : Hid (PMst.dec s.data.toList = (G, 0)) := Lib.hid (by rw [HD.out]; simp [hmay, hen])
          have hts : (⟨(PMst.enc G).toArray⟩ : ByteArray) = s := by rw [hen]
          rw [hts]
          clear hts hen hmay
          obtain ⟨e0, e1, e2, e3, e4⟩ := cells5 HF.out
          go_wp2_with ((with_reducible refine wpList_row_put rfl 24 (.tmp 2) (.tmp 54) rfl w.heap.size 24 zM (five G) ?_ ?_ HZ.out HI2.out HZS.out H1.out ?_); (· rfl); (· rfl))
          (try simp only [Exit.inBlock, Exit.then])
          refine bodyPost_ret (v := .tuple #[mv G, .int .i64 0]) ?_ ?_ ?_
          · exact res_mst (m := G) rfl _ _ w.heap.size rfl rfl (setRow_heap _ _ _ _ _ _ HZ.out)
          · rfl
          · exact ⟨by rw [HEQ.out], below_setRow H3.out.2.2 (Nat.le_refl _) _⟩
        · have HEQ : Hid (PMst.dec s.data.toList = (PMst.zero, 7)) := Lib.hid (by rw [HD.out, hmay]; simp [hen])
          obtain ⟨t, ht⟩ : ∃ t, (⟨(PMst.enc G).toArray⟩ : ByteArray) = t := ⟨_, rfl⟩
          have hts : (t.toList == s.toList) = false := by
            rw [beq_eq_false_iff_ne, bytes_eq, bytes_eq, ← ht]
            exact hen
          rw [ht]
          clear ht hen hmay
          go_wp2_with ((with_reducible refine wpList_row_same rfl 24 (.tmp 2) (.tmp 53) rfl w.heap.size 24 zM ?_ ?_ HZ.out HI.out HZ1.out ?_); (· rfl); (· rfl))
          (try simp only [Exit.inBlock, Exit.then])
          refine bodyPost_ret (v := .tuple #[mv PMst.zero, .int .i64 7]) ?_ ?_ ?_
          · exact res_mst (m := PMst.zero) rfl _ _ w.heap.size rfl rfl HZ.out
          · rfl
          · exact ⟨by rw [HEQ.out], H3.out.2.2⟩
end Go.Proofs.Ytmbialiledjigaa
