/-
  Masters: Decode of the document.
-/
import Derived.Test.YtmbialiledjigaaMst4
import Derived.Deep.DeepCutAuto
namespace Go.Proofs.Ytmbialiledjigaa
open Go.RowKit
open PMst (Mst)
theorem dec_none {s : List UInt8} (h : s.length ≠ 128) : PMst.dec s = (PMst.zero, 7) := by
  unfold PMst.dec
  cases hg : PMst.good s
  · rfl
  · exact absurd (PMst.good_length hg) h
theorem byte_at (s : ByteArray) (h : 33 < s.size) : (PWord.get s.data.toList 33 1).1 = s[33].toNat := by
  unfold PWord.get PWord.inside
  have hl : s.data.toList.length = s.size := by simp
  rw [hl]
  have : (decide ((0 : Int) ≤ 33) && decide ((0 : Int) ≤ 1) && decide ((33 : Int) + 1 ≤ (s.size : Int)) && decide ((1 : Int) ≤ 1) && decide ((1 : Int) ≤ 8)) = true := by simp; omega
  rw [this, if_pos rfl]
  show PWord.val ((s.data.toList.drop 33).take 1) = _
  have e : (s.data.toList.drop 33).take 1 = [s[33]] := by
    rw [List.take_one, List.head?_drop]
    have : s.data.toList[33]? = some s[33] := by rw [List.getElem?_eq_getElem (by omega)]; rfl
    rw [this]; rfl
  rw [e]
  simp [PWord.val]
set_option maxHeartbeats 4000000 in
theorem rdec_any (s : ByteArray) (hs : s.size ≤ maxLen) (w : World) : Calls Try.prog 11 #[.string s] w fun e w' => e = .returned (.tuple #[mv (PMst.dec s.data.toList).1, .int .i64 (PMst.dec s.data.toList).2]) ∧ Below w.heap.size w w' := by
  unfold maxLen at hs
  have HI : Hid ((Try.prog.info? 24).map (·.size) = some zM.size) := Lib.hid (by kernel_rfl)
  have HZ1 : Hid (zM.all (·.oneCell') = true) := Lib.hid (by simp [zM, Value.oneCell'])
  by_cases hl : s.size = 128
  · obtain ⟨G, hG⟩ : ∃ G, PMst.got s.data.toList = G := ⟨_, rfl⟩
    have HOK : Hid G.Ok := Lib.hid (by rw [← hG]; exact PMst.got_ok _)
    have G0 : Hid ((PWord.get s.data.toList 1 8).1 = G.count) := Lib.hid (by rw [← hG]; rfl)
    have G1 : Hid ((PWord.get s.data.toList 9 8).1 = G.life) := Lib.hid (by rw [← hG]; rfl)
    have G2 : Hid ((PWord.get s.data.toList 17 8).1 = G.check) := Lib.hid (by rw [← hG]; rfl)
    have G3 : Hid ((PWord.get s.data.toList 25 8).1 = G.first) := Lib.hid (by rw [← hG]; rfl)
    have hix : 33 < s.size := by omega
    have H0 : Hid (∀ w, Calls Try.prog 27 #[.string s, .int .i64 1] w fun e w' => e = .returned (.int .u64 (G.count : Int)) ∧ w = w') := Lib.hid fun w => by rw [← G0.out]; exact rget12_any s 1 hs w
    have H1 : Hid (∀ w, Calls Try.prog 27 #[.string s, .int .i64 9] w fun e w' => e = .returned (.int .u64 (G.life : Int)) ∧ w = w') := Lib.hid fun w => by rw [← G1.out]; exact rget12_any s 9 hs w
    have H2 : Hid (∀ w, Calls Try.prog 27 #[.string s, .int .i64 17] w fun e w' => e = .returned (.int .u64 (G.check : Int)) ∧ w = w') := Lib.hid fun w => by rw [← G2.out]; exact rget12_any s 17 hs w
    have H3 : Hid (∀ w, Calls Try.prog 27 #[.string s, .int .i64 25] w fun e w' => e = .returned (.int .u64 (G.first : Int)) ∧ w = w') := Lib.hid fun w => by rw [← G3.out]; exact rget12_any s 25 hs w
    have hg4 : (((s[33]'hix).toNat : Int) == 1) = G.clean := (by rw [← hG]; unfold PMst.got; dsimp only; rw [byte_at s hix, Bool.eq_iff_iff]; simp; omega)
    have HME := Lib.hid (renc_any G HOK.out)
    unfold mv at HME
    have HD : Hid (PMst.dec s.data.toList = if PMst.may G && decide (PMst.enc G = s.data.toList) then (G, 0) else (PMst.zero, 7)) := Lib.hid (by unfold PMst.dec PMst.good; rw [hG])
    have hl2 : (s.size : Int) = 128 := by omega
    clear hG hl
    go_enter Try.func11, Try.ntmps11
    go_upto_region 3 with fail
    go_cut [4] (fun s4 wx => s4 = .pointer (some ⟨w.heap.size + 1, 0, none⟩) ∧ wx = ((w.alloc (.cells zM 24)).alloc (.cells (five G) 24)).drew)
    case first =>
      go_region_held3 (fun w' => w.heap.size + 1 ≤ w'.heap.size) (first | assumption | (simp; done) | (simp; omega)) (first
        | (go_at_call 27; ((with_reducible refine (H0.out _).mono ?_); rintro e w1 ⟨rfl, rfl⟩))
        | (go_at_call 27; ((with_reducible refine (H1.out _).mono ?_); rintro e w1 ⟨rfl, rfl⟩))
        | (go_at_call 27; ((with_reducible refine (H2.out _).mono ?_); rintro e w1 ⟨rfl, rfl⟩))
        | (go_at_call 27; ((with_reducible refine (H3.out _).mono ?_); rintro e w1 ⟨rfl, rfl⟩)))
      all_goals (go_wp2_with fail; go_meet; exact ⟨rfl, rfl⟩)
    case rest =>
      obtain ⟨rfl, rfl⟩ := hcut
      have hM := made2 w zM (five G) 24 24
      have hM2 : ((w.alloc (.cells zM 24)).alloc (.cells (five G) 24)).drew.heap[w.heap.size]? = some (.cells zM 24 (0, 0)) ∧ ((w.alloc (.cells zM 24)).alloc (.cells (five G) 24)).drew.heap[w.heap.size + 1]? = some (.cells (five G) 24 (0, 0)) ∧ Below w.heap.size w ((w.alloc (.cells zM 24)).alloc (.cells (five G) 24)).drew := ⟨hM.1, hM.2.1, hM.2.2.drew⟩
      clear hM
      generalize ((w.alloc (.cells zM 24)).alloc (.cells (five G) 24)).drew = wr at *
      have HR := Lib.hid hM2
      obtain ⟨c0, c1, c2, c3, c4⟩ := cells5 hM2.2.1
      clear hM2 H0 H1 H2 H3 G0 G1 G2 G3 hg4
      have HI2 : Hid ((Try.prog.info? 24).map (·.size) = some (five G).size) := Lib.hid (by kernel_rfl)
      have HZS : Hid (zM.size = (five G).size) := Lib.hid rfl
      have H1 : Hid ((five G).all (·.oneCell') = true) := Lib.hid (by simp [five, Value.oneCell'])
      go_wp2_with fail
      refine (HME.out _).mono ?_
      rintro e w3 ⟨rfl, hb⟩
      have H3 := Lib.hid (keep2 HR.out hb)
      have HZ := Lib.hid H3.out.1
      have HF := Lib.hid H3.out.2.1
      clear hb c0 c1 c2 c3 c4
      have hsplit : (PMst.may G = true ∧ PMst.enc G = s.data.toList) ∨ ¬ (PMst.may G = true ∧ PMst.enc G = s.data.toList) := Classical.em _
      rcases hsplit with ⟨hmay, hen⟩ | hno
      · have HEQ : Hid (PMst.dec s.data.toList = (G, 0)) := Lib.hid (by rw [HD.out]; simp [hmay, hen])
        have hts : (⟨(PMst.enc G).toArray⟩ : ByteArray) = s := by rw [hen]
        rw [hts]
        clear hts hen hmay
        obtain ⟨e0, e1, e2, e3, e4⟩ := cells5 HF.out
        go_wp2_with ((with_reducible refine wpList_row_put rfl 24 (.tmp 2) (.tmp 26) rfl w.heap.size 24 zM (five G) ?_ ?_ HZ.out HI2.out HZS.out H1.out ?_); (· rfl); (· rfl))
        (try simp only [Exit.inBlock, Exit.then])
        refine bodyPost_ret (v := .tuple #[mv G, .int .i64 0]) ?_ ?_ ?_
        · exact res_mst (m := G) rfl _ _ w.heap.size rfl rfl (setRow_heap _ _ _ _ _ _ HZ.out)
        · rfl
        · exact ⟨by rw [HEQ.out], below_setRow H3.out.2.2 (Nat.le_refl _) _⟩
      · have HEQ : Hid (PMst.dec s.data.toList = (PMst.zero, 7)) := Lib.hid (by
          rw [HD.out]
          rw [if_neg]
          simpa using hno)
        have hen : ¬ PMst.enc G = s.data.toList := fun h => hno ⟨by
          cases hm : PMst.may G
          · rw [PMst.enc_nil hm] at h
            have := congrArg List.length h
            simp at this; omega
          · rfl, h⟩
        obtain ⟨t, ht⟩ : ∃ t, (⟨(PMst.enc G).toArray⟩ : ByteArray) = t := ⟨_, rfl⟩
        have hts : (t.toList == s.toList) = false := by
          rw [beq_eq_false_iff_ne, bytes_eq, bytes_eq, ← ht]
          exact hen
        rw [ht]
        clear ht hen hno
        go_wp2_with ((with_reducible refine wpList_row_same rfl 24 (.tmp 2) (.tmp 25) rfl w.heap.size 24 zM ?_ ?_ HZ.out HI.out HZ1.out ?_); (· rfl); (· rfl))
        (try simp only [Exit.inBlock, Exit.then])
        refine bodyPost_ret (v := .tuple #[mv PMst.zero, .int .i64 7]) ?_ ?_ ?_
        · exact res_mst (m := PMst.zero) rfl _ _ w.heap.size rfl rfl HZ.out
        · rfl
        · exact ⟨by rw [HEQ.out], H3.out.2.2⟩
  · have HEQ := Lib.hid (dec_none (s := s.data.toList) (by simpa using hl))
    have hl2 : ((s.size : Int) == 128) = false := by simp; omega
    clear hl
    go_enter Try.func11, Try.ntmps11
    have HZ := Lib.hid (heap_alloc_new w (.cells zM 24))
    go_wp2_with ((with_reducible refine wpList_row_same rfl 24 (.tmp 2) (.tmp 8) rfl w.heap.size 24 zM ?_ ?_ HZ.out HI.out HZ1.out ?_); (· rfl); (· rfl))
    (try simp only [Exit.inBlock, Exit.then])
    refine bodyPost_ret (v := .tuple #[mv PMst.zero, .int .i64 7]) ?_ ?_ ?_
    · exact res_mst (m := PMst.zero) rfl _ _ w.heap.size rfl rfl HZ.out
    · rfl
    · exact ⟨by rw [HEQ.out], (Below.refl _ _).alloc (Nat.le_refl _) _⟩
end Go.Proofs.Ytmbialiledjigaa
