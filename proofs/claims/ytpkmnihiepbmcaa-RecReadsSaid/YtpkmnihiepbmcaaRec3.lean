/-
  Records: bytes of the program.
-/
import Derived.Test.YtpkmnihiepbmcaaRec2
import Derived.Deep.DeepCutAuto
import Derived.Deep.CutRange
namespace Go.Proofs.Ytpkmnihiepbmcaa
open Go.RowKit
open PRec (Rec Drt Atx)
theorem box12 {W : World} {b : Nat} {v0 v1 v2 v3 v4 v5 v6 v7 v8 v9 v10 v11 : Value} {t : TypeId} {fz : Nat × Nat} (h : W.heap[b]? = some (.cells #[v0, v1, v2, v3, v4, v5, v6, v7, v8, v9, v10, v11] t fz)) :
    W.cell? ⟨b, 0, none⟩ = some v0 ∧ W.cell? ⟨b, 1, none⟩ = some v1 ∧ W.cell? ⟨b, 2, none⟩ = some v2 ∧ W.cell? ⟨b, 3, none⟩ = some v3 ∧ W.cell? ⟨b, 4, none⟩ = some v4 ∧ W.cell? ⟨b, 5, none⟩ = some v5 ∧ W.cell? ⟨b, 6, none⟩ = some v6 ∧ W.cell? ⟨b, 7, none⟩ = some v7 ∧ W.cell? ⟨b, 8, none⟩ = some v8 ∧ W.cell? ⟨b, 9, none⟩ = some v9 ∧ W.cell? ⟨b, 10, none⟩ = some v10 ∧ W.cell? ⟨b, 11, none⟩ = some v11 := by
  simp [World.cell?, h]
theorem ret_sb2 {a b : ByteArray} {x y : Bool} (h : a = b) (h2 : x = y) : Ending.returned (.tuple #[.string a, .bool x]) = .returned (.tuple #[.string b, .bool y]) := by rw [h, h2]
attribute [local go_sem] PWord.be_length
set_option maxRecDepth 20000 in
set_option maxHeartbeats 8000000 in
theorem bytes_any (r : Rec) (hok : r.Ok) (hDl : r.dirty.length ≤ 1000) (hTl : r.txns.length ≤ 1000) (hBl : r.body.length ≤ 1000000) (vd vt : Value) (w : World) (h : RecIn w r vd vt) : Calls Try.prog 19 #[rv r vd vt] w fun e w' => e = .returned (.tuple #[.string ⟨(PRec.bytes r).1.toArray⟩, .bool (PRec.bytes r).2]) ∧ Below w.heap.size w w' := by
  have HIN := Lib.hid h
  have HTA := Lib.hid (fun W (hW : RecIn W r vd vt) => tables_any r hok hDl hTl vd vt W hW)
  have HFI := Lib.hid (fun W (hW : RecIn W r vd vt) => fits_any r hok vd vt W hW)
  obtain ⟨pd, cd, rfl, hd1, hd2⟩ := h.1.form
  obtain ⟨pt, ct, rfl, ht1, ht2⟩ := h.2.form
  obtain ⟨o0, o1, o2, o3, o4, o5, o6, _, _, o10, o11⟩ := hok
  clear h
  unfold maxLen at hd2 ht2
  unfold rv
  have hN : ((w.alloc (.cells #[.int .u8 r.kind, .int .u64 r.tx, .int .u64 r.prev, .int .u32 r.page, .int .u16 r.slot, .int .u64 r.next, .int .u64 r.number, .string ⟨r.body.toArray⟩, .slice pd r.dirty.length cd, .slice pt r.txns.length ct, .int .u64 r.ttx, .int .u64 r.tnum] 32))).heap[w.heap.size]? = some (.cells #[.int .u8 r.kind, .int .u64 r.tx, .int .u64 r.prev, .int .u32 r.page, .int .u16 r.slot, .int .u64 r.next, .int .u64 r.number, .string ⟨r.body.toArray⟩, .slice pd r.dirty.length cd, .slice pt r.txns.length ct, .int .u64 r.ttx, .int .u64 r.tnum] 32 (0, 0)) := heap_alloc_new w _
  have HB := Lib.hid (((Below.refl w.heap.size w).alloc (Nat.le_refl _) (.cells #[.int .u8 r.kind, .int .u64 r.tx, .int .u64 r.prev, .int .u32 r.page, .int .u16 r.slot, .int .u64 r.next, .int .u64 r.number, .string ⟨r.body.toArray⟩, .slice pd r.dirty.length cd, .slice pt r.txns.length ct, .int .u64 r.ttx, .int .u64 r.tnum] 32)))
  obtain ⟨c0, c1, c2, c3, c4, c5, c6, c7, c8, c9, c10, c11⟩ := box12 hN
  have HN := Lib.hid hN
  clear hN
  go_enter Try.func19, Try.ntmps19
  go_upto_region 1 with fail
  generalize hw1 : w.alloc (.cells #[.int .u8 r.kind, .int .u64 r.tx, .int .u64 r.prev, .int .u32 r.page, .int .u16 r.slot, .int .u64 r.next, .int .u64 r.number, .string ⟨r.body.toArray⟩, .slice pd r.dirty.length cd, .slice pt r.txns.length ct, .int .u64 r.ttx, .int .u64 r.tnum] 32) = w1 at *
  clear hw1
  go_cut [0, 4] (fun s0 s4 wx => s4 = .bool (PRec.check r) ∧ wx = w1)
  case first =>
    by_cases h7 : r.kind = 7
    · have k7 : ((r.kind : Int) == 7) = true := by simp; omega
      go_wp2_with fail
      go_meet
      exact ⟨by simp [PRec.check, h7], rfl⟩
    · have k7 : ((r.kind : Int) == 7) = false := by simp; omega
      by_cases h8 : r.kind = 8
      · have k8 : ((r.kind : Int) == 8) = true := by simp; omega
        clear h7
        go_wp2_with fail
        go_meet
        exact ⟨by simp [PRec.check, h8], rfl⟩
      · have k8 : ((r.kind : Int) == 8) = false := by simp; omega
        clear h7
        have HR : Hid (PRec.check r = false) := Lib.hid (by unfold PRec.check; simp at k7; simp; omega)
        clear h8
        go_wp2_with fail
        go_meet
        exact ⟨by rw [HR.out], rfl⟩
  case rest =>
    obtain ⟨rfl, e1⟩ := hcut
    replace e1 := e1.symm
    subst e1
    go_upto_region 3 with fail
    go_cut [4, 5, 40] (fun s4 s5 s40 wx => s40 = .bool (!(PRec.whose r)) ∧ wx = w1)
    case first =>
      by_cases htx : r.tx = 0
      · have z1 : ((r.tx : Int) == 0) = true := by simp; omega
        by_cases hpv : r.prev = 0
        · have z2 : ((r.prev : Int) != 0) = false := by simp; omega
          cases hc : PRec.check r
          · by_cases h6 : r.kind = 6
            · have z3 : ((r.kind : Int) != 6) = false := by simp; omega
              have HW : Hid (PRec.whose r = true) := Lib.hid (by unfold PRec.whose PRec.nobody; rw [hc]; simp [htx, hpv, h6])
              clear htx hpv hc h6
              go_wp2_with fail
              go_meet
              exact ⟨by rw [HW.out]; rfl, rfl⟩
            · have z3 : ((r.kind : Int) != 6) = true := by simp; omega
              have HW : Hid (PRec.whose r = false) := Lib.hid (by unfold PRec.whose PRec.nobody; rw [hc]; simp [htx, hpv, h6])
              clear htx hpv hc h6
              go_wp2_with fail
              go_meet
              exact ⟨by rw [HW.out]; rfl, rfl⟩
          · have HW : Hid (PRec.whose r = true) := Lib.hid (by unfold PRec.whose PRec.nobody; rw [hc]; simp [htx, hpv])
            clear htx hpv hc
            go_wp2_with fail
            go_meet
            exact ⟨by rw [HW.out]; rfl, rfl⟩
        · have z2 : ((r.prev : Int) != 0) = true := by simp; omega
          have HW : Hid (PRec.whose r = false) := Lib.hid (by unfold PRec.whose PRec.nobody; simp [htx, hpv])
          clear htx hpv
          cases hc : PRec.check r <;> clear hc
          all_goals (go_wp2_with fail; go_meet; exact ⟨by rw [HW.out]; rfl, rfl⟩)
      · have z1 : ((r.tx : Int) == 0) = false := by simp; omega
        cases hc : PRec.check r
        · have HW : Hid (PRec.whose r = true) := Lib.hid (by unfold PRec.whose PRec.nobody; rw [hc]; simp [htx])
          clear htx hc
          go_wp2_with fail
          go_meet
          exact ⟨by rw [HW.out]; rfl, rfl⟩
        · have HW : Hid (PRec.whose r = false) := Lib.hid (by unfold PRec.whose PRec.nobody; rw [hc]; simp [htx])
          clear htx hc
          go_wp2_with fail
          go_meet
          exact ⟨by rw [HW.out]; rfl, rfl⟩
    case rest =>
      obtain ⟨rfl, e1⟩ := hcut
      replace e1 := e1.symm
      subst e1
      cases hw : PRec.whose r
      · have HBY : Hid (PRec.bytes r = ([], false)) := Lib.hid (by unfold PRec.bytes; rw [hw]; rfl)
        clear hw
        go_wp2
        go_ret2
        exact ⟨ret_sb2 (by rw [HBY.out]) (by rw [HBY.out]), HB.out⟩
      · clear c3 c4 c5 c6 c7 c8 c9 c10 c11
        have HWH := Lib.hid hw
        clear hw
        have hwk : IntKind.u64.wrap (r.kind : Int) = r.kind := by rw [IntKind.wrap_u64]; omega
        have hwp : IntKind.u64.wrap (r.page : Int) = r.page := by rw [IntKind.wrap_u64]; omega
        have hws : IntKind.u64.wrap (r.slot : Int) = r.slot := by rw [IntKind.wrap_u64]; omega
        have hN : w1.drew.heap[w.heap.size]? = some (.cells #[.int .u8 r.kind, .int .u64 r.tx, .int .u64 r.prev, .int .u32 r.page, .int .u16 r.slot, .int .u64 r.next, .int .u64 r.number, .string ⟨r.body.toArray⟩, .slice pd r.dirty.length cd, .slice pt r.txns.length ct, .int .u64 r.ttx, .int .u64 r.tnum] 32 (0, 0)) := HN.out
        replace HB := Lib.hid HB.out.drew
        go_upto_region 5 with fail
        go_cut [6] (fun s6 wx => ∃ t : ByteArray, s6 = .string t ∧ t.size = 17 ∧ Hid (t = ⟨(PRec.head r).toArray⟩) ∧ Hid (Below w.heap.size w wx ∧ wx.heap[w.heap.size]? = some (.cells #[.int .u8 r.kind, .int .u64 r.tx, .int .u64 r.prev, .int .u32 r.page, .int .u16 r.slot, .int .u64 r.next, .int .u64 r.number, .string ⟨r.body.toArray⟩, .slice pd r.dirty.length cd, .slice pt r.txns.length ct, .int .u64 r.ttx, .int .u64 r.tnum] 32 (0, 0))))
        case first =>
          go_region_held3 (fun w' => w'.cell? ⟨w.heap.size, 0, none⟩ = some (.int .u8 r.kind) ∧ w'.cell? ⟨w.heap.size, 1, none⟩ = some (.int .u64 r.tx) ∧ w'.cell? ⟨w.heap.size, 2, none⟩ = some (.int .u64 r.prev))
            (first | exact ⟨(box12 hN).1, (box12 hN).2.1, (box12 hN).2.2.1⟩ | go_keep)
            (first
              | (go_at_call 32; (first | with_reducible refine (put9_8 r.tx o1 _).mono ?_ | with_reducible refine (put9_8 r.prev o2 _).mono ?_ | with_reducible refine (put9_1 r.kind o0 _).mono ?_); rintro e w2 ⟨rfl, hb⟩; have hlt2 := (Array.getElem?_eq_some_iff.1 hN).1; replace hN := (hb.block _ hlt2).trans hN; replace HB := Lib.hid (HB.out.step hb); clear hb hlt2))
          have HN2 := Lib.hid hN
          clear hN
          go_wp2_with fail
          go_meet
          refine ⟨_, rfl, ?_, Lib.hid ?_, Lib.hid ⟨HB.out, HN2.out⟩⟩
          · rw [app_l (PWord.be 1 r.kind) (PWord.be 8 r.tx), size_app, size_mk]; simp [PWord.be_length]
          · rw [app_l (PWord.be 1 r.kind) (PWord.be 8 r.tx), app_l]; rfl
        case rest =>
          clear c0 c1 c2 HB HN hN
          obtain ⟨t, rfl, ht, HT, HW⟩ := hcut
          obtain ⟨w2, hw2⟩ : ∃ x, x = wc := ⟨_, rfl⟩
          subst hw2
          obtain ⟨c0, c1, c2, c3, c4, c5, c6, c7, c8, c9, c10, c11⟩ := box12 HW.out.2
          go_upto_region 6 with fail
          go_cut [7] (fun s7 wx => s7 = .bool (PRec.bodyOk r) ∧ wx = w2)
          case first =>
            by_cases h1 : 1 ≤ r.body.length
            · have y1 : (1 : Int) ≤ r.body.length := by omega
              have HR : Hid (PRec.bodyOk r = decide ((r.body.length : Int) ≤ 3072)) := Lib.hid (by unfold PRec.bodyOk; simp only [h1, decide_true, Bool.true_and]; rw [Bool.eq_iff_iff]; simp; omega)
              go_wp2_with fail
              go_meet
              exact ⟨by rw [HR.out], rfl⟩
            · have y1 : ¬ (1 : Int) ≤ r.body.length := by omega
              have HR : Hid (PRec.bodyOk r = false) := Lib.hid (by unfold PRec.bodyOk; simp [h1])
              go_wp2_with fail
              go_meet
              exact ⟨by rw [HR.out], rfl⟩
          case rest =>
            obtain ⟨rfl, e1⟩ := hcut
            replace e1 := e1.symm
            subst e1
            have hbs : ∀ n : Nat, n ≤ 100 → ¬ (9223372036854775807 < n + r.body.length) ∧ ¬ (9223372036854775807 - n < r.body.length) := fun n hn => by omega
            have HBS := Lib.hid hbs
            clear hbs
            have hkk : r.kind = 1 ∨ r.kind = 5 ∨ r.kind = 7 ∨ r.kind = 2 ∨ r.kind = 6 ∨ r.kind = 3 ∨ r.kind = 4 ∨ r.kind = 8 ∨ (r.kind ≠ 1 ∧ r.kind ≠ 5 ∧ r.kind ≠ 7 ∧ r.kind ≠ 2 ∧ r.kind ≠ 6 ∧ r.kind ≠ 3 ∧ r.kind ≠ 4 ∧ r.kind ≠ 8) := by omega
            rcases hkk with hk | hk | hk | hk | hk | hk | hk | hk | hk
            · have k1 : ((r.kind : Int) == 1) = true := by simp; omega
              have k5 : ((r.kind : Int) == 5) = false := by simp; omega
              have k7 : ((r.kind : Int) == 7) = false := by simp; omega
              have k2 : ((r.kind : Int) == 2) = false := by simp; omega
              have k6 : ((r.kind : Int) == 6) = false := by simp; omega
              have k3 : ((r.kind : Int) == 3) = false := by simp; omega
              have k4 : ((r.kind : Int) == 4) = false := by simp; omega
              have k8 : ((r.kind : Int) == 8) = false := by simp; omega
              have HBY : Hid (PRec.bytes r = (PRec.head r, true)) := Lib.hid (by unfold PRec.bytes; rw [if_pos HWH.out, if_pos (by omega)])
              clear hk
              go_wp2
              go_ret2
              exact ⟨ret_sb2 (by rw [HBY.out, HT.out]) (by rw [HBY.out]), HW.out.1⟩
            · have k1 : ((r.kind : Int) == 1) = false := by simp; omega
              have k5 : ((r.kind : Int) == 5) = true := by simp; omega
              have k7 : ((r.kind : Int) == 7) = false := by simp; omega
              have k2 : ((r.kind : Int) == 2) = false := by simp; omega
              have k6 : ((r.kind : Int) == 6) = false := by simp; omega
              have k3 : ((r.kind : Int) == 3) = false := by simp; omega
              have k4 : ((r.kind : Int) == 4) = false := by simp; omega
              have k8 : ((r.kind : Int) == 8) = false := by simp; omega
              have HBY : Hid (PRec.bytes r = (PRec.head r, true)) := Lib.hid (by unfold PRec.bytes; rw [if_pos HWH.out, if_pos (by omega)])
              clear hk
              go_wp2
              go_ret2
              exact ⟨ret_sb2 (by rw [HBY.out, HT.out]) (by rw [HBY.out]), HW.out.1⟩
            · have k1 : ((r.kind : Int) == 1) = false := by simp; omega
              have k5 : ((r.kind : Int) == 5) = false := by simp; omega
              have k7 : ((r.kind : Int) == 7) = true := by simp; omega
              have k2 : ((r.kind : Int) == 2) = false := by simp; omega
              have k6 : ((r.kind : Int) == 6) = false := by simp; omega
              have k3 : ((r.kind : Int) == 3) = false := by simp; omega
              have k4 : ((r.kind : Int) == 4) = false := by simp; omega
              have k8 : ((r.kind : Int) == 8) = false := by simp; omega
              have HBY : Hid (PRec.bytes r = (PRec.head r, true)) := Lib.hid (by unfold PRec.bytes; rw [if_pos HWH.out, if_pos (by omega)])
              clear hk
              go_wp2
              go_ret2
              exact ⟨ret_sb2 (by rw [HBY.out, HT.out]) (by rw [HBY.out]), HW.out.1⟩
            · have k1 : ((r.kind : Int) == 1) = false := by simp; omega
              have k5 : ((r.kind : Int) == 5) = false := by simp; omega
              have k7 : ((r.kind : Int) == 7) = false := by simp; omega
              have k2 : ((r.kind : Int) == 2) = true := by simp; omega
              have k6 : ((r.kind : Int) == 6) = false := by simp; omega
              have k3 : ((r.kind : Int) == 3) = false := by simp; omega
              have k4 : ((r.kind : Int) == 4) = false := by simp; omega
              have k8 : ((r.kind : Int) == 8) = false := by simp; omega
              have HBY : Hid (PRec.bytes r = (PRec.head r ++ PWord.be 4 r.page ++ PWord.be 2 r.slot ++ r.body, PRec.bodyOk r && (decide (0 < r.page) || decide (r.slot = 0)))) := Lib.hid (by unfold PRec.bytes; rw [if_pos HWH.out, if_neg (by omega), if_pos hk])
              clear hk
              have hs1 := (HBS.out 23 (by omega)).1
              have hs2 := (HBS.out 23 (by omega)).2
              have hN : w2.drew.heap[w.heap.size]? = some (.cells #[.int .u8 r.kind, .int .u64 r.tx, .int .u64 r.prev, .int .u32 r.page, .int .u16 r.slot, .int .u64 r.next, .int .u64 r.number, .string ⟨r.body.toArray⟩, .slice pd r.dirty.length cd, .slice pt r.txns.length ct, .int .u64 r.ttx, .int .u64 r.tnum] 32 (0, 0)) := HW.out.2
              have HB := Lib.hid HW.out.1.drew
              cases hb0 : PRec.bodyOk r
              · have HBO := Lib.hid hb0
                clear hb0
                go_wp2_with fail
                refine wp_region_held_drew (S := (fun w' => w'.cell? ⟨w.heap.size, 3, none⟩ = some (.int .u32 r.page) ∧ w'.cell? ⟨w.heap.size, 4, none⟩ = some (.int .u16 r.slot) ∧ w'.cell? ⟨w.heap.size, 7, none⟩ = some (.string ⟨r.body.toArray⟩))) (by kernel_rfl) ?_ (fun hHeld => ?_)
                · ((try dsimp only); (exact ⟨(box12 hN).2.2.2.1, (box12 hN).2.2.2.2.1, (box12 hN).2.2.2.2.2.2.2.1⟩))
                refine wpAnyH_take (i := 0) (v := ?_) (by simp only [List.getElem?_toArray, List.getElem?_cons_zero]; rfl) (by kernel_rfl) (by kernel_rfl) (by kernel_rfl) (by intro _ _ _ h; exact h) (Or.inl ⟨by kernel_rfl, ?_⟩) (by assumption) ?_
                rotate_left
                · ((intro w hSw; (try dsimp only at hSw); go_simp); (try (with_reducible rfl)))
                try simp only [Act.put, List.setIfInBounds_toArray, List.set_cons_zero, List.set_cons_succ]
                refine wpAnyH_take (i := 1) (v := ?_) (by simp only [List.getElem?_toArray, List.getElem?_cons_succ, List.getElem?_cons_zero]; rfl) (by kernel_rfl) (by kernel_rfl) (by kernel_rfl) (by intro _ _ _ h; exact h) (Or.inl ⟨by kernel_rfl, ?_⟩) (by assumption) ?_
                rotate_left
                · ((intro w hSw; (try dsimp only at hSw); go_simp); (try (with_reducible rfl)))
                try simp only [Act.put, List.setIfInBounds_toArray, List.set_cons_zero, List.set_cons_succ]
                refine wpAnyH_take (i := 2) (v := ?_) (by simp only [List.getElem?_toArray, List.getElem?_cons_succ, List.getElem?_cons_zero]; rfl) (by kernel_rfl) (by kernel_rfl) (by kernel_rfl) (by intro _ _ _ h; exact h) (Or.inl ⟨by kernel_rfl, ?_⟩) (by assumption) ?_
                rotate_left
                · ((intro w hSw; (try dsimp only at hSw); go_simp); (try (with_reducible rfl)))
                try simp only [Act.put, List.setIfInBounds_toArray, List.set_cons_zero, List.set_cons_succ]
                refine wpAnyH_take (i := 3) (v := ?_) (by simp only [List.getElem?_toArray, List.getElem?_cons_succ, List.getElem?_cons_zero]; rfl) (by kernel_rfl) (by kernel_rfl) (by kernel_rfl) (by intro _ _ _ h; exact h) (Or.inl ⟨by kernel_rfl, ?_⟩) (by assumption) ?_
                rotate_left
                · ((intro w hSw; (try dsimp only at hSw); go_simp); (try (with_reducible rfl)))
                try simp only [Act.put, List.setIfInBounds_toArray, List.set_cons_zero, List.set_cons_succ]
                refine wpAnyH_take (i := 4) (v := ?_) (by simp only [List.getElem?_toArray, List.getElem?_cons_succ, List.getElem?_cons_zero]; rfl) (by kernel_rfl) (by kernel_rfl) (by kernel_rfl) (by intro _ _ _ h; exact h) (Or.inl ⟨by kernel_rfl, ?_⟩) (by assumption) ?_
                rotate_left
                · ((intro w hSw; (try dsimp only at hSw); go_simp); (try (with_reducible rfl)))
                try simp only [Act.put, List.setIfInBounds_toArray, List.set_cons_zero, List.set_cons_succ]
                refine wpAnyH_take (i := 7) (v := ?_) (by simp only [List.getElem?_toArray, List.getElem?_cons_succ, List.getElem?_cons_zero]; rfl) (by kernel_rfl) (by kernel_rfl) (by kernel_rfl) (by intro _ _ _ h; exact h) (Or.inl ⟨by kernel_rfl, ?_⟩) (by assumption) ?_
                rotate_left
                · ((intro w hSw; (try dsimp only at hSw); go_simp); (try (with_reducible rfl)))
                try simp only [Act.put, List.setIfInBounds_toArray, List.set_cons_zero, List.set_cons_succ]
                refine wpAnyH_take (i := 8) (v := ?_) (by simp only [List.getElem?_toArray, List.getElem?_cons_succ, List.getElem?_cons_zero]; rfl) (by kernel_rfl) (by kernel_rfl) (by kernel_rfl) (by intro _ _ _ h; exact h) (Or.inl ⟨by kernel_rfl, ?_⟩) (by assumption) ?_
                rotate_left
                · ((intro w hSw; (try dsimp only at hSw); go_simp); (try (with_reducible rfl)))
                try simp only [Act.put, List.setIfInBounds_toArray, List.set_cons_zero, List.set_cons_succ]
                refine wpAnyH_take (i := 9) (v := ?_) (by simp only [List.getElem?_toArray, List.getElem?_cons_succ, List.getElem?_cons_zero]; rfl) (by kernel_rfl) (by kernel_rfl) (by kernel_rfl) (by intro _ _ _ h; exact h) (Or.inl ⟨by kernel_rfl, ?_⟩) (by assumption) ?_
                rotate_left
                · ((intro w hSw; (try dsimp only at hSw); go_simp); (try (with_reducible rfl)))
                try simp only [Act.put, List.setIfInBounds_toArray, List.set_cons_zero, List.set_cons_succ]
                refine wpAnyH_take (i := 10) (v := ?_) (by simp only [List.getElem?_toArray, List.getElem?_cons_succ, List.getElem?_cons_zero]; rfl) (by kernel_rfl) (by kernel_rfl) (by kernel_rfl) (by intro _ _ _ h; exact h) (Or.inl ⟨by kernel_rfl, ?_⟩) (by assumption) ?_
                rotate_left
                · ((intro w hSw; (try dsimp only at hSw); go_simp); (try (with_reducible rfl)))
                try simp only [Act.put, List.setIfInBounds_toArray, List.set_cons_zero, List.set_cons_succ]
                refine wpAnyH_take (i := 13) (v := ?_) (by simp only [List.getElem?_toArray, List.getElem?_cons_succ, List.getElem?_cons_zero]; rfl) (by kernel_rfl) (by kernel_rfl) (by kernel_rfl) (by intro _ _ _ h; exact h) (Or.inl ⟨by kernel_rfl, ?_⟩) (by assumption) ?_
                rotate_left
                · ((intro w hSw; (try dsimp only at hSw); go_simp); (try (with_reducible rfl)))
                try simp only [Act.put, List.setIfInBounds_toArray, List.set_cons_zero, List.set_cons_succ]
                refine wpAnyH_take (i := 14) (v := ?_) (by simp only [List.getElem?_toArray, List.getElem?_cons_succ, List.getElem?_cons_zero]; rfl) (by kernel_rfl) (by kernel_rfl) (by kernel_rfl) (by intro _ _ _ h; exact h) (Or.inl ⟨by kernel_rfl, ?_⟩) (by assumption) ?_
                rotate_left
                · ((intro w hSw; (try dsimp only at hSw); go_simp); (try (with_reducible rfl)))
                try simp only [Act.put, List.setIfInBounds_toArray, List.set_cons_zero, List.set_cons_succ]
                refine wpAnyH_take (i := 16) (v := ?_) (by simp only [List.getElem?_toArray, List.getElem?_cons_succ, List.getElem?_cons_zero]; rfl) (by kernel_rfl) (by kernel_rfl) (by kernel_rfl) (by intro _ _ _ h; exact h) (Or.inl ⟨by kernel_rfl, ?_⟩) (by assumption) ?_
                rotate_left
                · ((intro w hSw; (try dsimp only at hSw); go_simp); (try (with_reducible rfl)))
                try simp only [Act.put, List.setIfInBounds_toArray, List.set_cons_zero, List.set_cons_succ]
                refine wpAnyH_ready (rs := [5]) (by kernel_rfl) (by simp) ?_
                refine AllReadyH.cons (by simp only [List.getElem?_toArray, List.getElem?_cons_succ, List.getElem?_cons_zero]; rfl) (fun K hK => ?_) AllReadyH.nil
                go_simp
                (go_at_call 32; with_reducible refine (put9_4 r.page o3 _).mono ?_; rintro e w3 ⟨rfl, hb⟩; have hlt2 := (Array.getElem?_eq_some_iff.1 hN).1; replace hN := (hb.block _ hlt2).trans hN; replace HB := Lib.hid (HB.out.step hb); clear hb hlt2)
                go_wp2_with fail
                refine hK.out _ _ ?_ (fun hHeld2 => ?_)
                · ((try dsimp only); (exact ⟨(box12 hN).2.2.2.1, (box12 hN).2.2.2.2.1, (box12 hN).2.2.2.2.2.2.2.1⟩))
                clear hK K
                try simp only [Act.put, List.setIfInBounds_toArray, List.set_cons_zero, List.set_cons_succ]
                clear hHeld; have hHeld := hHeld2; clear hHeld2
                refine wpAnyH_take (i := 6) (v := ?_) (by simp only [List.getElem?_toArray, List.getElem?_cons_succ, List.getElem?_cons_zero]; rfl) (by kernel_rfl) (by kernel_rfl) (by kernel_rfl) (by intro _ _ _ h; exact h) (Or.inl ⟨by kernel_rfl, ?_⟩) (by assumption) ?_
                rotate_left
                · ((intro w hSw; (try dsimp only at hSw); go_simp); (try (with_reducible rfl)))
                try simp only [Act.put, List.setIfInBounds_toArray, List.set_cons_zero, List.set_cons_succ]
                refine wpAnyH_ready (rs := [11]) (by kernel_rfl) (by simp) ?_
                refine AllReadyH.cons (by simp only [List.getElem?_toArray, List.getElem?_cons_succ, List.getElem?_cons_zero]; rfl) (fun K hK => ?_) AllReadyH.nil
                go_simp
                (go_at_call 32; with_reducible refine (put9_2 r.slot o4 _).mono ?_; rintro e w3 ⟨rfl, hb⟩; have hlt2 := (Array.getElem?_eq_some_iff.1 hN).1; replace hN := (hb.block _ hlt2).trans hN; replace HB := Lib.hid (HB.out.step hb); clear hb hlt2)
                go_wp2_with fail
                refine hK.out _ _ ?_ (fun hHeld2 => ?_)
                · ((try dsimp only); (exact ⟨(box12 hN).2.2.2.1, (box12 hN).2.2.2.2.1, (box12 hN).2.2.2.2.2.2.2.1⟩))
                clear hK K
                try simp only [Act.put, List.setIfInBounds_toArray, List.set_cons_zero, List.set_cons_succ]
                clear hHeld; have hHeld := hHeld2; clear hHeld2
                refine wpAnyH_take (i := 12) (v := ?_) (by simp only [List.getElem?_toArray, List.getElem?_cons_succ, List.getElem?_cons_zero]; rfl) (by kernel_rfl) (by kernel_rfl) (by kernel_rfl) (by intro _ _ _ h; exact h) (Or.inl ⟨by kernel_rfl, ?_⟩) (by assumption) ?_
                rotate_left
                · ((intro w hSw; (try dsimp only at hSw); go_simp); (try (with_reducible rfl)))
                try simp only [Act.put, List.setIfInBounds_toArray, List.set_cons_zero, List.set_cons_succ]
                refine wpAnyH_take (i := 15) (v := ?_) (by simp only [List.getElem?_toArray, List.getElem?_cons_succ, List.getElem?_cons_zero]; rfl) (by kernel_rfl) (by kernel_rfl) (by kernel_rfl) (by intro _ _ _ h; exact h) (Or.inl ⟨by kernel_rfl, ?_⟩) (by assumption) ?_
                rotate_left
                · ((intro w hSw; (try dsimp only at hSw); go_simp); (try (with_reducible rfl)))
                try simp only [Act.put, List.setIfInBounds_toArray, List.set_cons_zero, List.set_cons_succ]
                refine wpAnyH_take (i := 17) (v := ?_) (by simp only [List.getElem?_toArray, List.getElem?_cons_succ, List.getElem?_cons_zero]; rfl) (by kernel_rfl) (by kernel_rfl) (by kernel_rfl) (by intro _ _ _ h; exact h) (Or.inl ⟨by kernel_rfl, ?_⟩) (by assumption) ?_
                rotate_left
                · ((intro w hSw; (try dsimp only at hSw); go_simp); (try (with_reducible rfl)))
                try simp only [Act.put, List.setIfInBounds_toArray, List.set_cons_zero, List.set_cons_succ]
                refine wpAnyH_take (i := 18) (v := undef) (by simp only [List.getElem?_toArray, List.getElem?_cons_succ, List.getElem?_cons_zero]; rfl) (by kernel_rfl) (by kernel_rfl) (by kernel_rfl) (by intro _ _ _ h; exact h) (Or.inr ⟨by kernel_rfl, rfl⟩) (by assumption) ?_
                try simp only [Act.put, List.setIfInBounds_toArray, List.set_cons_zero, List.set_cons_succ]
                refine wpAnyH_take (i := 19) (v := undef) (by simp only [List.getElem?_toArray, List.getElem?_cons_succ, List.getElem?_cons_zero]; rfl) (by kernel_rfl) (by kernel_rfl) (by kernel_rfl) (by intro _ _ _ h; exact h) (Or.inr ⟨by kernel_rfl, rfl⟩) (by assumption) ?_
                try simp only [Act.put, List.setIfInBounds_toArray, List.set_cons_zero, List.set_cons_succ]
                refine wpAnyH_take (i := 20) (v := undef) (by simp only [List.getElem?_toArray, List.getElem?_cons_succ, List.getElem?_cons_zero]; rfl) (by kernel_rfl) (by kernel_rfl) (by kernel_rfl) (by intro _ _ _ h; exact h) (Or.inr ⟨by kernel_rfl, rfl⟩) (by assumption) ?_
                try simp only [Act.put, List.setIfInBounds_toArray, List.set_cons_zero, List.set_cons_succ]
                refine wpAnyH_take (i := 21) (v := undef) (by simp only [List.getElem?_toArray, List.getElem?_cons_succ, List.getElem?_cons_zero]; rfl) (by kernel_rfl) (by kernel_rfl) (by kernel_rfl) (by intro _ _ _ h; exact h) (Or.inr ⟨by kernel_rfl, rfl⟩) (by assumption) ?_
                try simp only [Act.put, List.setIfInBounds_toArray, List.set_cons_zero, List.set_cons_succ]
                refine wpAnyH_take (i := 22) (v := undef) (by simp only [List.getElem?_toArray, List.getElem?_cons_succ, List.getElem?_cons_zero]; rfl) (by kernel_rfl) (by kernel_rfl) (by kernel_rfl) (by intro _ _ _ h; exact h) (Or.inr ⟨by kernel_rfl, rfl⟩) (by assumption) ?_
                try simp only [Act.put, List.setIfInBounds_toArray, List.set_cons_zero, List.set_cons_succ]
                refine wpAnyH_take (i := 23) (v := undef) (by simp only [List.getElem?_toArray, List.getElem?_cons_succ, List.getElem?_cons_zero]; rfl) (by kernel_rfl) (by kernel_rfl) (by kernel_rfl) (by intro _ _ _ h; exact h) (Or.inr ⟨by kernel_rfl, rfl⟩) (by assumption) ?_
                try simp only [Act.put, List.setIfInBounds_toArray, List.set_cons_zero, List.set_cons_succ]
                refine wpAnyH_take (i := 24) (v := undef) (by simp only [List.getElem?_toArray, List.getElem?_cons_succ, List.getElem?_cons_zero]; rfl) (by kernel_rfl) (by kernel_rfl) (by kernel_rfl) (by intro _ _ _ h; exact h) (Or.inr ⟨by kernel_rfl, rfl⟩) (by assumption) ?_
                try simp only [Act.put, List.setIfInBounds_toArray, List.set_cons_zero, List.set_cons_succ]
                refine wpAnyH_take (i := 25) (v := undef) (by simp only [List.getElem?_toArray, List.getElem?_cons_succ, List.getElem?_cons_zero]; rfl) (by kernel_rfl) (by kernel_rfl) (by kernel_rfl) (by intro _ _ _ h; exact h) (Or.inr ⟨by kernel_rfl, rfl⟩) (by assumption) ?_
                try simp only [Act.put, List.setIfInBounds_toArray, List.set_cons_zero, List.set_cons_succ]
                refine wpAnyH_take (i := 26) (v := undef) (by simp only [List.getElem?_toArray, List.getElem?_cons_succ, List.getElem?_cons_zero]; rfl) (by kernel_rfl) (by kernel_rfl) (by kernel_rfl) (by intro _ _ _ h; exact h) (Or.inr ⟨by kernel_rfl, rfl⟩) (by assumption) ?_
                try simp only [Act.put, List.setIfInBounds_toArray, List.set_cons_zero, List.set_cons_succ]
                refine wpAnyH_take (i := 27) (v := undef) (by simp only [List.getElem?_toArray, List.getElem?_cons_succ, List.getElem?_cons_zero]; rfl) (by kernel_rfl) (by kernel_rfl) (by kernel_rfl) (by intro _ _ _ h; exact h) (Or.inr ⟨by kernel_rfl, rfl⟩) (by assumption) ?_
                try simp only [Act.put, List.setIfInBounds_toArray, List.set_cons_zero, List.set_cons_succ]
                refine wpAnyH_take (i := 28) (v := ?_) (by simp only [List.getElem?_toArray, List.getElem?_cons_succ, List.getElem?_cons_zero]; rfl) (by kernel_rfl) (by kernel_rfl) (by kernel_rfl) (by intro _ _ _ h; exact h) (Or.inl ⟨by kernel_rfl, ?_⟩) (by assumption) ?_
                rotate_left
                · ((intro w hSw; (try dsimp only at hSw); go_simp); (try (with_reducible rfl)))
                try simp only [Act.put, List.setIfInBounds_toArray, List.set_cons_zero, List.set_cons_succ]
                refine wpAnyH_take (i := 29) (v := ?_) (by simp only [List.getElem?_toArray, List.getElem?_cons_succ, List.getElem?_cons_zero]; rfl) (by kernel_rfl) (by kernel_rfl) (by kernel_rfl) (by intro _ _ _ h; exact h) (Or.inl ⟨by kernel_rfl, ?_⟩) (by assumption) ?_
                rotate_left
                · ((intro w hSw; (try dsimp only at hSw); go_simp); (try (with_reducible rfl)))
                try simp only [Act.put, List.setIfInBounds_toArray, List.set_cons_zero, List.set_cons_succ]
                refine wpAnyH_take (i := 30) (v := ?_) (by simp only [List.getElem?_toArray, List.getElem?_cons_succ, List.getElem?_cons_zero]; rfl) (by kernel_rfl) (by kernel_rfl) (by kernel_rfl) (by intro _ _ _ h; exact h) (Or.inl ⟨by kernel_rfl, ?_⟩) (by assumption) ?_
                rotate_left
                · ((intro w hSw; (try dsimp only at hSw); go_simp); (try (with_reducible rfl)))
                try simp only [Act.put, List.setIfInBounds_toArray, List.set_cons_zero, List.set_cons_succ]
                refine wpAnyH_done (by kernel_rfl) ?_ _
                clear hN
                go_wp2
                go_ret2
                exact ⟨ret_sb2 (by rw [HBY.out, HT.out, app_l (PRec.head r) (PWord.be 4 r.page), app_l (PRec.head r ++ PWord.be 4 r.page) (PWord.be 2 r.slot), app_l (PRec.head r ++ PWord.be 4 r.page ++ PWord.be 2 r.slot) r.body]) (by rw [HBY.out, HBO.out]; simp), HB.out⟩
              · have HBO := Lib.hid hb0
                clear hb0
                by_cases hg : 0 < r.page
                · have HG := Lib.hid hg
                  go_wp2_with fail
                  refine wp_region_held_drew (S := (fun w' => w'.cell? ⟨w.heap.size, 3, none⟩ = some (.int .u32 r.page) ∧ w'.cell? ⟨w.heap.size, 4, none⟩ = some (.int .u16 r.slot) ∧ w'.cell? ⟨w.heap.size, 7, none⟩ = some (.string ⟨r.body.toArray⟩))) (by kernel_rfl) ?_ (fun hHeld => ?_)
                  · ((try dsimp only); (exact ⟨(box12 hN).2.2.2.1, (box12 hN).2.2.2.2.1, (box12 hN).2.2.2.2.2.2.2.1⟩))
                  refine wpAnyH_take (i := 0) (v := ?_) (by simp only [List.getElem?_toArray, List.getElem?_cons_zero]; rfl) (by kernel_rfl) (by kernel_rfl) (by kernel_rfl) (by intro _ _ _ h; exact h) (Or.inl ⟨by kernel_rfl, ?_⟩) (by assumption) ?_
                  rotate_left
                  · ((intro w hSw; (try dsimp only at hSw); go_simp); (try (with_reducible rfl)))
                  try simp only [Act.put, List.setIfInBounds_toArray, List.set_cons_zero, List.set_cons_succ]
                  refine wpAnyH_take (i := 1) (v := ?_) (by simp only [List.getElem?_toArray, List.getElem?_cons_succ, List.getElem?_cons_zero]; rfl) (by kernel_rfl) (by kernel_rfl) (by kernel_rfl) (by intro _ _ _ h; exact h) (Or.inl ⟨by kernel_rfl, ?_⟩) (by assumption) ?_
                  rotate_left
                  · ((intro w hSw; (try dsimp only at hSw); go_simp); (try (with_reducible rfl)))
                  try simp only [Act.put, List.setIfInBounds_toArray, List.set_cons_zero, List.set_cons_succ]
                  refine wpAnyH_take (i := 2) (v := ?_) (by simp only [List.getElem?_toArray, List.getElem?_cons_succ, List.getElem?_cons_zero]; rfl) (by kernel_rfl) (by kernel_rfl) (by kernel_rfl) (by intro _ _ _ h; exact h) (Or.inl ⟨by kernel_rfl, ?_⟩) (by assumption) ?_
                  rotate_left
                  · ((intro w hSw; (try dsimp only at hSw); go_simp); (try (with_reducible rfl)))
                  try simp only [Act.put, List.setIfInBounds_toArray, List.set_cons_zero, List.set_cons_succ]
                  refine wpAnyH_take (i := 3) (v := ?_) (by simp only [List.getElem?_toArray, List.getElem?_cons_succ, List.getElem?_cons_zero]; rfl) (by kernel_rfl) (by kernel_rfl) (by kernel_rfl) (by intro _ _ _ h; exact h) (Or.inl ⟨by kernel_rfl, ?_⟩) (by assumption) ?_
                  rotate_left
                  · ((intro w hSw; (try dsimp only at hSw); go_simp); (try (with_reducible rfl)))
                  try simp only [Act.put, List.setIfInBounds_toArray, List.set_cons_zero, List.set_cons_succ]
                  refine wpAnyH_take (i := 4) (v := ?_) (by simp only [List.getElem?_toArray, List.getElem?_cons_succ, List.getElem?_cons_zero]; rfl) (by kernel_rfl) (by kernel_rfl) (by kernel_rfl) (by intro _ _ _ h; exact h) (Or.inl ⟨by kernel_rfl, ?_⟩) (by assumption) ?_
                  rotate_left
                  · ((intro w hSw; (try dsimp only at hSw); go_simp); (try (with_reducible rfl)))
                  try simp only [Act.put, List.setIfInBounds_toArray, List.set_cons_zero, List.set_cons_succ]
                  refine wpAnyH_take (i := 7) (v := ?_) (by simp only [List.getElem?_toArray, List.getElem?_cons_succ, List.getElem?_cons_zero]; rfl) (by kernel_rfl) (by kernel_rfl) (by kernel_rfl) (by intro _ _ _ h; exact h) (Or.inl ⟨by kernel_rfl, ?_⟩) (by assumption) ?_
                  rotate_left
                  · ((intro w hSw; (try dsimp only at hSw); go_simp); (try (with_reducible rfl)))
                  try simp only [Act.put, List.setIfInBounds_toArray, List.set_cons_zero, List.set_cons_succ]
                  refine wpAnyH_take (i := 8) (v := ?_) (by simp only [List.getElem?_toArray, List.getElem?_cons_succ, List.getElem?_cons_zero]; rfl) (by kernel_rfl) (by kernel_rfl) (by kernel_rfl) (by intro _ _ _ h; exact h) (Or.inl ⟨by kernel_rfl, ?_⟩) (by assumption) ?_
                  rotate_left
                  · ((intro w hSw; (try dsimp only at hSw); go_simp); (try (with_reducible rfl)))
                  try simp only [Act.put, List.setIfInBounds_toArray, List.set_cons_zero, List.set_cons_succ]
                  refine wpAnyH_take (i := 9) (v := ?_) (by simp only [List.getElem?_toArray, List.getElem?_cons_succ, List.getElem?_cons_zero]; rfl) (by kernel_rfl) (by kernel_rfl) (by kernel_rfl) (by intro _ _ _ h; exact h) (Or.inl ⟨by kernel_rfl, ?_⟩) (by assumption) ?_
                  rotate_left
                  · ((intro w hSw; (try dsimp only at hSw); go_simp); (try (with_reducible rfl)))
                  try simp only [Act.put, List.setIfInBounds_toArray, List.set_cons_zero, List.set_cons_succ]
                  refine wpAnyH_take (i := 10) (v := ?_) (by simp only [List.getElem?_toArray, List.getElem?_cons_succ, List.getElem?_cons_zero]; rfl) (by kernel_rfl) (by kernel_rfl) (by kernel_rfl) (by intro _ _ _ h; exact h) (Or.inl ⟨by kernel_rfl, ?_⟩) (by assumption) ?_
                  rotate_left
                  · ((intro w hSw; (try dsimp only at hSw); go_simp); (try (with_reducible rfl)))
                  try simp only [Act.put, List.setIfInBounds_toArray, List.set_cons_zero, List.set_cons_succ]
                  refine wpAnyH_take (i := 13) (v := ?_) (by simp only [List.getElem?_toArray, List.getElem?_cons_succ, List.getElem?_cons_zero]; rfl) (by kernel_rfl) (by kernel_rfl) (by kernel_rfl) (by intro _ _ _ h; exact h) (Or.inl ⟨by kernel_rfl, ?_⟩) (by assumption) ?_
                  rotate_left
                  · ((intro w hSw; (try dsimp only at hSw); go_simp); (try (with_reducible rfl)))
                  try simp only [Act.put, List.setIfInBounds_toArray, List.set_cons_zero, List.set_cons_succ]
                  refine wpAnyH_take (i := 14) (v := ?_) (by simp only [List.getElem?_toArray, List.getElem?_cons_succ, List.getElem?_cons_zero]; rfl) (by kernel_rfl) (by kernel_rfl) (by kernel_rfl) (by intro _ _ _ h; exact h) (Or.inl ⟨by kernel_rfl, ?_⟩) (by assumption) ?_
                  rotate_left
                  · ((intro w hSw; (try dsimp only at hSw); go_simp); (try (with_reducible rfl)))
                  try simp only [Act.put, List.setIfInBounds_toArray, List.set_cons_zero, List.set_cons_succ]
                  refine wpAnyH_take (i := 16) (v := ?_) (by simp only [List.getElem?_toArray, List.getElem?_cons_succ, List.getElem?_cons_zero]; rfl) (by kernel_rfl) (by kernel_rfl) (by kernel_rfl) (by intro _ _ _ h; exact h) (Or.inl ⟨by kernel_rfl, ?_⟩) (by assumption) ?_
                  rotate_left
                  · ((intro w hSw; (try dsimp only at hSw); go_simp); (try (with_reducible rfl)))
                  try simp only [Act.put, List.setIfInBounds_toArray, List.set_cons_zero, List.set_cons_succ]
                  refine wpAnyH_ready (rs := [5]) (by kernel_rfl) (by simp) ?_
                  refine AllReadyH.cons (by simp only [List.getElem?_toArray, List.getElem?_cons_succ, List.getElem?_cons_zero]; rfl) (fun K hK => ?_) AllReadyH.nil
                  go_simp
                  (go_at_call 32; with_reducible refine (put9_4 r.page o3 _).mono ?_; rintro e w3 ⟨rfl, hb⟩; have hlt2 := (Array.getElem?_eq_some_iff.1 hN).1; replace hN := (hb.block _ hlt2).trans hN; replace HB := Lib.hid (HB.out.step hb); clear hb hlt2)
                  go_wp2_with fail
                  refine hK.out _ _ ?_ (fun hHeld2 => ?_)
                  · ((try dsimp only); (exact ⟨(box12 hN).2.2.2.1, (box12 hN).2.2.2.2.1, (box12 hN).2.2.2.2.2.2.2.1⟩))
                  clear hK K
                  try simp only [Act.put, List.setIfInBounds_toArray, List.set_cons_zero, List.set_cons_succ]
                  clear hHeld; have hHeld := hHeld2; clear hHeld2
                  refine wpAnyH_take (i := 6) (v := ?_) (by simp only [List.getElem?_toArray, List.getElem?_cons_succ, List.getElem?_cons_zero]; rfl) (by kernel_rfl) (by kernel_rfl) (by kernel_rfl) (by intro _ _ _ h; exact h) (Or.inl ⟨by kernel_rfl, ?_⟩) (by assumption) ?_
                  rotate_left
                  · ((intro w hSw; (try dsimp only at hSw); go_simp); (try (with_reducible rfl)))
                  try simp only [Act.put, List.setIfInBounds_toArray, List.set_cons_zero, List.set_cons_succ]
                  refine wpAnyH_ready (rs := [11]) (by kernel_rfl) (by simp) ?_
                  refine AllReadyH.cons (by simp only [List.getElem?_toArray, List.getElem?_cons_succ, List.getElem?_cons_zero]; rfl) (fun K hK => ?_) AllReadyH.nil
                  go_simp
                  (go_at_call 32; with_reducible refine (put9_2 r.slot o4 _).mono ?_; rintro e w3 ⟨rfl, hb⟩; have hlt2 := (Array.getElem?_eq_some_iff.1 hN).1; replace hN := (hb.block _ hlt2).trans hN; replace HB := Lib.hid (HB.out.step hb); clear hb hlt2)
                  go_wp2_with fail
                  refine hK.out _ _ ?_ (fun hHeld2 => ?_)
                  · ((try dsimp only); (exact ⟨(box12 hN).2.2.2.1, (box12 hN).2.2.2.2.1, (box12 hN).2.2.2.2.2.2.2.1⟩))
                  clear hK K
                  try simp only [Act.put, List.setIfInBounds_toArray, List.set_cons_zero, List.set_cons_succ]
                  clear hHeld; have hHeld := hHeld2; clear hHeld2
                  refine wpAnyH_take (i := 12) (v := ?_) (by simp only [List.getElem?_toArray, List.getElem?_cons_succ, List.getElem?_cons_zero]; rfl) (by kernel_rfl) (by kernel_rfl) (by kernel_rfl) (by intro _ _ _ h; exact h) (Or.inl ⟨by kernel_rfl, ?_⟩) (by assumption) ?_
                  rotate_left
                  · ((intro w hSw; (try dsimp only at hSw); go_simp); (try (with_reducible rfl)))
                  try simp only [Act.put, List.setIfInBounds_toArray, List.set_cons_zero, List.set_cons_succ]
                  refine wpAnyH_take (i := 15) (v := ?_) (by simp only [List.getElem?_toArray, List.getElem?_cons_succ, List.getElem?_cons_zero]; rfl) (by kernel_rfl) (by kernel_rfl) (by kernel_rfl) (by intro _ _ _ h; exact h) (Or.inl ⟨by kernel_rfl, ?_⟩) (by assumption) ?_
                  rotate_left
                  · ((intro w hSw; (try dsimp only at hSw); go_simp); (try (with_reducible rfl)))
                  try simp only [Act.put, List.setIfInBounds_toArray, List.set_cons_zero, List.set_cons_succ]
                  refine wpAnyH_take (i := 17) (v := ?_) (by simp only [List.getElem?_toArray, List.getElem?_cons_succ, List.getElem?_cons_zero]; rfl) (by kernel_rfl) (by kernel_rfl) (by kernel_rfl) (by intro _ _ _ h; exact h) (Or.inl ⟨by kernel_rfl, ?_⟩) (by assumption) ?_
                  rotate_left
                  · ((intro w hSw; (try dsimp only at hSw); go_simp); (try (with_reducible rfl)))
                  try simp only [Act.put, List.setIfInBounds_toArray, List.set_cons_zero, List.set_cons_succ]
                  refine wpAnyH_take (i := 18) (v := ?_) (by simp only [List.getElem?_toArray, List.getElem?_cons_succ, List.getElem?_cons_zero]; rfl) (by kernel_rfl) (by kernel_rfl) (by kernel_rfl) (by intro _ _ _ h; exact h) (Or.inl ⟨by kernel_rfl, ?_⟩) (by assumption) ?_
                  rotate_left
                  · ((intro w hSw; (try dsimp only at hSw); go_simp); (try (with_reducible rfl)))
                  try simp only [Act.put, List.setIfInBounds_toArray, List.set_cons_zero, List.set_cons_succ]
                  refine wpAnyH_take (i := 19) (v := ?_) (by simp only [List.getElem?_toArray, List.getElem?_cons_succ, List.getElem?_cons_zero]; rfl) (by kernel_rfl) (by kernel_rfl) (by kernel_rfl) (by intro _ _ _ h; exact h) (Or.inl ⟨by kernel_rfl, ?_⟩) (by assumption) ?_
                  rotate_left
                  · ((intro w hSw; (try dsimp only at hSw); go_simp); (try (with_reducible rfl)))
                  try simp only [Act.put, List.setIfInBounds_toArray, List.set_cons_zero, List.set_cons_succ]
                  refine wpAnyH_take (i := 20) (v := ?_) (by simp only [List.getElem?_toArray, List.getElem?_cons_succ, List.getElem?_cons_zero]; rfl) (by kernel_rfl) (by kernel_rfl) (by kernel_rfl) (by intro _ _ _ h; exact h) (Or.inl ⟨by kernel_rfl, ?_⟩) (by assumption) ?_
                  rotate_left
                  · ((intro w hSw; (try dsimp only at hSw); go_simp); (try (with_reducible rfl)))
                  try simp only [Act.put, List.setIfInBounds_toArray, List.set_cons_zero, List.set_cons_succ]
                  refine wpAnyH_take (i := 21) (v := ?_) (by simp only [List.getElem?_toArray, List.getElem?_cons_succ, List.getElem?_cons_zero]; rfl) (by kernel_rfl) (by kernel_rfl) (by kernel_rfl) (by intro _ _ _ h; exact h) (Or.inl ⟨by kernel_rfl, ?_⟩) (by assumption) ?_
                  rotate_left
                  · ((intro w hSw; (try dsimp only at hSw); go_simp); (try (with_reducible rfl)))
                  try simp only [Act.put, List.setIfInBounds_toArray, List.set_cons_zero, List.set_cons_succ]
                  refine wpAnyH_take (i := 22) (v := ?_) (by simp only [List.getElem?_toArray, List.getElem?_cons_succ, List.getElem?_cons_zero]; rfl) (by kernel_rfl) (by kernel_rfl) (by kernel_rfl) (by intro _ _ _ h; exact h) (Or.inl ⟨by kernel_rfl, ?_⟩) (by assumption) ?_
                  rotate_left
                  · ((intro w hSw; (try dsimp only at hSw); go_simp); (try (with_reducible rfl)))
                  try simp only [Act.put, List.setIfInBounds_toArray, List.set_cons_zero, List.set_cons_succ]
                  refine wpAnyH_take (i := 23) (v := undef) (by simp only [List.getElem?_toArray, List.getElem?_cons_succ, List.getElem?_cons_zero]; rfl) (by kernel_rfl) (by kernel_rfl) (by kernel_rfl) (by intro _ _ _ h; exact h) (Or.inr ⟨by kernel_rfl, rfl⟩) (by assumption) ?_
                  try simp only [Act.put, List.setIfInBounds_toArray, List.set_cons_zero, List.set_cons_succ]
                  refine wpAnyH_take (i := 24) (v := undef) (by simp only [List.getElem?_toArray, List.getElem?_cons_succ, List.getElem?_cons_zero]; rfl) (by kernel_rfl) (by kernel_rfl) (by kernel_rfl) (by intro _ _ _ h; exact h) (Or.inr ⟨by kernel_rfl, rfl⟩) (by assumption) ?_
                  try simp only [Act.put, List.setIfInBounds_toArray, List.set_cons_zero, List.set_cons_succ]
                  refine wpAnyH_take (i := 25) (v := undef) (by simp only [List.getElem?_toArray, List.getElem?_cons_succ, List.getElem?_cons_zero]; rfl) (by kernel_rfl) (by kernel_rfl) (by kernel_rfl) (by intro _ _ _ h; exact h) (Or.inr ⟨by kernel_rfl, rfl⟩) (by assumption) ?_
                  try simp only [Act.put, List.setIfInBounds_toArray, List.set_cons_zero, List.set_cons_succ]
                  refine wpAnyH_take (i := 26) (v := undef) (by simp only [List.getElem?_toArray, List.getElem?_cons_succ, List.getElem?_cons_zero]; rfl) (by kernel_rfl) (by kernel_rfl) (by kernel_rfl) (by intro _ _ _ h; exact h) (Or.inr ⟨by kernel_rfl, rfl⟩) (by assumption) ?_
                  try simp only [Act.put, List.setIfInBounds_toArray, List.set_cons_zero, List.set_cons_succ]
                  refine wpAnyH_take (i := 27) (v := ?_) (by simp only [List.getElem?_toArray, List.getElem?_cons_succ, List.getElem?_cons_zero]; rfl) (by kernel_rfl) (by kernel_rfl) (by kernel_rfl) (by intro _ _ _ h; exact h) (Or.inl ⟨by kernel_rfl, ?_⟩) (by assumption) ?_
                  rotate_left
                  · ((intro w hSw; (try dsimp only at hSw); go_simp); (try (with_reducible rfl)))
                  try simp only [Act.put, List.setIfInBounds_toArray, List.set_cons_zero, List.set_cons_succ]
                  refine wpAnyH_take (i := 28) (v := ?_) (by simp only [List.getElem?_toArray, List.getElem?_cons_succ, List.getElem?_cons_zero]; rfl) (by kernel_rfl) (by kernel_rfl) (by kernel_rfl) (by intro _ _ _ h; exact h) (Or.inl ⟨by kernel_rfl, ?_⟩) (by assumption) ?_
                  rotate_left
                  · ((intro w hSw; (try dsimp only at hSw); go_simp); (try (with_reducible rfl)))
                  try simp only [Act.put, List.setIfInBounds_toArray, List.set_cons_zero, List.set_cons_succ]
                  refine wpAnyH_take (i := 29) (v := ?_) (by simp only [List.getElem?_toArray, List.getElem?_cons_succ, List.getElem?_cons_zero]; rfl) (by kernel_rfl) (by kernel_rfl) (by kernel_rfl) (by intro _ _ _ h; exact h) (Or.inl ⟨by kernel_rfl, ?_⟩) (by assumption) ?_
                  rotate_left
                  · ((intro w hSw; (try dsimp only at hSw); go_simp); (try (with_reducible rfl)))
                  try simp only [Act.put, List.setIfInBounds_toArray, List.set_cons_zero, List.set_cons_succ]
                  refine wpAnyH_take (i := 30) (v := ?_) (by simp only [List.getElem?_toArray, List.getElem?_cons_succ, List.getElem?_cons_zero]; rfl) (by kernel_rfl) (by kernel_rfl) (by kernel_rfl) (by intro _ _ _ h; exact h) (Or.inl ⟨by kernel_rfl, ?_⟩) (by assumption) ?_
                  rotate_left
                  · ((intro w hSw; (try dsimp only at hSw); go_simp); (try (with_reducible rfl)))
                  try simp only [Act.put, List.setIfInBounds_toArray, List.set_cons_zero, List.set_cons_succ]
                  refine wpAnyH_done (by kernel_rfl) ?_ _
                  clear hN
                  go_wp2
                  go_ret2
                  exact ⟨ret_sb2 (by rw [HBY.out, HT.out, app_l (PRec.head r) (PWord.be 4 r.page), app_l (PRec.head r ++ PWord.be 4 r.page) (PWord.be 2 r.slot), app_l (PRec.head r ++ PWord.be 4 r.page ++ PWord.be 2 r.slot) r.body]) (by rw [HBY.out, HBO.out]; simp [HG.out]), HB.out⟩
                · have HG := Lib.hid hg
                  have hg2 : decide (0 < r.page) = false := by simpa using hg
                  clear hg
                  go_wp2_with fail
                  go_region_held3 (fun w' => w'.cell? ⟨w.heap.size, 3, none⟩ = some (.int .u32 r.page) ∧ w'.cell? ⟨w.heap.size, 4, none⟩ = some (.int .u16 r.slot) ∧ w'.cell? ⟨w.heap.size, 7, none⟩ = some (.string ⟨r.body.toArray⟩))
                    (first | exact ⟨(box12 hN).2.2.2.1, (box12 hN).2.2.2.2.1, (box12 hN).2.2.2.2.2.2.2.1⟩ | go_keep)
                    (first
                      | (go_at_call 32; (first | with_reducible refine (put9_4 r.page o3 _).mono ?_ | with_reducible refine (put9_2 r.slot o4 _).mono ?_); rintro e w3 ⟨rfl, hb⟩; have hlt2 := (Array.getElem?_eq_some_iff.1 hN).1; replace hN := (hb.block _ hlt2).trans hN; replace HB := Lib.hid (HB.out.step hb); clear hb hlt2))
                  clear hN
                  go_wp2
                  go_ret2
                  exact ⟨ret_sb2 (by rw [HBY.out, HT.out, app_l (PRec.head r) (PWord.be 4 r.page), app_l (PRec.head r ++ PWord.be 4 r.page) (PWord.be 2 r.slot), app_l (PRec.head r ++ PWord.be 4 r.page ++ PWord.be 2 r.slot) r.body]) (by rw [HBY.out, HBO.out]; have := HG.out; rw [Bool.eq_iff_iff]; simp; omega), HB.out⟩
            · have k1 : ((r.kind : Int) == 1) = false := by simp; omega
              have k5 : ((r.kind : Int) == 5) = false := by simp; omega
              have k7 : ((r.kind : Int) == 7) = false := by simp; omega
              have k2 : ((r.kind : Int) == 2) = false := by simp; omega
              have k6 : ((r.kind : Int) == 6) = true := by simp; omega
              have k3 : ((r.kind : Int) == 3) = false := by simp; omega
              have k4 : ((r.kind : Int) == 4) = false := by simp; omega
              have k8 : ((r.kind : Int) == 8) = false := by simp; omega
              have HBY : Hid (PRec.bytes r = (PRec.head r ++ r.body, PRec.bodyOk r)) := Lib.hid (by unfold PRec.bytes; rw [if_pos HWH.out, if_neg (by omega), if_neg (by omega), if_pos hk])
              clear hk
              have hs1 := (HBS.out 17 (by omega)).1
              have hs2 := (HBS.out 17 (by omega)).2
              go_wp2
              go_ret2
              exact ⟨ret_sb2 (by rw [HBY.out, HT.out, app_l (PRec.head r) r.body]) (by rw [HBY.out]), HW.out.1⟩
            · have k1 : ((r.kind : Int) == 1) = false := by simp; omega
              have k5 : ((r.kind : Int) == 5) = false := by simp; omega
              have k7 : ((r.kind : Int) == 7) = false := by simp; omega
              have k2 : ((r.kind : Int) == 2) = false := by simp; omega
              have k6 : ((r.kind : Int) == 6) = false := by simp; omega
              have k3 : ((r.kind : Int) == 3) = true := by simp; omega
              have k4 : ((r.kind : Int) == 4) = false := by simp; omega
              have k8 : ((r.kind : Int) == 8) = false := by simp; omega
              have HBY : Hid (PRec.bytes r = (PRec.head r ++ PWord.be 8 r.next ++ r.body, PRec.bodyOk r)) := Lib.hid (by unfold PRec.bytes; rw [if_pos HWH.out, if_neg (by omega), if_neg (by omega), if_neg (by omega), if_pos hk])
              clear hk
              have hs1 := (HBS.out 25 (by omega)).1
              have hs2 := (HBS.out 25 (by omega)).2
              have hN : w2.drew.heap[w.heap.size]? = some (.cells #[.int .u8 r.kind, .int .u64 r.tx, .int .u64 r.prev, .int .u32 r.page, .int .u16 r.slot, .int .u64 r.next, .int .u64 r.number, .string ⟨r.body.toArray⟩, .slice pd r.dirty.length cd, .slice pt r.txns.length ct, .int .u64 r.ttx, .int .u64 r.tnum] 32 (0, 0)) := HW.out.2
              have HB := Lib.hid HW.out.1.drew
              go_wp2_with fail
              go_region_held3 (fun w' => w'.cell? ⟨w.heap.size, 5, none⟩ = some (.int .u64 r.next) ∧ w'.cell? ⟨w.heap.size, 7, none⟩ = some (.string ⟨r.body.toArray⟩))
                (first | exact ⟨(box12 hN).2.2.2.2.2.1, (box12 hN).2.2.2.2.2.2.2.1⟩ | go_keep)
                (first
                  | (go_at_call 32; (first | with_reducible refine (put9_8 r.next o5 _).mono ?_); rintro e w3 ⟨rfl, hb⟩; have hlt2 := (Array.getElem?_eq_some_iff.1 hN).1; replace hN := (hb.block _ hlt2).trans hN; replace HB := Lib.hid (HB.out.step hb); clear hb hlt2))
              clear hN
              go_wp2
              go_ret2
              exact ⟨ret_sb2 (by rw [HBY.out, HT.out, app_l (PRec.head r) (PWord.be 8 r.next), app_l (PRec.head r ++ PWord.be 8 r.next) r.body]) (by rw [HBY.out]), HB.out⟩
            · have k1 : ((r.kind : Int) == 1) = false := by simp; omega
              have k5 : ((r.kind : Int) == 5) = false := by simp; omega
              have k7 : ((r.kind : Int) == 7) = false := by simp; omega
              have k2 : ((r.kind : Int) == 2) = false := by simp; omega
              have k6 : ((r.kind : Int) == 6) = false := by simp; omega
              have k3 : ((r.kind : Int) == 3) = false := by simp; omega
              have k4 : ((r.kind : Int) == 4) = true := by simp; omega
              have k8 : ((r.kind : Int) == 8) = false := by simp; omega
              have HBY : Hid (PRec.bytes r = (PRec.head r ++ PWord.be 8 r.number ++ r.body, PRec.bodyOk r && decide (0 < r.number))) := Lib.hid (by unfold PRec.bytes; rw [if_pos HWH.out, if_neg (by omega), if_neg (by omega), if_neg (by omega), if_neg (by omega), if_pos hk])
              clear hk
              have hs1 := (HBS.out 25 (by omega)).1
              have hs2 := (HBS.out 25 (by omega)).2
              have hN : w2.drew.heap[w.heap.size]? = some (.cells #[.int .u8 r.kind, .int .u64 r.tx, .int .u64 r.prev, .int .u32 r.page, .int .u16 r.slot, .int .u64 r.next, .int .u64 r.number, .string ⟨r.body.toArray⟩, .slice pd r.dirty.length cd, .slice pt r.txns.length ct, .int .u64 r.ttx, .int .u64 r.tnum] 32 (0, 0)) := HW.out.2
              have HB := Lib.hid HW.out.1.drew
              cases hb0 : PRec.bodyOk r
              · have HBO := Lib.hid hb0
                clear hb0
                go_wp2_with fail
                (first
                  | go_region_with (first
                      | (go_at_call 32; (first | with_reducible refine (put9_8 r.number o6 _).mono ?_); rintro e w3 ⟨rfl, hb⟩; have hlt2 := (Array.getElem?_eq_some_iff.1 hN).1; replace hN := (hb.block _ hlt2).trans hN; replace HB := Lib.hid (HB.out.step hb); clear hb hlt2; obtain ⟨q0, q1, q2, q3, q4, q5, q6, q7, q8, q9, q10, q11⟩ := box12 hN))
                  | fail)
                all_goals clear hN
                all_goals go_wp2
                all_goals go_ret2
                all_goals exact ⟨ret_sb2 (by rw [HBY.out, HT.out, app_l (PRec.head r) (PWord.be 8 r.number), app_l (PRec.head r ++ PWord.be 8 r.number) r.body]) (by rw [HBY.out, HBO.out]; simp), HB.out⟩
              · have HBO := Lib.hid hb0
                clear hb0
                go_wp2_with fail
                go_region_held3 (fun w' => w'.cell? ⟨w.heap.size, 6, none⟩ = some (.int .u64 r.number) ∧ w'.cell? ⟨w.heap.size, 7, none⟩ = some (.string ⟨r.body.toArray⟩))
                  (first | exact ⟨(box12 hN).2.2.2.2.2.2.1, (box12 hN).2.2.2.2.2.2.2.1⟩ | go_keep)
                  (first
                    | (go_at_call 32; (first | with_reducible refine (put9_8 r.number o6 _).mono ?_); rintro e w3 ⟨rfl, hb⟩; have hlt2 := (Array.getElem?_eq_some_iff.1 hN).1; replace hN := (hb.block _ hlt2).trans hN; replace HB := Lib.hid (HB.out.step hb); clear hb hlt2))
                clear hN
                go_wp2
                go_ret2
                exact ⟨ret_sb2 (by rw [HBY.out, HT.out, app_l (PRec.head r) (PWord.be 8 r.number), app_l (PRec.head r ++ PWord.be 8 r.number) r.body]) (by rw [HBY.out, HBO.out]; simp), HB.out⟩
            · have k1 : ((r.kind : Int) == 1) = false := by simp; omega
              have k5 : ((r.kind : Int) == 5) = false := by simp; omega
              have k7 : ((r.kind : Int) == 7) = false := by simp; omega
              have k2 : ((r.kind : Int) == 2) = false := by simp; omega
              have k6 : ((r.kind : Int) == 6) = false := by simp; omega
              have k3 : ((r.kind : Int) == 3) = false := by simp; omega
              have k4 : ((r.kind : Int) == 4) = false := by simp; omega
              have k8 : ((r.kind : Int) == 8) = true := by simp; omega
              have HBY : Hid (PRec.bytes r = (PRec.head r ++ PRec.tabs r, PRec.fits r)) := Lib.hid (by unfold PRec.bytes; rw [if_pos HWH.out, if_neg (by omega), if_neg (by omega), if_neg (by omega), if_neg (by omega), if_neg (by omega), if_pos hk])
              clear hk
              have hs1 := (HBS.out 17 (by omega)).1
              have hs2 := (HBS.out 17 (by omega)).2
              have hN : w2.drew.heap[w.heap.size]? = some (.cells #[.int .u8 r.kind, .int .u64 r.tx, .int .u64 r.prev, .int .u32 r.page, .int .u16 r.slot, .int .u64 r.next, .int .u64 r.number, .string ⟨r.body.toArray⟩, .slice pd r.dirty.length cd, .slice pt r.txns.length ct, .int .u64 r.ttx, .int .u64 r.tnum] 32 (0, 0)) := HW.out.2
              have HB := Lib.hid HW.out.1.drew
              have hft := PRec.flat_length PRec.dirtyB 12 PRec.dirtyB_length r.dirty
              have hft2 := PRec.flat_length PRec.txnB 32 PRec.txnB_length r.txns
              have htl : (PRec.tabs r).length = 18 + 12 * r.dirty.length + 32 * r.txns.length := by unfold PRec.tabs; simp only [List.length_append, PWord.be_length, hft, hft2]; omega
              have hs3 : ¬ (9223372036854775807 < 17 + (PRec.tabs r).length) := by omega
              have hs4 : ¬ (9223372036854775790 < (PRec.tabs r).length) := by omega
              clear hft hft2 htl
              go_wp2_with fail
              go_region_held3 (fun w' => w'.cell? ⟨w.heap.size, 8, none⟩ = some (.slice pd r.dirty.length cd) ∧ w'.cell? ⟨w.heap.size, 9, none⟩ = some (.slice pt r.txns.length ct) ∧ w'.cell? ⟨w.heap.size, 10, none⟩ = some (.int .u64 r.ttx) ∧ w'.cell? ⟨w.heap.size, 11, none⟩ = some (.int .u64 r.tnum))
                (first | exact ⟨(box12 hN).2.2.2.2.2.2.2.2.1, (box12 hN).2.2.2.2.2.2.2.2.2.1, (box12 hN).2.2.2.2.2.2.2.2.2.2.1, (box12 hN).2.2.2.2.2.2.2.2.2.2.2⟩ | go_keep)
                (first
                  | (go_at_call 33; with_reducible refine (HTA.out _ (HIN.out.step HB.out)).mono ?_; rintro e w3 ⟨rfl, hb⟩; have hlt2 := (Array.getElem?_eq_some_iff.1 hN).1; replace hN := (hb.block _ hlt2).trans hN; replace HB := Lib.hid (HB.out.step hb); clear hb hlt2)
                  | (go_at_call 34; with_reducible refine (HFI.out _ (HIN.out.step HB.out)).mono ?_; rintro e w3 ⟨rfl, hb⟩; have hlt2 := (Array.getElem?_eq_some_iff.1 hN).1; replace hN := (hb.block _ hlt2).trans hN; replace HB := Lib.hid (HB.out.step hb); clear hb hlt2))
              clear hN
              go_wp2
              go_ret2
              exact ⟨ret_sb2 (by rw [HBY.out, HT.out, app_l (PRec.head r) (PRec.tabs r)]) (by rw [HBY.out]), HB.out⟩
            · have k1 : ((r.kind : Int) == 1) = false := by simp; omega
              have k5 : ((r.kind : Int) == 5) = false := by simp; omega
              have k7 : ((r.kind : Int) == 7) = false := by simp; omega
              have k2 : ((r.kind : Int) == 2) = false := by simp; omega
              have k6 : ((r.kind : Int) == 6) = false := by simp; omega
              have k3 : ((r.kind : Int) == 3) = false := by simp; omega
              have k4 : ((r.kind : Int) == 4) = false := by simp; omega
              have k8 : ((r.kind : Int) == 8) = false := by simp; omega
              have HBY : Hid (PRec.bytes r = ([], false)) := Lib.hid (by unfold PRec.bytes; rw [if_pos HWH.out, if_neg (by omega), if_neg (by omega), if_neg (by omega), if_neg (by omega), if_neg (by omega), if_neg (by omega)])
              clear hk
              go_wp2
              go_ret2
              exact ⟨ret_sb2 (by rw [HBY.out]) (by rw [HBY.out]), HW.out.1⟩
end Go.Proofs.Ytpkmnihiepbmcaa
