/-
  Records: SameTables, Same of the document's answer.
-/
import Derived.Test.YtpkmnihiepbmcaaRec7
import Derived.Deep.DeepCutAuto
namespace Go.Proofs.Ytpkmnihiepbmcaa
open Go.RowKit
open PRec (Rec Drt Atx)
set_option maxRecDepth 20000 in
set_option maxHeartbeats 4000000 in
theorem sameT_any (A B : List Drt) (T U : List Atx) (x1 n1 x2 n2 : Nat) (va vt vb vu : Value) (w : World) (hA : RdS w 2 va A.length (dirtyV A)) (hT : RdS w 4 vt T.length (txnsV T)) (hB : RdS w 2 vb B.length (dirtyV B)) (hU : RdS w 4 vu U.length (txnsV U)) :
    Calls Try.prog 27 #[.agg #[va, vt, .int .u64 x1, .int .u64 n1], .agg #[vb, vu, .int .u64 x2, .int .u64 n2]] w fun e w' => e = .returned (.bool (decide (x1 = x2 ∧ n1 = n2 ∧ A = B ∧ T = U))) ∧ Below w.heap.size w w' := by
  obtain ⟨pa, ca, rfl, ha1, ha2⟩ := hA.form
  obtain ⟨pt, ct, rfl, ht1, ht2⟩ := hT.form
  obtain ⟨pb, cb, rfl, hb1, hb2⟩ := hB.form
  obtain ⟨pu, cu, rfl, hu1, hu2⟩ := hU.form
  unfold maxLen at ha2 ht2 hb2 hu2
  have HA := Lib.hid hA
  have HT := Lib.hid hT
  have HB := Lib.hid hB
  have HU := Lib.hid hU
  clear hA hT hB hU
  have hX := (Below.heap_alloc (w.alloc (.cells #[.slice pa A.length ca, .slice pt T.length ct, .int .u64 x1, .int .u64 n1] 30)) (.cells #[.slice pb B.length cb, .slice pu U.length cu, .int .u64 x2, .int .u64 n2] 30) w.heap.size (by simp)).trans (heap_alloc_new w (.cells #[.slice pa A.length ca, .slice pt T.length ct, .int .u64 x1, .int .u64 n1] 30))
  have hY := heap_alloc_new (w.alloc (.cells #[.slice pa A.length ca, .slice pt T.length ct, .int .u64 x1, .int .u64 n1] 30)) (.cells #[.slice pb B.length cb, .slice pu U.length cu, .int .u64 x2, .int .u64 n2] 30)
  rw [World.size_alloc] at hY
  have HX := Lib.hid hX
  have HY := Lib.hid hY
  have HW0 := Lib.hid (((Below.refl w.heap.size w).alloc (Nat.le_refl _) (.cells #[.slice pa A.length ca, .slice pt T.length ct, .int .u64 x1, .int .u64 n1] 30)).alloc (by simp) (.cells #[.slice pb B.length cb, .slice pu U.length cu, .int .u64 x2, .int .u64 n2] 30))
  clear hX hY
  by_cases h1 : x1 = x2
  · have z1 : ((x1 : Int) != x2) = false := by simp; omega
    by_cases h2 : n1 = n2
    · have z2 : ((n1 : Int) != n2) = false := by simp; omega
      by_cases h3 : A.length = B.length
      · have z3 : ((A.length : Int) != B.length) = false := by simp; omega
        by_cases h4 : T.length = U.length
        · have z4 : ((T.length : Int) != U.length) = false := by simp; omega
          have H12 := Lib.hid (⟨h1, h2⟩ : x1 = x2 ∧ n1 = n2)
          have H3 := Lib.hid h3
          have H4 := Lib.hid h4
          have l3 : (A.length : Int) = B.length := by omega
          have l4 : (T.length : Int) = U.length := by omega
          clear h1 h2 h3 h4
          go_enter Try.func27, Try.ntmps27
          go_wp2
          go_loopw [5] (fun iv wr => ∃ k : Nat, k ≤ B.length ∧ iv = .int .i64 k ∧ Hid (A.take k = B.take k) ∧ Hid (Below w.heap.size w wr) ∧ Hid (wr.heap[w.heap.size]? = some (.cells #[.slice pa A.length ca, .slice pt T.length ct, .int .u64 x1, .int .u64 n1] 30 (0, 0))) ∧ Hid (wr.heap[w.heap.size + 1]? = some (.cells #[.slice pb B.length cb, .slice pu U.length cu, .int .u64 x2, .int .u64 n2] 30 (0, 0)))) (fun iv _ => B.length - (intOf iv).toNat)
          case atStart => exact ⟨0, by omega, rfl, Lib.hid rfl, HW0, HX, HY⟩
          case round =>
            clear HW0 HX HY
            obtain ⟨k, hk, rfl, HE, HW, HX, HY⟩ := hrel
            obtain ⟨b0, b1, _, _⟩ := box4 HX.out
            obtain ⟨e0, e1, _, _⟩ := box4 HY.out
            by_cases hlt : k < B.length
            · have hlA : k < A.length := by have := H3.out; omega
              obtain ⟨g1, off1, rfl, hg1, c0, c1⟩ := dirty_cells (HA.out.step HW.out) hlA
              obtain ⟨g2, off2, rfl, hg2, d0, d1⟩ := dirty_cells (HB.out.step HW.out) hlt
              have HQ : Hid (A = B → A[k] = B[k]) := Lib.hid (fun h => by subst h; rfl)
              have HTK : Hid (A[k] = B[k] → A.take (k + 1) = B.take (k + 1)) := Lib.hid (fun h => by rw [List.take_succ_eq_append_getElem hlA, List.take_succ_eq_append_getElem hlt, HE.out, h])
              generalize A[k] = x at *
              generalize B[k] = y at *
              obtain ⟨xp, xs⟩ := x
              obtain ⟨yp, ys⟩ := y
              dsimp only at c0 c1 d0 d1
              have i0 : (0 : Int) ≤ k := by omega
              have i1 : (k : Int) < B.length := by omega
              have i2 : (k : Int) < A.length := by omega
              have HK := Lib.hid hlt
              cases hq : dEq ⟨xp, xs⟩ ⟨yp, ys⟩
              · have HR : Hid (decide (x1 = x2 ∧ n1 = n2 ∧ A = B ∧ T = U) = false) := Lib.hid (by unfold dEq at hq; rw [decide_eq_false_iff_not] at hq ⊢; intro h; exact hq (HQ.out h.2.2.1))
                go_wp2_with fail
                go_region_held3 (fun w' => w'.cell? ⟨w.heap.size, 0, none⟩ = some (.slice (some ⟨g1, off1, none⟩) A.length ca) ∧ w'.cell? ⟨w.heap.size + 1, 0, none⟩ = some (.slice (some ⟨g2, off2, none⟩) B.length cb) ∧ w'.cell? ⟨g1, off1 + k * 2, none⟩ = some (.int .u32 xp) ∧ w'.cell? ⟨g1, off1 + k * 2 + 1, none⟩ = some (.int .u64 xs) ∧ w'.cell? ⟨g2, off2 + k * 2, none⟩ = some (.int .u32 yp) ∧ w'.cell? ⟨g2, off2 + k * 2 + 1, none⟩ = some (.int .u64 ys)) (first | exact ⟨b0, e0, c0, c1, d0, d1⟩ | go_keep) (fail)
                go_wp2
                go_ret
                exact ⟨ret_b HR.out.symm, HW.out.drew⟩
              · have HR : Hid (A.take (k + 1) = B.take (k + 1)) := Lib.hid (HTK.out (by unfold dEq at hq; simpa using hq))
                go_wp2_with fail
                go_region_held3 (fun w' => w'.cell? ⟨w.heap.size, 0, none⟩ = some (.slice (some ⟨g1, off1, none⟩) A.length ca) ∧ w'.cell? ⟨w.heap.size + 1, 0, none⟩ = some (.slice (some ⟨g2, off2, none⟩) B.length cb) ∧ w'.cell? ⟨g1, off1 + k * 2, none⟩ = some (.int .u32 xp) ∧ w'.cell? ⟨g1, off1 + k * 2 + 1, none⟩ = some (.int .u64 xs) ∧ w'.cell? ⟨g2, off2 + k * 2, none⟩ = some (.int .u32 yp) ∧ w'.cell? ⟨g2, off2 + k * 2 + 1, none⟩ = some (.int .u64 ys)) (first | exact ⟨b0, e0, c0, c1, d0, d1⟩ | go_keep) (fail)
                go_wp2
                have hk9 := HK.out
                exact ⟨⟨k + 1, hk9, by go_num, HR, Lib.hid HW.out.drew, HX, HY⟩, by simp [intOf]; omega⟩
            · have hkn : k = B.length := by omega
              subst hkn
              have i1 : ¬ (B.length : Int) < A.length := by omega
              have HAB : Hid (A = B) := Lib.hid (by have h := HE.out; rw [List.take_length, ← H3.out, List.take_length] at h; exact h)
              clear b1 e0 e1 hlt
              have HWW := Lib.hid HW.out
              have b1 := (box4 HX.out).2.1
              have e1 := (box4 HY.out).2.1
              go_wp2
              go_loopw [6] (fun iv wt => ∃ k : Nat, k ≤ U.length ∧ iv = .int .i64 k ∧ Hid (T.take k = U.take k) ∧ Hid (Below w.heap.size w wt) ∧ Hid (wt.heap[w.heap.size]? = some (.cells #[.slice pa A.length ca, .slice pt T.length ct, .int .u64 x1, .int .u64 n1] 30 (0, 0))) ∧ Hid (wt.heap[w.heap.size + 1]? = some (.cells #[.slice pb B.length cb, .slice pu U.length cu, .int .u64 x2, .int .u64 n2] 30 (0, 0)))) (fun iv _ => U.length - (intOf iv).toNat)
              case atStart => exact ⟨0, by omega, rfl, Lib.hid rfl, HW, HX, HY⟩
              case round =>
                clear HW HWW HX HY b0 b1 e1 HE
                obtain ⟨k, hk, rfl, HE, HW, HX, HY⟩ := hrel
                have b1 := (box4 HX.out).2.1
                have e1 := (box4 HY.out).2.1
                by_cases hlt : k < U.length
                · have hlT : k < T.length := by have := H4.out; omega
                  obtain ⟨g1, off1, rfl, hg1, c0, c1, c2, c3⟩ := txns_cells (HT.out.step HW.out) hlT
                  obtain ⟨g2, off2, rfl, hg2, d0, d1, d2, d3⟩ := txns_cells (HU.out.step HW.out) hlt
                  have HQ : Hid (T = U → T[k] = U[k]) := Lib.hid (fun h => by subst h; rfl)
                  have HTK : Hid (T[k] = U[k] → T.take (k + 1) = U.take (k + 1)) := Lib.hid (fun h => by rw [List.take_succ_eq_append_getElem hlT, List.take_succ_eq_append_getElem hlt, HE.out, h])
                  generalize T[k] = x at *
                  generalize U[k] = y at *
                  obtain ⟨xa, xb, xc, xd⟩ := x
                  obtain ⟨ya, yb, yc, yd⟩ := y
                  dsimp only at c0 c1 c2 c3 d0 d1 d2 d3
                  have i0 : (0 : Int) ≤ k := by omega
                  have i1 : (k : Int) < U.length := by omega
                  have i2 : (k : Int) < T.length := by omega
                  have HK := Lib.hid hlt
                  cases hq : tEq ⟨xa, xb, xc, xd⟩ ⟨ya, yb, yc, yd⟩
                  · have HR : Hid (decide (x1 = x2 ∧ n1 = n2 ∧ A = B ∧ T = U) = false) := Lib.hid (by unfold tEq at hq; rw [decide_eq_false_iff_not] at hq ⊢; intro h; exact hq (HQ.out h.2.2.2))
                    go_wp2_with fail
                    go_region_held3 (fun w' => w'.cell? ⟨w.heap.size, 1, none⟩ = some (.slice (some ⟨g1, off1, none⟩) T.length ct) ∧ w'.cell? ⟨w.heap.size + 1, 1, none⟩ = some (.slice (some ⟨g2, off2, none⟩) U.length cu) ∧ w'.cell? ⟨g1, off1 + k * 4, none⟩ = some (.int .u64 xa) ∧ w'.cell? ⟨g1, off1 + k * 4 + 1, none⟩ = some (.int .u64 xb) ∧ w'.cell? ⟨g1, off1 + k * 4 + 2, none⟩ = some (.int .u64 xc) ∧ w'.cell? ⟨g1, off1 + k * 4 + 3, none⟩ = some (.int .u64 xd) ∧ w'.cell? ⟨g2, off2 + k * 4, none⟩ = some (.int .u64 ya) ∧ w'.cell? ⟨g2, off2 + k * 4 + 1, none⟩ = some (.int .u64 yb) ∧ w'.cell? ⟨g2, off2 + k * 4 + 2, none⟩ = some (.int .u64 yc) ∧ w'.cell? ⟨g2, off2 + k * 4 + 3, none⟩ = some (.int .u64 yd)) (first | exact ⟨b1, e1, c0, c1, c2, c3, d0, d1, d2, d3⟩ | go_keep) (fail)
                    go_wp2
                    go_ret
                    exact ⟨ret_b HR.out.symm, HW.out.drew⟩
                  · have HR : Hid (T.take (k + 1) = U.take (k + 1)) := Lib.hid (HTK.out (by unfold tEq at hq; simpa using hq))
                    go_wp2_with fail
                    go_region_held3 (fun w' => w'.cell? ⟨w.heap.size, 1, none⟩ = some (.slice (some ⟨g1, off1, none⟩) T.length ct) ∧ w'.cell? ⟨w.heap.size + 1, 1, none⟩ = some (.slice (some ⟨g2, off2, none⟩) U.length cu) ∧ w'.cell? ⟨g1, off1 + k * 4, none⟩ = some (.int .u64 xa) ∧ w'.cell? ⟨g1, off1 + k * 4 + 1, none⟩ = some (.int .u64 xb) ∧ w'.cell? ⟨g1, off1 + k * 4 + 2, none⟩ = some (.int .u64 xc) ∧ w'.cell? ⟨g1, off1 + k * 4 + 3, none⟩ = some (.int .u64 xd) ∧ w'.cell? ⟨g2, off2 + k * 4, none⟩ = some (.int .u64 ya) ∧ w'.cell? ⟨g2, off2 + k * 4 + 1, none⟩ = some (.int .u64 yb) ∧ w'.cell? ⟨g2, off2 + k * 4 + 2, none⟩ = some (.int .u64 yc) ∧ w'.cell? ⟨g2, off2 + k * 4 + 3, none⟩ = some (.int .u64 yd)) (first | exact ⟨b1, e1, c0, c1, c2, c3, d0, d1, d2, d3⟩ | go_keep) (fail)
                    go_wp2
                    have hk9 := HK.out
                    exact ⟨⟨k + 1, hk9, by go_num, HR, Lib.hid HW.out.drew, HX, HY⟩, by simp [intOf]; omega⟩
                · have hkn : k = U.length := by omega
                  subst hkn
                  have i1 : ¬ (U.length : Int) < T.length := by omega
                  have HR : Hid (decide (x1 = x2 ∧ n1 = n2 ∧ A = B ∧ T = U) = true) := Lib.hid (by have h := HE.out; rw [List.take_length, ← H4.out, List.take_length] at h; rw [decide_eq_true_eq]; exact ⟨H12.out.1, H12.out.2, HAB.out, h⟩)
                  go_wp2
                  go_ret
                  exact ⟨ret_b (by have h := HR.out; simp only [Bool.decide_and] at h; exact h.symm), HW.out⟩
        · have z4 : ((T.length : Int) != U.length) = true := by simp; omega
          have HR : Hid (decide (x1 = x2 ∧ n1 = n2 ∧ A = B ∧ T = U) = false) := Lib.hid (by rw [decide_eq_false_iff_not]; intro h; exact h4 (by rw [h.2.2.2]))
          clear h1 h2 h3 h4
          go_enter Try.func27, Try.ntmps27
          go_wp2
          go_ret
          exact ⟨ret_b HR.out.symm, HW0.out⟩
      · have z3 : ((A.length : Int) != B.length) = true := by simp; omega
        have HR : Hid (decide (x1 = x2 ∧ n1 = n2 ∧ A = B ∧ T = U) = false) := Lib.hid (by rw [decide_eq_false_iff_not]; intro h; exact h3 (by rw [h.2.2.1]))
        clear h1 h2 h3
        go_enter Try.func27, Try.ntmps27
        go_wp2
        go_ret
        exact ⟨ret_b HR.out.symm, HW0.out⟩
    · have z2 : ((n1 : Int) != n2) = true := by simp; omega
      have HR : Hid (decide (x1 = x2 ∧ n1 = n2 ∧ A = B ∧ T = U) = false) := Lib.hid (by rw [decide_eq_false_iff_not]; intro h; exact h2 h.2.1)
      clear h1 h2
      go_enter Try.func27, Try.ntmps27
      go_wp2
      go_ret
      exact ⟨ret_b HR.out.symm, HW0.out⟩
  · have z1 : ((x1 : Int) != x2) = true := by simp; omega
    have HR : Hid (decide (x1 = x2 ∧ n1 = n2 ∧ A = B ∧ T = U) = false) := Lib.hid (by rw [decide_eq_false_iff_not]; intro h; exact h1 h.1)
    clear h1
    go_enter Try.func27, Try.ntmps27
    go_wp2
    go_ret
    exact ⟨ret_b HR.out.symm, HW0.out⟩
set_option maxRecDepth 20000 in
set_option maxHeartbeats 8000000 in
theorem rsame_any (a b : Rec) (va vt vb vu : Value) (w : World) (ha : RecIn w a va vt) (hb : RecIn w b vb vu) : Calls Try.prog 15 #[rv a va vt, rv b vb vu] w fun e w' => e = .returned (.bool (decide (a = b))) ∧ Below w.heap.size w w' := by
  have HIA := Lib.hid ha
  have HIB := Lib.hid hb
  obtain ⟨pa, ca, rfl, ha1, ha2⟩ := ha.1.form
  obtain ⟨pt, ct, rfl, ht1, ht2⟩ := ha.2.form
  obtain ⟨pb, cb, rfl, hb1, hb2⟩ := hb.1.form
  obtain ⟨pu, cu, rfl, hu1, hu2⟩ := hb.2.form
  clear ha hb
  unfold rv
  obtain ⟨sa, hsa⟩ : ∃ x : ByteArray, (⟨a.body.toArray⟩ : ByteArray) = x := ⟨_, rfl⟩
  obtain ⟨sb, hsb⟩ : ∃ x : ByteArray, (⟨b.body.toArray⟩ : ByteArray) = x := ⟨_, rfl⟩
  have HBO : Hid (sa.toList = a.body ∧ sb.toList = b.body) := Lib.hid (by rw [← hsa, ← hsb, bytes_eq, bytes_eq]; simp)
  rw [hsa, hsb]
  clear hsa hsb
  have hX := (Below.heap_alloc (w.alloc (.cells #[.int .u8 a.kind, .int .u64 a.tx, .int .u64 a.prev, .int .u32 a.page, .int .u16 a.slot, .int .u64 a.next, .int .u64 a.number, .string sa, .slice pa a.dirty.length ca, .slice pt a.txns.length ct, .int .u64 a.ttx, .int .u64 a.tnum] 32)) (.cells #[.int .u8 b.kind, .int .u64 b.tx, .int .u64 b.prev, .int .u32 b.page, .int .u16 b.slot, .int .u64 b.next, .int .u64 b.number, .string sb, .slice pb b.dirty.length cb, .slice pu b.txns.length cu, .int .u64 b.ttx, .int .u64 b.tnum] 32) w.heap.size (by simp)).trans (heap_alloc_new w (.cells #[.int .u8 a.kind, .int .u64 a.tx, .int .u64 a.prev, .int .u32 a.page, .int .u16 a.slot, .int .u64 a.next, .int .u64 a.number, .string sa, .slice pa a.dirty.length ca, .slice pt a.txns.length ct, .int .u64 a.ttx, .int .u64 a.tnum] 32))
  have hY := heap_alloc_new (w.alloc (.cells #[.int .u8 a.kind, .int .u64 a.tx, .int .u64 a.prev, .int .u32 a.page, .int .u16 a.slot, .int .u64 a.next, .int .u64 a.number, .string sa, .slice pa a.dirty.length ca, .slice pt a.txns.length ct, .int .u64 a.ttx, .int .u64 a.tnum] 32)) (.cells #[.int .u8 b.kind, .int .u64 b.tx, .int .u64 b.prev, .int .u32 b.page, .int .u16 b.slot, .int .u64 b.next, .int .u64 b.number, .string sb, .slice pb b.dirty.length cb, .slice pu b.txns.length cu, .int .u64 b.ttx, .int .u64 b.tnum] 32)
  rw [World.size_alloc] at hY
  have HB2 := Lib.hid (((Below.refl w.heap.size w).alloc (Nat.le_refl _) (.cells #[.int .u8 a.kind, .int .u64 a.tx, .int .u64 a.prev, .int .u32 a.page, .int .u16 a.slot, .int .u64 a.next, .int .u64 a.number, .string sa, .slice pa a.dirty.length ca, .slice pt a.txns.length ct, .int .u64 a.ttx, .int .u64 a.tnum] 32)).alloc (by simp) (.cells #[.int .u8 b.kind, .int .u64 b.tx, .int .u64 b.prev, .int .u32 b.page, .int .u16 b.slot, .int .u64 b.next, .int .u64 b.number, .string sb, .slice pb b.dirty.length cb, .slice pu b.txns.length cu, .int .u64 b.ttx, .int .u64 b.tnum] 32))
  obtain ⟨c0, c1, c2, c3, c4, c5, c6, c7, c8, c9, c10, c11⟩ := box12s hX
  obtain ⟨d0, d1, d2, d3, d4, d5, d6, d7, d8, d9, d10, d11⟩ := box12s hY
  clear hX hY
  by_cases h0 : a.kind = b.kind
  · have z0 : ((a.kind : Int) != b.kind) = false := by simp [h0]
    by_cases h1 : a.tx = b.tx
    · have z1 : ((a.tx : Int) != b.tx) = false := by simp [h1]
      by_cases h2 : a.prev = b.prev
      · have z2 : ((a.prev : Int) != b.prev) = false := by simp [h2]
        by_cases h3 : rEq a.page a.slot b.page b.slot = true
        · have z3 : rEq a.page a.slot b.page b.slot = true := by simpa using h3
          by_cases h4 : a.next = b.next
          · have z4 : ((a.next : Int) != b.next) = false := by simp [h4]
            by_cases h5 : a.number = b.number
            · have z5 : ((a.number : Int) != b.number) = false := by simp [h5]
              by_cases h6 : a.body = b.body
              · have z6b : (sa.toList == sb.toList) = true := by rw [HBO.out.1, HBO.out.2, h6]; simp
                have z6 : (sa.toList != sb.toList) = false := by rw [HBO.out.1, HBO.out.2, h6]; simp
                have HR : Hid (decide (a = b) = decide (a.ttx = b.ttx ∧ a.tnum = b.tnum ∧ a.dirty = b.dirty ∧ a.txns = b.txns)) := Lib.hid (by obtain ⟨a0, a1, a2, a3, a4, a5, a6, a7, a8, a9, a10, a11⟩ := a; obtain ⟨b0, b1, b2, b3, b4, b5, b6, b7, b8, b9, b10, b11⟩ := b; unfold rEq at h3; simp only [Bool.and_eq_true, decide_eq_true_eq] at h0 h1 h2 h3 h4 h5 h6 ⊢; obtain ⟨h3, h3b⟩ := h3; subst h0 h1 h2 h3 h3b h4 h5 h6; rw [decide_eq_decide]; constructor; (intro h; cases h; exact ⟨rfl, rfl, rfl, rfl⟩); (rintro ⟨e1, e2, e3, e4⟩; subst e1 e2 e3 e4; rfl))
                clear h0 h1 h2 h3 h4 h5 h6
                go_enter Try.func15, Try.ntmps15
                go_wp2_with fail
                refine (sameT_any a.dirty b.dirty a.txns b.txns a.ttx a.tnum b.ttx b.tnum _ _ _ _ _ (HIA.out.step HB2.out).1 (HIA.out.step HB2.out).2 (HIB.out.step HB2.out).1 (HIB.out.step HB2.out).2).mono ?_
                rintro e w3 ⟨rfl, hbb⟩
                replace HB2 := Lib.hid (HB2.out.step hbb)
                clear hbb
                go_wp2
                go_ret
                exact ⟨ret_b (by rw [HR.out]; simp only [Bool.decide_and]), HB2.out⟩
              · have z6b : (sa.toList == sb.toList) = false := by rw [HBO.out.1, HBO.out.2, beq_eq_false_iff_ne]; exact h6
                have z6 : (sa.toList != sb.toList) = true := by rw [HBO.out.1, HBO.out.2, bne_iff_ne]; exact h6
                have HR : Hid (decide (a = b) = false) := Lib.hid (by rw [decide_eq_false_iff_not]; intro h; exact h6 (by rw [h]))
                clear h0 h1 h2 h3 h4 h5 h6
                go_enter Try.func15, Try.ntmps15
                go_wp2
                go_ret
                exact ⟨ret_b HR.out.symm, HB2.out⟩
            · have z5 : ((a.number : Int) != b.number) = true := by simp; omega
              have HR : Hid (decide (a = b) = false) := Lib.hid (by rw [decide_eq_false_iff_not]; intro h; exact h5 (by rw [h]))
              clear h0 h1 h2 h3 h4 h5
              go_enter Try.func15, Try.ntmps15
              go_wp2
              go_ret
              exact ⟨ret_b HR.out.symm, HB2.out⟩
          · have z4 : ((a.next : Int) != b.next) = true := by simp; omega
            have HR : Hid (decide (a = b) = false) := Lib.hid (by rw [decide_eq_false_iff_not]; intro h; exact h4 (by rw [h]))
            clear h0 h1 h2 h3 h4
            go_enter Try.func15, Try.ntmps15
            go_wp2
            go_ret
            exact ⟨ret_b HR.out.symm, HB2.out⟩
        · have z3 : rEq a.page a.slot b.page b.slot = false := by simpa using h3
          have HR : Hid (decide (a = b) = false) := Lib.hid (by rw [decide_eq_false_iff_not]; intro h; have e3 := h3; rw [h] at e3; simp [rEq] at e3)
          clear h0 h1 h2 h3
          go_enter Try.func15, Try.ntmps15
          go_wp2
          go_ret
          exact ⟨ret_b HR.out.symm, HB2.out⟩
      · have z2 : ((a.prev : Int) != b.prev) = true := by simp; omega
        have HR : Hid (decide (a = b) = false) := Lib.hid (by rw [decide_eq_false_iff_not]; intro h; exact h2 (by rw [h]))
        clear h0 h1 h2
        go_enter Try.func15, Try.ntmps15
        go_wp2
        go_ret
        exact ⟨ret_b HR.out.symm, HB2.out⟩
    · have z1 : ((a.tx : Int) != b.tx) = true := by simp; omega
      have HR : Hid (decide (a = b) = false) := Lib.hid (by rw [decide_eq_false_iff_not]; intro h; exact h1 (by rw [h]))
      clear h0 h1
      go_enter Try.func15, Try.ntmps15
      go_wp2
      go_ret
      exact ⟨ret_b HR.out.symm, HB2.out⟩
  · have z0 : ((a.kind : Int) != b.kind) = true := by simp; omega
    have HR : Hid (decide (a = b) = false) := Lib.hid (by rw [decide_eq_false_iff_not]; intro h; exact h0 (by rw [h]))
    clear h0
    go_enter Try.func15, Try.ntmps15
    go_wp2
    go_ret
    exact ⟨ret_b HR.out.symm, HB2.out⟩
end Go.Proofs.Ytpkmnihiepbmcaa
