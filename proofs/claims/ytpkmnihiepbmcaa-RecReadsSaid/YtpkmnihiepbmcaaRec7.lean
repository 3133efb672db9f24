/-
  Records: Same of the program.
-/
import Derived.Test.YtpkmnihiepbmcaaRec6
import Derived.Deep.DeepCutAuto
import Derived.Deep.CutRange
namespace Go.Proofs.Ytpkmnihiepbmcaa
open Go.RowKit
open PRec (Rec Drt Atx)
theorem box12s {W : World} {b : Nat} {v0 v1 v2 v3 v4 v5 v6 v7 v8 v9 v10 v11 : Value} {t : TypeId} {fz : Nat × Nat} (h : W.heap[b]? = some (.cells #[v0, v1, v2, v3, v4, v5, v6, v7, v8, v9, v10, v11] t fz)) :
    W.cell? ⟨b, 0, none⟩ = some v0 ∧ W.cell? ⟨b, 1, none⟩ = some v1 ∧ W.cell? ⟨b, 2, none⟩ = some v2 ∧ W.cell? ⟨b, 3, none⟩ = some v3 ∧ W.cell? ⟨b, 4, none⟩ = some v4 ∧ W.cell? ⟨b, 5, none⟩ = some v5 ∧ W.cell? ⟨b, 6, none⟩ = some v6 ∧ W.cell? ⟨b, 7, none⟩ = some v7 ∧ W.cell? ⟨b, 8, none⟩ = some v8 ∧ W.cell? ⟨b, 9, none⟩ = some v9 ∧ W.cell? ⟨b, 10, none⟩ = some v10 ∧ W.cell? ⟨b, 11, none⟩ = some v11 := by
  simp [World.cell?, h]
def rEq (a b c d : Nat) : Bool := decide (a = c) && decide (b = d)
theorem eqin_roll (a1 a2 b1 b2 : Nat) (w : World) : (Op.equalIn 10000 26 (.agg #[.int .u32 a1, .int .u16 a2]) (.agg #[.int .u32 b1, .int .u16 b2])).run Try.prog w = .ok (rEq a1 a2 b1 b2) w := by
  unfold rEq
  go_simp
  by_cases h1 : a1 = b1 <;> by_cases h2 : a2 = b2 <;> simp [h1, h2, Int.ofNat_inj]
attribute [go_sem ↓] eqin_roll
set_option maxRecDepth 20000 in
set_option maxHeartbeats 8000000 in
theorem same_any (a b : Rec) (va vt vb vu : Value) (w : World) (ha : RecIn w a va vt) (hb : RecIn w b vb vu) : Calls Try.prog 14 #[rv a va vt, rv b vb vu] w fun e w' => e = .returned (.bool (decide (a = b))) ∧ Below w.heap.size w w' := by
  have HIA := Lib.hid ha
  have HIB := Lib.hid hb
  obtain ⟨pa, ca, rfl, ha1, ha2⟩ := ha.1.form
  obtain ⟨pt, ct, rfl, ht1, ht2⟩ := ha.2.form
  obtain ⟨pb, cb, rfl, hb1, hb2⟩ := hb.1.form
  obtain ⟨pu, cu, rfl, hu1, hu2⟩ := hb.2.form
  clear ha hb
  unfold rv
  obtain ⟨sa, hsa⟩ : ∃ x : ByteArray, (⟨a.body.toArray⟩ : ByteArray) = x := ⟨_, rfl⟩
  obtain ⟨sb, hsb⟩ : ∃ x : ByteArray, (⟨b.body.toArray⟩ : ByteArray) = x := ⟨_, rfl⟩
  have HBO : Hid (sa.toList = a.body ∧ sb.toList = b.body) := Lib.hid (by rw [← hsa, ← hsb, bytes_eq, bytes_eq]; simp)
  rw [hsa, hsb]
  clear hsa hsb
  have hNA : ((w.alloc (.cells #[.int .u8 a.kind, .int .u64 a.tx, .int .u64 a.prev, .int .u32 a.page, .int .u16 a.slot, .int .u64 a.next, .int .u64 a.number, .string sa, .slice pa a.dirty.length ca, .slice pt a.txns.length ct, .int .u64 a.ttx, .int .u64 a.tnum] 32)).alloc (.cells #[.int .u8 b.kind, .int .u64 b.tx, .int .u64 b.prev, .int .u32 b.page, .int .u16 b.slot, .int .u64 b.next, .int .u64 b.number, .string sb, .slice pb b.dirty.length cb, .slice pu b.txns.length cu, .int .u64 b.ttx, .int .u64 b.tnum] 32)).heap[w.heap.size]? = some (.cells #[.int .u8 a.kind, .int .u64 a.tx, .int .u64 a.prev, .int .u32 a.page, .int .u16 a.slot, .int .u64 a.next, .int .u64 a.number, .string sa, .slice pa a.dirty.length ca, .slice pt a.txns.length ct, .int .u64 a.ttx, .int .u64 a.tnum] 32 (0, 0)) := by rw [Below.heap_alloc _ _ _ (by simp)]; exact heap_alloc_new w _
  have hNB : ((w.alloc (.cells #[.int .u8 a.kind, .int .u64 a.tx, .int .u64 a.prev, .int .u32 a.page, .int .u16 a.slot, .int .u64 a.next, .int .u64 a.number, .string sa, .slice pa a.dirty.length ca, .slice pt a.txns.length ct, .int .u64 a.ttx, .int .u64 a.tnum] 32)).alloc (.cells #[.int .u8 b.kind, .int .u64 b.tx, .int .u64 b.prev, .int .u32 b.page, .int .u16 b.slot, .int .u64 b.next, .int .u64 b.number, .string sb, .slice pb b.dirty.length cb, .slice pu b.txns.length cu, .int .u64 b.ttx, .int .u64 b.tnum] 32)).heap[w.heap.size + 1]? = some (.cells #[.int .u8 b.kind, .int .u64 b.tx, .int .u64 b.prev, .int .u32 b.page, .int .u16 b.slot, .int .u64 b.next, .int .u64 b.number, .string sb, .slice pb b.dirty.length cb, .slice pu b.txns.length cu, .int .u64 b.ttx, .int .u64 b.tnum] 32 (0, 0)) := by have := heap_alloc_new (w.alloc (.cells #[.int .u8 a.kind, .int .u64 a.tx, .int .u64 a.prev, .int .u32 a.page, .int .u16 a.slot, .int .u64 a.next, .int .u64 a.number, .string sa, .slice pa a.dirty.length ca, .slice pt a.txns.length ct, .int .u64 a.ttx, .int .u64 a.tnum] 32)) (.cells #[.int .u8 b.kind, .int .u64 b.tx, .int .u64 b.prev, .int .u32 b.page, .int .u16 b.slot, .int .u64 b.next, .int .u64 b.number, .string sb, .slice pb b.dirty.length cb, .slice pu b.txns.length cu, .int .u64 b.ttx, .int .u64 b.tnum] 32); simpa using this
  have HBL := Lib.hid (((Below.refl w.heap.size w).alloc (Nat.le_refl _) (.cells #[.int .u8 a.kind, .int .u64 a.tx, .int .u64 a.prev, .int .u32 a.page, .int .u16 a.slot, .int .u64 a.next, .int .u64 a.number, .string sa, .slice pa a.dirty.length ca, .slice pt a.txns.length ct, .int .u64 a.ttx, .int .u64 a.tnum] 32)).alloc (by simp) (.cells #[.int .u8 b.kind, .int .u64 b.tx, .int .u64 b.prev, .int .u32 b.page, .int .u16 b.slot, .int .u64 b.next, .int .u64 b.number, .string sb, .slice pb b.dirty.length cb, .slice pu b.txns.length cu, .int .u64 b.ttx, .int .u64 b.tnum] 32))
  obtain ⟨c0, c1, c2, c3, c4, c5, c6, c7, c8, c9, c10, c11⟩ := box12s hNA
  obtain ⟨d0, d1, d2, d3, d4, d5, d6, d7, d8, d9, d10, d11⟩ := box12s hNB
  have HNA := Lib.hid hNA
  have HNB := Lib.hid hNB
  clear hNA hNB
  go_enter Try.func14, Try.ntmps14
  go_upto_region 1 with fail
  have hsz : w.heap.size + 2 = ((w.alloc (.cells #[.int .u8 a.kind, .int .u64 a.tx, .int .u64 a.prev, .int .u32 a.page, .int .u16 a.slot, .int .u64 a.next, .int .u64 a.number, .string sa, .slice pa a.dirty.length ca, .slice pt a.txns.length ct, .int .u64 a.ttx, .int .u64 a.tnum] 32)).alloc (.cells #[.int .u8 b.kind, .int .u64 b.tx, .int .u64 b.prev, .int .u32 b.page, .int .u16 b.slot, .int .u64 b.next, .int .u64 b.number, .string sb, .slice pb b.dirty.length cb, .slice pu b.txns.length cu, .int .u64 b.ttx, .int .u64 b.tnum] 32)).heap.size := by simp
  generalize hw1 : ((w.alloc (.cells #[.int .u8 a.kind, .int .u64 a.tx, .int .u64 a.prev, .int .u32 a.page, .int .u16 a.slot, .int .u64 a.next, .int .u64 a.number, .string sa, .slice pa a.dirty.length ca, .slice pt a.txns.length ct, .int .u64 a.ttx, .int .u64 a.tnum] 32)).alloc (.cells #[.int .u8 b.kind, .int .u64 b.tx, .int .u64 b.prev, .int .u32 b.page, .int .u16 b.slot, .int .u64 b.next, .int .u64 b.number, .string sb, .slice pb b.dirty.length cb, .slice pu b.txns.length cu, .int .u64 b.ttx, .int .u64 b.tnum] 32)) = w1 at *
  clear hw1
  go_cut [5, 6] (fun s5 s6 wx => ∃ g5 g6, s5 = .pointer (some ⟨g5, 0, none⟩) ∧ s6 = .pointer (some ⟨g6, 0, none⟩) ∧ Hid (Below w1.heap.size w1 wx) ∧ wx.cell? ⟨g5, 0, none⟩ = some (.slice pa a.dirty.length ca) ∧ wx.cell? ⟨g5, 1, none⟩ = some (.slice pt a.txns.length ct) ∧ wx.cell? ⟨g5, 2, none⟩ = some (.int .u64 a.ttx) ∧ wx.cell? ⟨g5, 3, none⟩ = some (.int .u64 a.tnum) ∧ wx.cell? ⟨g6, 0, none⟩ = some (.slice pb b.dirty.length cb) ∧ wx.cell? ⟨g6, 1, none⟩ = some (.slice pu b.txns.length cu) ∧ wx.cell? ⟨g6, 2, none⟩ = some (.int .u64 b.ttx) ∧ wx.cell? ⟨g6, 3, none⟩ = some (.int .u64 b.tnum))
  case first =>
    have n1 := World.new_ne w1 _ c8
    have n2 := World.new_ne w1 _ d8
    have q8 := (show w1.drew.cell? ⟨w.heap.size, 8, none⟩ = _ from c8)
    clear c0 c1 c2 c3 c4 c5 c6 c7 d0 d1 d2 d3 d4 d5 d6 d7
    go_region_held3 (fun w' => w'.cell? ⟨w.heap.size, 8, none⟩ = some (.slice pa a.dirty.length ca) ∧ w'.cell? ⟨w.heap.size, 9, none⟩ = some (.slice pt a.txns.length ct) ∧ w'.cell? ⟨w.heap.size, 10, none⟩ = some (.int .u64 a.ttx) ∧ w'.cell? ⟨w.heap.size, 11, none⟩ = some (.int .u64 a.tnum) ∧ w'.cell? ⟨w.heap.size + 1, 8, none⟩ = some (.slice pb b.dirty.length cb) ∧ w'.cell? ⟨w.heap.size + 1, 9, none⟩ = some (.slice pu b.txns.length cu) ∧ w'.cell? ⟨w.heap.size + 1, 10, none⟩ = some (.int .u64 b.ttx) ∧ w'.cell? ⟨w.heap.size + 1, 11, none⟩ = some (.int .u64 b.tnum)) (go_keep) (fail)
    all_goals go_wp2_with fail
    all_goals go_meet
    · have hX := (Below.heap_alloc (w1.alloc (.cells #[.slice pa a.dirty.length ca, .slice pt a.txns.length ct, .int .u64 a.ttx, .int .u64 a.tnum] 30)) (.cells #[.slice pb b.dirty.length cb, .slice pu b.txns.length cu, .int .u64 b.ttx, .int .u64 b.tnum] 30) w1.heap.size (by simp)).trans (heap_alloc_new w1 (.cells #[.slice pa a.dirty.length ca, .slice pt a.txns.length ct, .int .u64 a.ttx, .int .u64 a.tnum] 30))
      have hY := heap_alloc_new (w1.alloc (.cells #[.slice pa a.dirty.length ca, .slice pt a.txns.length ct, .int .u64 a.ttx, .int .u64 a.tnum] 30)) (.cells #[.slice pb b.dirty.length cb, .slice pu b.txns.length cu, .int .u64 b.ttx, .int .u64 b.tnum] 30)
      obtain ⟨x0, x1, x2, x3⟩ := box4 (W := ((w1.alloc (.cells #[.slice pa a.dirty.length ca, .slice pt a.txns.length ct, .int .u64 a.ttx, .int .u64 a.tnum] 30)).alloc (.cells #[.slice pb b.dirty.length cb, .slice pu b.txns.length cu, .int .u64 b.ttx, .int .u64 b.tnum] 30)).drew) hX
      obtain ⟨y0, y1, y2, y3⟩ := box4 (W := ((w1.alloc (.cells #[.slice pa a.dirty.length ca, .slice pt a.txns.length ct, .int .u64 a.ttx, .int .u64 a.tnum] 30)).alloc (.cells #[.slice pb b.dirty.length cb, .slice pu b.txns.length cu, .int .u64 b.ttx, .int .u64 b.tnum] 30)).drew) hY
      rw [World.size_alloc] at y0 y1 y2 y3
      exact ⟨_, _, rfl, rfl, Lib.hid (((Below.refl _ _).alloc (Nat.le_refl _) _).alloc (by simp) _).drew, x0, x1, x2, x3, y0, y1, y2, y3⟩
    · have hX := (Below.heap_alloc (w1.alloc (.cells #[.slice pb b.dirty.length cb, .slice pu b.txns.length cu, .int .u64 b.ttx, .int .u64 b.tnum] 30)) (.cells #[.slice pa a.dirty.length ca, .slice pt a.txns.length ct, .int .u64 a.ttx, .int .u64 a.tnum] 30) w1.heap.size (by simp)).trans (heap_alloc_new w1 (.cells #[.slice pb b.dirty.length cb, .slice pu b.txns.length cu, .int .u64 b.ttx, .int .u64 b.tnum] 30))
      have hY := heap_alloc_new (w1.alloc (.cells #[.slice pb b.dirty.length cb, .slice pu b.txns.length cu, .int .u64 b.ttx, .int .u64 b.tnum] 30)) (.cells #[.slice pa a.dirty.length ca, .slice pt a.txns.length ct, .int .u64 a.ttx, .int .u64 a.tnum] 30)
      obtain ⟨x0, x1, x2, x3⟩ := box4 (W := ((w1.alloc (.cells #[.slice pb b.dirty.length cb, .slice pu b.txns.length cu, .int .u64 b.ttx, .int .u64 b.tnum] 30)).alloc (.cells #[.slice pa a.dirty.length ca, .slice pt a.txns.length ct, .int .u64 a.ttx, .int .u64 a.tnum] 30)).drew) hX
      obtain ⟨y0, y1, y2, y3⟩ := box4 (W := ((w1.alloc (.cells #[.slice pb b.dirty.length cb, .slice pu b.txns.length cu, .int .u64 b.ttx, .int .u64 b.tnum] 30)).alloc (.cells #[.slice pa a.dirty.length ca, .slice pt a.txns.length ct, .int .u64 a.ttx, .int .u64 a.tnum] 30)).drew) hY
      rw [World.size_alloc] at y0 y1 y2 y3
      exact ⟨_, _, rfl, rfl, Lib.hid (((Below.refl _ _).alloc (Nat.le_refl _) _).alloc (by simp) _).drew, y0, y1, y2, y3, x0, x1, x2, x3⟩
  case rest =>
    clear c0 c1 c2 c3 c4 c5 c6 c7 c8 c9 c10 c11 d0 d1 d2 d3 d4 d5 d6 d7 d8 d9 d10 d11
    obtain ⟨g5, g6, rfl, rfl, HX, x0, x1, x2, x3, y0, y1, y2, y3⟩ := hcut
    obtain ⟨w2, hw2⟩ : ∃ x, x = wc := ⟨_, rfl⟩
    subst hw2
    have HB2 := Lib.hid (HBL.out.step HX.out)
    obtain ⟨c0, c1, c2, c3, c4, c5, c6, c7, c8, c9, c10, c11⟩ := box12s ((HX.out.block _ (Array.getElem?_eq_some_iff.1 HNA.out).1).trans HNA.out)
    obtain ⟨d0, d1, d2, d3, d4, d5, d6, d7, d8, d9, d10, d11⟩ := box12s ((HX.out.block _ (Array.getElem?_eq_some_iff.1 HNB.out).1).trans HNB.out)
    clear c8 c9 c10 c11 d8 d9 d10 d11 hsz
    by_cases h0 : a.kind = b.kind
    · have z0 : ((a.kind : Int) == b.kind) = true := by simp [h0]
      by_cases h1 : a.tx = b.tx
      · have z1 : ((a.tx : Int) == b.tx) = true := by simp [h1]
        by_cases h2 : a.prev = b.prev
        · have z2 : ((a.prev : Int) == b.prev) = true := by simp [h2]
          by_cases h3 : rEq a.page a.slot b.page b.slot = true
          · have z3 : rEq a.page a.slot b.page b.slot = true := by simpa using h3
            by_cases h4 : a.next = b.next
            · have z4 : ((a.next : Int) == b.next) = true := by simp [h4]
              by_cases h5 : a.number = b.number
              · have z5 : ((a.number : Int) == b.number) = true := by simp [h5]
                by_cases h6 : a.body = b.body
                · have z6 : (sa.toList == sb.toList) = true := by rw [HBO.out.1, HBO.out.2, h6]; simp
                  by_cases h7 : a.ttx = b.ttx
                  · have z7 : ((a.ttx : Int) == b.ttx) = true := by simp [h7]
                    by_cases h8 : a.tnum = b.tnum
                    · have z8 : ((a.tnum : Int) == b.tnum) = true := by simp [h8]
                      by_cases h9 : a.dirty = b.dirty
                      · have z9 : decide (a.dirty = b.dirty) = true := by simp [h9]
                        by_cases h10 : a.txns = b.txns
                        · have z10 : decide (a.txns = b.txns) = true := by simp [h10]
                          have HR : Hid (decide (a = b) = true) := Lib.hid (by obtain ⟨a0, a1, a2, a3, a4, a5, a6, a7, a8, a9, a10, a11⟩ := a; obtain ⟨b0, b1, b2, b3, b4, b5, b6, b7, b8, b9, b10, b11⟩ := b; unfold rEq at h3; simp only [Bool.and_eq_true, decide_eq_true_eq] at h0 h1 h2 h3 h4 h5 h6 h7 h8 h9 h10 ⊢; obtain ⟨h3, h3b⟩ := h3; subst h0 h1 h2 h3 h3b h4 h5 h6 h7 h8 h9 h10; rfl)
                          clear h0 h1 h2 h3 h4 h5 h6 h7 h8 h9 h10
                          go_wp2_with fail
                          refine (eqD_any a.dirty b.dirty _ _ _ (HIA.out.step HB2.out).1 (HIB.out.step HB2.out).1).mono ?_
                          rintro e w3 ⟨rfl, hbb⟩
                          replace x1 := (hbb.cell (p := ⟨g5, 1, none⟩) (World.block_lt_of_cell? _ _ x1)).trans x1
                          replace y1 := (hbb.cell (p := ⟨g6, 1, none⟩) (World.block_lt_of_cell? _ _ y1)).trans y1
                          replace HB2 := Lib.hid (HB2.out.step hbb)
                          clear hbb x0 x2 x3 y0 y2 y3 c0 c1 c2 c3 c4 c5 c6 c7 d0 d1 d2 d3 d4 d5 d6 d7 HX
                          rw [z9]
                          go_wp2_with fail
                          refine (eqT_any a.txns b.txns _ _ _ (HIA.out.step HB2.out).2 (HIB.out.step HB2.out).2).mono ?_
                          rintro e w4 ⟨rfl, hbb⟩
                          replace HB2 := Lib.hid (HB2.out.step hbb)
                          clear hbb
                          rw [z10]
                          go_wp2
                          go_ret
                          exact ⟨ret_b HR.out.symm, HB2.out⟩
                        · have z10 : decide (a.txns = b.txns) = false := by simp [h10]
                          have HR : Hid (decide (a = b) = false) := Lib.hid (by rw [decide_eq_false_iff_not]; intro h; exact h10 (by rw [h]))
                          clear h0 h1 h2 h3 h4 h5 h6 h7 h8 h9 h10
                          go_wp2_with fail
                          refine (eqD_any a.dirty b.dirty _ _ _ (HIA.out.step HB2.out).1 (HIB.out.step HB2.out).1).mono ?_
                          rintro e w3 ⟨rfl, hbb⟩
                          replace x1 := (hbb.cell (p := ⟨g5, 1, none⟩) (World.block_lt_of_cell? _ _ x1)).trans x1
                          replace y1 := (hbb.cell (p := ⟨g6, 1, none⟩) (World.block_lt_of_cell? _ _ y1)).trans y1
                          replace HB2 := Lib.hid (HB2.out.step hbb)
                          clear hbb x0 x2 x3 y0 y2 y3 c0 c1 c2 c3 c4 c5 c6 c7 d0 d1 d2 d3 d4 d5 d6 d7 HX
                          rw [z9]
                          go_wp2_with fail
                          refine (eqT_any a.txns b.txns _ _ _ (HIA.out.step HB2.out).2 (HIB.out.step HB2.out).2).mono ?_
                          rintro e w4 ⟨rfl, hbb⟩
                          replace HB2 := Lib.hid (HB2.out.step hbb)
                          clear hbb
                          rw [z10]
                          go_wp2
                          go_ret
                          exact ⟨ret_b HR.out.symm, HB2.out⟩
                      · have z9 : decide (a.dirty = b.dirty) = false := by simp [h9]
                        have HR : Hid (decide (a = b) = false) := Lib.hid (by rw [decide_eq_false_iff_not]; intro h; exact h9 (by rw [h]))
                        clear h0 h1 h2 h3 h4 h5 h6 h7 h8 h9
                        go_wp2_with fail
                        refine (eqD_any a.dirty b.dirty _ _ _ (HIA.out.step HB2.out).1 (HIB.out.step HB2.out).1).mono ?_
                        rintro e w3 ⟨rfl, hbb⟩
                        replace x1 := (hbb.cell (p := ⟨g5, 1, none⟩) (World.block_lt_of_cell? _ _ x1)).trans x1
                        replace y1 := (hbb.cell (p := ⟨g6, 1, none⟩) (World.block_lt_of_cell? _ _ y1)).trans y1
                        replace HB2 := Lib.hid (HB2.out.step hbb)
                        clear hbb x0 x2 x3 y0 y2 y3 c0 c1 c2 c3 c4 c5 c6 c7 d0 d1 d2 d3 d4 d5 d6 d7 HX
                        rw [z9]
                        go_wp2
                        go_ret
                        exact ⟨ret_b HR.out.symm, HB2.out⟩
                    · have z8 : ((a.tnum : Int) == b.tnum) = false := by simp; omega
                      have HR : Hid (decide (a = b) = false) := Lib.hid (by rw [decide_eq_false_iff_not]; intro h; exact h8 (by rw [h]))
                      clear h0 h1 h2 h3 h4 h5 h6 h7 h8
                      go_wp2
                      go_ret
                      exact ⟨ret_b HR.out.symm, HB2.out⟩
                  · have z7 : ((a.ttx : Int) == b.ttx) = false := by simp; omega
                    have HR : Hid (decide (a = b) = false) := Lib.hid (by rw [decide_eq_false_iff_not]; intro h; exact h7 (by rw [h]))
                    clear h0 h1 h2 h3 h4 h5 h6 h7
                    go_wp2
                    go_ret
                    exact ⟨ret_b HR.out.symm, HB2.out⟩
                · have z6 : (sa.toList == sb.toList) = false := by rw [HBO.out.1, HBO.out.2, beq_eq_false_iff_ne]; exact h6
                  have HR : Hid (decide (a = b) = false) := Lib.hid (by rw [decide_eq_false_iff_not]; intro h; exact h6 (by rw [h]))
                  clear h0 h1 h2 h3 h4 h5 h6
                  go_wp2
                  go_ret
                  exact ⟨ret_b HR.out.symm, HB2.out⟩
              · have z5 : ((a.number : Int) == b.number) = false := by simp; omega
                have HR : Hid (decide (a = b) = false) := Lib.hid (by rw [decide_eq_false_iff_not]; intro h; exact h5 (by rw [h]))
                clear h0 h1 h2 h3 h4 h5
                go_wp2
                go_ret
                exact ⟨ret_b HR.out.symm, HB2.out⟩
            · have z4 : ((a.next : Int) == b.next) = false := by simp; omega
              have HR : Hid (decide (a = b) = false) := Lib.hid (by rw [decide_eq_false_iff_not]; intro h; exact h4 (by rw [h]))
              clear h0 h1 h2 h3 h4
              go_wp2
              go_ret
              exact ⟨ret_b HR.out.symm, HB2.out⟩
          · have z3 : rEq a.page a.slot b.page b.slot = false := by simpa using h3
            have HR : Hid (decide (a = b) = false) := Lib.hid (by rw [decide_eq_false_iff_not]; intro h; have e3 := h3; rw [h] at e3; simp [rEq] at e3)
            clear h0 h1 h2 h3
            go_wp2
            go_ret
            exact ⟨ret_b HR.out.symm, HB2.out⟩
        · have z2 : ((a.prev : Int) == b.prev) = false := by simp; omega
          have HR : Hid (decide (a = b) = false) := Lib.hid (by rw [decide_eq_false_iff_not]; intro h; exact h2 (by rw [h]))
          clear h0 h1 h2
          go_wp2
          go_ret
          exact ⟨ret_b HR.out.symm, HB2.out⟩
      · have z1 : ((a.tx : Int) == b.tx) = false := by simp; omega
        have HR : Hid (decide (a = b) = false) := Lib.hid (by rw [decide_eq_false_iff_not]; intro h; exact h1 (by rw [h]))
        clear h0 h1
        go_wp2
        go_ret
        exact ⟨ret_b HR.out.symm, HB2.out⟩
    · have z0 : ((a.kind : Int) == b.kind) = false := by simp; omega
      have HR : Hid (decide (a = b) = false) := Lib.hid (by rw [decide_eq_false_iff_not]; intro h; exact h0 (by rw [h]))
      clear h0
      go_wp2
      go_ret
      exact ⟨ret_b HR.out.symm, HB2.out⟩
end Go.Proofs.Ytpkmnihiepbmcaa