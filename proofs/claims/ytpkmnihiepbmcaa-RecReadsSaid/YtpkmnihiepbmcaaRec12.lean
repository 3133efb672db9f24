/-
  Records: works of the laws returns true.
-/
import Derived.Test.YtpkmnihiepbmcaaDec3
import Derived.Test.YtpkmnihiepbmcaaRec4
namespace Go.Proofs.Ytpkmnihiepbmcaa
open Go.RowKit
open PRec (Rec Drt Atx)
def wR : Rec := ⟨1, 1, 0, 0, 0, 0, 0, [], [], [], 0, 0⟩
def wR2 : Rec := ⟨1, 0, 0, 0, 0, 0, 0, [], [], [], 0, 0⟩
def wU : Rec := ⟨2, 0, 0, 1, 0, 0, 0, [], [], [], 0, 0⟩
def wU2 : Rec := ⟨2, 0, 0, 0, 0, 0, 0, [], [], [], 0, 0⟩
theorem wk_ok (r : Rec) (h : r = wR ∨ r = wR2) : r.Ok := by
  rcases h with rfl | rfl <;> exact ⟨by decide, by decide, by decide, by decide, by decide, by decide, by decide, (fun _ h => by cases h), (fun _ h => by cases h), by decide, by decide⟩
theorem wk_e1 : PRec.enc wR = [1, 0, 0, 0, 0, 0, 0, 0, 1, 0, 0, 0, 0, 0, 0, 0, 0] := by decide +kernel
theorem wk_r1 : PRec.err wR = 0 := by decide +kernel
theorem wk_e2 : PRec.enc wR2 = [] := by decide +kernel
theorem wk_r2 : PRec.err wR2 = 2 := by decide +kernel
theorem wk_d1 : PRec.dec [1, 0, 0, 0, 0, 0, 0, 0, 1, 0, 0, 0, 0, 0, 0, 0, 0] = (wR, 0) := by decide +kernel
theorem wk_d2 : PRec.dec [1, 0, 0, 0, 0, 0, 0, 0, 1, 0, 0, 0, 0, 0, 0, 0, 0, 120] = (PRec.zero, 7) := by decide +kernel
theorem wk_app : (⟨#[1, 0, 0, 0, 0, 0, 0, 0, 1, 0, 0, 0, 0, 0, 0, 0, 0]⟩ : ByteArray) ++ ⟨#[120]⟩ = ⟨#[1, 0, 0, 0, 0, 0, 0, 0, 1, 0, 0, 0, 0, 0, 0, 0, 0, 120]⟩ := by decide +kernel
theorem wk_in (w : World) (r : Rec) (hd : r.dirty = []) (ht : r.txns = []) : RecIn w r nils nils := by
  unfold RecIn; rw [hd, ht]; exact ⟨RdS.nil _ _, RdS.nil _ _⟩
theorem wk_enc1 (w : World) : Calls Try.prog 9 #[.agg #[.int .u8 1, .int .u64 1, .int .u64 0, .int .u32 0, .int .u16 0, .int .u64 0, .int .u64 0, .string ⟨#[]⟩, .slice none 0 0, .slice none 0 0, .int .u64 0, .int .u64 0]] w fun e w' => e = .returned (.tuple #[.string ⟨#[1, 0, 0, 0, 0, 0, 0, 0, 1, 0, 0, 0, 0, 0, 0, 0, 0]⟩, .int .i64 0]) ∧ Below w.heap.size w w' := by
  refine (enc9_any wR (wk_ok _ (.inl rfl)) (by decide) (by decide) (by decide) nils nils w (wk_in _ _ rfl rfl)).mono ?_
  rintro e w' ⟨rfl, hb⟩
  exact ⟨by rw [wk_e1, wk_r1], hb⟩
theorem wk_enc2 (w : World) : Calls Try.prog 9 #[.agg #[.int .u8 1, .int .u64 0, .int .u64 0, .int .u32 0, .int .u16 0, .int .u64 0, .int .u64 0, .string ⟨#[]⟩, .slice none 0 0, .slice none 0 0, .int .u64 0, .int .u64 0]] w fun e w' => e = .returned (.tuple #[.string ⟨#[]⟩, .int .i64 2]) ∧ Below w.heap.size w w' := by
  refine (enc9_any wR2 (wk_ok _ (.inr rfl)) (by decide) (by decide) (by decide) nils nils w (wk_in _ _ rfl rfl)).mono ?_
  rintro e w' ⟨rfl, hb⟩
  exact ⟨by rw [wk_e2, wk_r2], hb⟩
theorem wk_dec1 (w : World) : Calls Try.prog 17 #[.string ⟨#[1, 0, 0, 0, 0, 0, 0, 0, 1, 0, 0, 0, 0, 0, 0, 0, 0]⟩] w fun e w' => ∃ p n c q m d, e = .returned (.tuple #[.agg #[.int .u8 1, .int .u64 1, .int .u64 0, .int .u32 0, .int .u16 0, .int .u64 0, .int .u64 0, .string ⟨#[]⟩, .slice p n c, .slice q m d, .int .u64 0, .int .u64 0], .int .i64 0]) ∧ Below w.heap.size w w' := by
  refine (dec9_any _ (by decide) w).mono ?_
  rintro e w' ⟨vd, vt, rfl, hi, hb⟩
  rw [show (⟨#[1, 0, 0, 0, 0, 0, 0, 0, 1, 0, 0, 0, 0, 0, 0, 0, 0]⟩ : ByteArray).data.toList = [1, 0, 0, 0, 0, 0, 0, 0, 1, 0, 0, 0, 0, 0, 0, 0, 0] from rfl, wk_d1] at hi ⊢
  obtain ⟨p, c, rfl, _⟩ := hi.1.form
  obtain ⟨q, d, rfl, _⟩ := hi.2.form
  exact ⟨p, _, c, q, _, d, rfl, hb⟩
theorem wk_dec2 (w : World) : Calls Try.prog 17 #[.string ⟨#[1, 0, 0, 0, 0, 0, 0, 0, 1, 0, 0, 0, 0, 0, 0, 0, 0, 120]⟩] w fun e w' => ∃ p n c q m d, e = .returned (.tuple #[.agg #[.int .u8 0, .int .u64 0, .int .u64 0, .int .u32 0, .int .u16 0, .int .u64 0, .int .u64 0, .string ⟨#[]⟩, .slice p n c, .slice q m d, .int .u64 0, .int .u64 0], .int .i64 7]) ∧ Below w.heap.size w w' := by
  refine (dec9_any _ (by decide) w).mono ?_
  rintro e w' ⟨vd, vt, rfl, hi, hb⟩
  rw [show (⟨#[1, 0, 0, 0, 0, 0, 0, 0, 1, 0, 0, 0, 0, 0, 0, 0, 0, 120]⟩ : ByteArray).data.toList = [1, 0, 0, 0, 0, 0, 0, 0, 1, 0, 0, 0, 0, 0, 0, 0, 0, 120] from rfl, wk_d2] at hi ⊢
  obtain ⟨p, c, rfl, _⟩ := hi.1.form
  obtain ⟨q, d, rfl, _⟩ := hi.2.form
  exact ⟨p, _, c, q, _, d, rfl, hb⟩
theorem wk_und1 (w : World) : Calls Try.prog 16 #[.agg #[.int .u8 2, .int .u64 0, .int .u64 0, .int .u32 1, .int .u16 0, .int .u64 0, .int .u64 0, .string ⟨#[]⟩, .slice none 0 0, .slice none 0 0, .int .u64 0, .int .u64 0]] w fun e w' => e = .returned (.bool true) ∧ Below w.heap.size w w' := undone_any wU nils nils w
theorem wk_und2 (w : World) : Calls Try.prog 16 #[.agg #[.int .u8 2, .int .u64 0, .int .u64 0, .int .u32 0, .int .u16 0, .int .u64 0, .int .u64 0, .string ⟨#[]⟩, .slice none 0 0, .slice none 0 0, .int .u64 0, .int .u64 0]] w fun e w' => e = .returned (.bool false) ∧ Below w.heap.size w w' := undone_any wU2 nils nils w
set_option maxRecDepth 100000 in
set_option maxHeartbeats 4000000 in
theorem works9_any (w : World) : Calls Try.prog 8 #[] w fun e w' => e = .returned (.bool true) ∧ Below w.heap.size w w' := by
  have e7 := wk_app
  have hB := Lib.hid (Below.refl w.heap.size w)
  have E1 := Lib.hid wk_enc1
  have E2 := Lib.hid wk_enc2
  have D1 := Lib.hid wk_dec1
  have D2 := Lib.hid wk_dec2
  have U1 := Lib.hid wk_und1
  have U2 := Lib.hid wk_und2
  go_enter Try.func8, Try.ntmps8
  go_wp2_with fail
  refine (E1.out _).mono ?_; rintro e w1 ⟨rfl, hb⟩; replace hB := Lib.hid (hB.out.step hb); clear hb
  go_wp2_with fail
  refine (D1.out _).mono ?_; rintro e w2 ⟨p, n, c, q, m, d, rfl, hb⟩; replace hB := Lib.hid (hB.out.step hb); clear hb
  have hN := fun (A : Array Value) (t : TypeId) => heap_alloc_new w2 (.cells A t)
  have HN := Lib.hid hN
  have HB2 := Lib.hid (fun (A : Array Value) (t : TypeId) => hB.out.alloc hB.out.size (.cells A t))
  clear hN
  go_wp2_with fail
  refine (E2.out _).mono ?_; rintro e w3 ⟨rfl, hb⟩
  have h3 := (hb.block _ (by simp)).trans (HN.out _ _)
  have HB3 := Lib.hid ((HB2.out _ _).step hb)
  obtain ⟨g, hg⟩ : ∃ g, w2.heap.size = g := ⟨_, rfl⟩
  rw [hg] at h3 ⊢
  clear hb hB HB2 hg
  go_wp2_with fail
  refine (D2.out _).mono ?_; rintro e w4 ⟨p', n', c', q', m', d', rfl, hb⟩
  have h4 := (hb.block _ (Array.getElem?_eq_some_iff.1 h3).1).trans h3
  have hg4 := (Array.getElem?_eq_some_iff.1 h4).1
  have h5 := fun o => (Below.heap_alloc w4 o g hg4).trans h4
  have HB5 := Lib.hid (fun o => (HB3.out.step hb).alloc (HB3.out.step hb).size o)
  have H5 := Lib.hid h5
  have c0 := fun o => (box12d (h5 o)).1
  have c1 := fun o => (box12d (h5 o)).2.1
  clear hb h3 h4 hg4 h5 HB3
  go_wp2_with fail
  refine (U1.out _).mono ?_; rintro e w6 ⟨rfl, hb⟩
  have HB6 := Lib.hid ((HB5.out _).step hb)
  clear hb c0 c1
  go_wp2_with fail
  refine (U2.out _).mono ?_; rintro e w7 ⟨rfl, hb⟩
  have HB7 := Lib.hid (HB6.out.step hb)
  clear hb
  go_wp2
  go_ret
  exact ⟨rfl, HB7.out⟩
end Go.Proofs.Ytpkmnihiepbmcaa
