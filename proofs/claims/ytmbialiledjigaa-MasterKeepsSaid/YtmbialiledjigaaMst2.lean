/-
  Masters: Encode of the program, and of the document.
-/
import Derived.Test.YtmbialiledjigaaMst
import Derived.Deep.RegionHeld3
import Derived.Deep.MidRow
namespace Go.Proofs.Ytmbialiledjigaa
open Go.RowKit
open PMst (Mst)
theorem rmay_any (m : Mst) (w : World) : Calls Try.prog 23 #[mv m] w fun e w' => e = .returned (.bool (PMst.may m)) ∧ Below w.heap.size w w' := by
  unfold PMst.may mv
  obtain ⟨c, l, k, f, g⟩ := m
  simp only
  by_cases h1 : 0 < c
  · by_cases h2 : 0 < l
    · by_cases h3 : 0 < f
      · by_cases h4 : k = 0
        · subst h4
          go_enter Try.func23, Try.ntmps23
          go_wp2
          go_ret
          exact ⟨by simp [h1, h2, h3], (Below.refl _ _).alloc (Nat.le_refl _) _⟩
        · have h5 : ((k : Int) == 0) = false := by simpa using h4
          by_cases h6 : f ≤ k
          · go_enter Try.func23, Try.ntmps23
            go_wp2
            go_ret
            exact ⟨by simp [h1, h2, h3, h6], (Below.refl _ _).alloc (Nat.le_refl _) _⟩
          · go_enter Try.func23, Try.ntmps23
            go_wp2
            go_ret
            exact ⟨by simp [h1, h2, h3, h4, h6], (Below.refl _ _).alloc (Nat.le_refl _) _⟩
      · have h3 : decide (0 < f) = false := by simpa using h3
        go_enter Try.func23, Try.ntmps23
        go_wp2
        go_ret
        exact ⟨by simp [h3], (Below.refl _ _).alloc (Nat.le_refl _) _⟩
    · have h2 : decide (0 < l) = false := by simpa using h2
      go_enter Try.func23, Try.ntmps23
      go_wp2
      go_ret
      exact ⟨by simp [h2], (Below.refl _ _).alloc (Nat.le_refl _) _⟩
  · have h1 : decide (0 < c) = false := by simpa using h1
    go_enter Try.func23, Try.ntmps23
    go_wp2
    go_ret
    exact ⟨by simp [h1], (Below.refl _ _).alloc (Nat.le_refl _) _⟩
theorem rput12_any (n : Nat) (hn : n < 18446744073709551616) (w : World) : Calls Try.prog 24 #[.int .u64 n] w fun e w' => e = .returned (.string ⟨(PWord.be 8 n).toArray⟩) ∧ Below w.heap.size w w' := by
  have hp : Hid (PWord.put n 8 = (PWord.be 8 n, true)) := Lib.hid (put_yes n 8 (by omega) (by omega) (Nat.div_eq_of_lt hn))
  go_enter Try.func24, Try.ntmps24
  go_wp2_with fail
  refine (rput_any n 8 hn _).mono ?_
  rintro e w1 ⟨rfl, hb⟩
  rw [hp.out]
  go_wp2
  go_ret
  exact ⟨rfl, hb⟩
theorem rget12_any (s : ByteArray) (pos : Int) (hs : s.size ≤ maxLen) (w : World) : Calls Try.prog 27 #[.string s, .int .i64 pos] w fun e w' => e = .returned (.int .u64 ((PWord.get s.data.toList pos 8).1 : Int)) ∧ w = w' := by
  go_enter Try.func27, Try.ntmps27
  go_wp2_with fail
  refine (rget_any s pos 8 hs _).mono ?_
  rintro e w1 ⟨rfl, rfl⟩
  go_wp2
  go_ret
  exact ⟨rfl, rfl⟩
/-! ### Encode of the document -/
def fiveV (m : Mst) : Array Value := #[.int .u64 m.count, .int .u64 m.life, .int .u64 m.check, .int .u64 m.first, .bool m.clean]
theorem cells5 {W : World} {b : Nat} {v0 v1 v2 v3 v4 : Value} {t : TypeId} {fz : Nat × Nat} (h : W.heap[b]? = some (.cells #[v0, v1, v2, v3, v4] t fz)) :
    W.cell? ⟨b, 0, none⟩ = some v0 ∧ W.cell? ⟨b, 1, none⟩ = some v1 ∧ W.cell? ⟨b, 2, none⟩ = some v2 ∧ W.cell? ⟨b, 3, none⟩ = some v3 ∧ W.cell? ⟨b, 4, none⟩ = some v4 := by
  simp [World.cell?, h]
def front (m : Mst) : List UInt8 := [1] ++ PWord.be 8 m.count ++ PWord.be 8 m.life ++ PWord.be 8 m.check ++ PWord.be 8 m.first
theorem front_length (m : Mst) : (front m).length = 33 := by simp [front, PWord.be_length]
theorem app_str4 (a b c d : List UInt8) : (⟨#[1]⟩ : ByteArray) ++ ⟨a.toArray⟩ ++ ⟨b.toArray⟩ ++ ⟨c.toArray⟩ ++ ⟨d.toArray⟩ = ⟨([1] ++ a ++ b ++ c ++ d).toArray⟩ := by
  have h : ∀ (x y : List UInt8), (⟨x.toArray⟩ : ByteArray) ++ ⟨y.toArray⟩ = ⟨(x ++ y).toArray⟩ := fun x y => by rw [app_mk]
  rw [show (⟨#[1]⟩ : ByteArray) = ⟨([1] : List UInt8).toArray⟩ from rfl, h, h, h, h]
attribute [local go_sem] PWord.be_length
set_option maxHeartbeats 4000000 in
theorem renc_any (m : Mst) (hm : m.Ok) (w : World) : Calls Try.prog 9 #[mv m] w fun e w' => e = .returned (.string ⟨(PMst.enc m).toArray⟩) ∧ Below w.heap.size w w' := by
  have HM := Lib.hid (rmay_any m)
  have hm1 := hm.1
  have hm2 := hm.2.1
  have hm3 := hm.2.2.1
  have hm4 := hm.2.2.2
  cases hmay : PMst.may m
  · have HN := Lib.hid (PMst.enc_nil hmay)
    rw [hmay] at HM
    unfold mv at HM ⊢
    clear hmay hm
    go_enter Try.func9, Try.ntmps9
    go_wp2_with fail
    refine (HM.out _).mono ?_
    rintro e w1 ⟨rfl, hb⟩
    have HB := Lib.hid (((Below.refl w.heap.size w).alloc (Nat.le_refl _) _).step hb)
    clear hb
    go_wp2
    go_ret
    exact ⟨by rw [HN.out]; rfl, HB.out⟩
  · have HE : Hid (PMst.enc m = PSum.sealL (PMst.body m)) := Lib.hid (by unfold PMst.enc; rw [if_pos hmay])
    rw [hmay] at HM
    obtain ⟨L0, hL0⟩ : ∃ L, front m = L := ⟨_, rfl⟩
    have HAP : Hid ((⟨#[1]⟩ : ByteArray) ++ ⟨(PWord.be 8 m.count).toArray⟩ ++ ⟨(PWord.be 8 m.life).toArray⟩ ++ ⟨(PWord.be 8 m.check).toArray⟩ ++ ⟨(PWord.be 8 m.first).toArray⟩ = ⟨L0.toArray⟩) := Lib.hid (by rw [app_str4, ← hL0]; rfl)
    have hlen := front_length m
    rw [hL0] at hlen
    have HBD : Hid (PMst.body m = L0 ++ (PMst.flag m :: List.replicate 90 0)) := Lib.hid (by rw [← hL0]; rfl)
    clear hL0
    unfold mv at HM ⊢
    clear hmay hm
    have hN : (w.alloc (.cells #[.int .u64 m.count, .int .u64 m.life, .int .u64 m.check, .int .u64 m.first, .bool m.clean] 24)).heap[w.heap.size]? = some (.cells #[.int .u64 m.count, .int .u64 m.life, .int .u64 m.check, .int .u64 m.first, .bool m.clean] 24 (0, 0)) := heap_alloc_new w _
    have HB := Lib.hid (((Below.refl w.heap.size w).alloc (Nat.le_refl _) (.cells #[.int .u64 m.count, .int .u64 m.life, .int .u64 m.check, .int .u64 m.first, .bool m.clean] 24)))
    go_enter Try.func9, Try.ntmps9
    go_wp2_with fail
    refine (HM.out _).mono ?_
    rintro e w1 ⟨rfl, hb⟩
    have hlt := (Array.getElem?_eq_some_iff.1 hN).1
    replace hN : w1.drew.heap[w.heap.size]? = _ := (hb.block _ hlt).trans hN
    replace HB := Lib.hid ((HB.out.step hb).drew)
    clear hb hlt
    go_wp2_with fail
    go_region_held3 (fun w' => w'.cell? ⟨w.heap.size, 0, none⟩ = some (.int .u64 m.count) ∧ w'.cell? ⟨w.heap.size, 1, none⟩ = some (.int .u64 m.life) ∧ w'.cell? ⟨w.heap.size, 2, none⟩ = some (.int .u64 m.check) ∧ w'.cell? ⟨w.heap.size, 3, none⟩ = some (.int .u64 m.first))
      (first | exact ⟨(cells5 hN).1, (cells5 hN).2.1, (cells5 hN).2.2.1, (cells5 hN).2.2.2.1⟩ | go_keep)
      (first
        | (go_at_call 24; refine (rput12_any _ ?_ _).mono ?_; (first | exact hm1 | exact hm2 | exact hm3 | exact hm4); rintro e w2 ⟨rfl, hb⟩; have hlt := (Array.getElem?_eq_some_iff.1 hN).1; replace hN := (hb.block _ hlt).trans hN; replace HB := Lib.hid (HB.out.step hb); clear hb hlt))
    rw [HAP.out]
    have hc4 := (cells5 hN).2.2.2.2
    clear hN HAP hm1 hm2 hm3 hm4
    have hend : ∀ (b : UInt8), m.clean = (if b = 1 then true else false) → b = 0 ∨ b = 1 → PMst.flag m = b := by
      intro b h h2
      unfold PMst.flag
      rcases h2 with rfl | rfl <;> simp_all
    have HEND := Lib.hid hend
    clear hend
    cases hcl : m.clean
    · rw [hcl] at hc4
      have HF := Lib.hid (HEND.out 0 hcl (.inl rfl))
      obtain ⟨L1, hL1⟩ : ∃ L1, L0 = L1 := ⟨_, rfl⟩
      rw [hL1]
      have HLn : Hid (L1.length + 91 = 124) := Lib.hid (by rw [← hL1]; omega)
      have HL : Hid (PMst.body m = L1 ++ List.replicate 91 0) := Lib.hid (by rw [HBD.out, HF.out, ← hL1]; rfl)
      clear hcl HEND HF HBD hlen hL1
      go_wp2
      go_loop [3] (fun sv => ∃ k : Nat, k ≤ 91 ∧ sv = .string ⟨(L1 ++ List.replicate k 0).toArray⟩) (fun sv => match sv with | .string b => 124 - b.size | _ => 0)
      case atStart => exact ⟨0, by omega, by simp⟩
      case round =>
        obtain ⟨k, hk, rfl⟩ := hrel
        have hsz : (⟨(L1 ++ List.replicate k 0).toArray⟩ : ByteArray).size = 33 + k := by rw [size_mk]; simp; have := HLn.out; omega
        have hap : (⟨(L1 ++ List.replicate k 0).toArray⟩ : ByteArray) ++ ⟨#[0]⟩ = ⟨(L1 ++ List.replicate (k + 1) 0).toArray⟩ := by
          rw [show (⟨#[0]⟩ : ByteArray) = ⟨([0] : List UInt8).toArray⟩ from rfl, app_mk, List.append_assoc, List.replicate_succ']
        have HSZ := Lib.hid hsz
        have HAP := Lib.hid hap
        obtain ⟨t, ht⟩ : ∃ t, (⟨(L1 ++ List.replicate k 0).toArray⟩ : ByteArray) = t := ⟨_, rfl⟩
        rw [ht] at HSZ HAP
        have hsi : (t.size : Int) = 33 + k := by rw [HSZ.out]; simp
        have HTT := Lib.hid ht
        rw [ht]
        clear hap ht hsz
        by_cases hlt : k < 91
        · have hl1 : (33 : Int) + k < 124 := by omega
          go_wp2
          refine ⟨⟨k + 1, by omega, by rw [HAP.out]⟩, ?_⟩
          show 124 - (t ++ ⟨#[0]⟩).size < 124 - t.size
          rw [HAP.out, HSZ.out, size_mk]
          simp
          have := HLn.out
          omega
        · have hkk : k = 91 := by omega
          subst hkk
          have hl1 : ¬ (33 : Int) + (91 : Nat) < 124 := by omega
          have hts : t.size ≤ 1000000 := by rw [HSZ.out]; omega
          have HTT2 : Hid (t.data.toList = PMst.body m) := Lib.hid (by rw [HL.out, ← HTT.out])
          go_wp2_with fail
          refine (rseal_any t hts _).mono ?_
          rintro e w9 ⟨rfl, hb⟩
          have HB9 := Lib.hid (HB.out.step hb)
          rw [HTT2.out]
          clear hb
          go_wp2
          go_ret
          exact ⟨ret_str (by rw [HE.out]), HB9.out⟩
    · rw [hcl] at hc4
      have HF := Lib.hid (HEND.out 1 hcl (.inr rfl))
      obtain ⟨L1, hL1⟩ : ∃ L1, L0 ++ [1] = L1 := ⟨_, rfl⟩
      have hap1 : (⟨L0.toArray⟩ : ByteArray) ++ ⟨#[1]⟩ = ⟨L1.toArray⟩ := by rw [← hL1, show (⟨#[1]⟩ : ByteArray) = ⟨([1] : List UInt8).toArray⟩ from rfl, app_mk]
      have HLn : Hid (L1.length + 90 = 124) := Lib.hid (by rw [← hL1]; simp; omega)
      have HL : Hid (PMst.body m = L1 ++ List.replicate 90 0) := Lib.hid (by rw [HBD.out, HF.out, ← hL1]; simp)
      clear hcl HEND HF HBD hL1
      go_wp2
      go_loop [3] (fun sv => ∃ k : Nat, k ≤ 90 ∧ sv = .string ⟨(L1 ++ List.replicate k 0).toArray⟩) (fun sv => match sv with | .string b => 124 - b.size | _ => 0)
      case atStart => exact ⟨0, by omega, by simp⟩
      case round =>
        obtain ⟨k, hk, rfl⟩ := hrel
        have hsz : (⟨(L1 ++ List.replicate k 0).toArray⟩ : ByteArray).size = 34 + k := by rw [size_mk]; simp; have := HLn.out; omega
        have hap : (⟨(L1 ++ List.replicate k 0).toArray⟩ : ByteArray) ++ ⟨#[0]⟩ = ⟨(L1 ++ List.replicate (k + 1) 0).toArray⟩ := by
          rw [show (⟨#[0]⟩ : ByteArray) = ⟨([0] : List UInt8).toArray⟩ from rfl, app_mk, List.append_assoc, List.replicate_succ']
        have HSZ := Lib.hid hsz
        have HAP := Lib.hid hap
        obtain ⟨t, ht⟩ : ∃ t, (⟨(L1 ++ List.replicate k 0).toArray⟩ : ByteArray) = t := ⟨_, rfl⟩
        rw [ht] at HSZ HAP
        have hsi : (t.size : Int) = 34 + k := by rw [HSZ.out]; simp
        have HTT := Lib.hid ht
        rw [ht]
        clear hap ht hsz
        by_cases hlt : k < 90
        · have hl1 : (34 : Int) + k < 124 := by omega
          go_wp2
          refine ⟨⟨k + 1, by omega, by rw [HAP.out]⟩, ?_⟩
          show 124 - (t ++ ⟨#[0]⟩).size < 124 - t.size
          rw [HAP.out, HSZ.out, size_mk]
          simp
          have := HLn.out
          omega
        · have hkk : k = 90 := by omega
          subst hkk
          have hl1 : ¬ (34 : Int) + (90 : Nat) < 124 := by omega
          have hts : t.size ≤ 1000000 := by rw [HSZ.out]; omega
          have HTT2 : Hid (t.data.toList = PMst.body m) := Lib.hid (by rw [HL.out, ← HTT.out])
          go_wp2_with fail
          refine (rseal_any t hts _).mono ?_
          rintro e w9 ⟨rfl, hb⟩
          have HB9 := Lib.hid (HB.out.step hb)
          rw [HTT2.out]
          clear hb
          go_wp2
          go_ret
          exact ⟨ret_str (by rw [HE.out]), HB9.out⟩
end Go.Proofs.Ytmbialiledjigaa
