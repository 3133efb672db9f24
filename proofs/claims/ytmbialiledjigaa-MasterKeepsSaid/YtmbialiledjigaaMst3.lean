/-
  Masters: Encode of the program.
-/
import Derived.Test.YtmbialiledjigaaMst2
namespace Go.Proofs.Ytmbialiledjigaa
open Go.RowKit
open PMst (Mst)
def frN (m : Mst) : Nat → List UInt8
  | 0 => [1]
  | 1 => [1] ++ PWord.be 8 m.count
  | 2 => [1] ++ PWord.be 8 m.count ++ PWord.be 8 m.life
  | 3 => [1] ++ PWord.be 8 m.count ++ PWord.be 8 m.life ++ PWord.be 8 m.check
  | _ => front m
def rest (b : UInt8) : List UInt8 := b :: List.replicate 90 0
theorem conv_rest (w : World) (C : Array Value) (b : UInt8) (hC : C.toList = bytesV (rest b)) : (convert 25 9 (.slice (some ⟨w.heap.size, 0, none⟩) 91 91)).run Try.prog (w.alloc (.cells C 53)) = .ok (.string ⟨(rest b).toArray⟩) (w.alloc (.cells C 53)) := by
  have := run_convert_bytes_back (P := Try.prog) (l := rest b) (w.alloc (.cells C 53)) 25 9 5 ⟨w.heap.size, 0, none⟩ 91 Try.underlying25 Try.underlying5 Try.underlying9 (by
    intro j hj
    have hj2 : j < C.size := by have := congrArg List.length hC; simp [bytesV_length] at this; omega
    rw [Addr.add_mid, World.cell?_alloc_new, Nat.zero_add]
    have e : C[j]? = (bytesV (rest b))[j]? := by rw [← hC]; simp
    rw [e, bytesV_at hj])
  simpa [rest] using this
def zc53 : Array Value := Array.replicate 91 (.int .u8 0)
@[go_sem] theorem zero_arr53 (w : World) : (zeroValue 53).run Try.prog w = .ok (.agg zc53) w := by kernel_rfl
theorem zc91 : zc53.toList = bytesV (rest 0) := by kernel_rfl
theorem ret_si {a b : ByteArray} {k : IntKind} {x y : Int} (h : a = b) (h2 : x = y) : Ending.returned (.tuple #[.string a, .int k x]) = Ending.returned (.tuple #[.string b, .int k y]) := by rw [h, h2]
attribute [local go_sem] PWord.be_length
set_option maxHeartbeats 4000000 in
theorem menc_any (m : Mst) (hm : m.Ok) (w : World) : Calls Try.prog 8 #[mv m] w fun e w' => e = .returned (.tuple #[.string ⟨(PMst.enc m).toArray⟩, .int .i64 (PMst.err m)]) ∧ Below w.heap.size w w' := by
  have HM := Lib.hid (mmay_any m)
  have hm1 := hm.1
  have hm2 := hm.2.1
  have hm3 := hm.2.2.1
  have hm4 := hm.2.2.2
  cases hmay : PMst.may m
  · have HN := Lib.hid (PMst.enc_nil hmay)
    have HE : Hid (PMst.err m = 2) := Lib.hid (by unfold PMst.err; rw [hmay]; rfl)
    rw [hmay] at HM
    unfold mv at HM ⊢
    clear hmay hm
    go_enter Try.func8, Try.ntmps8
    go_wp2_with fail
    refine (HM.out _).mono ?_
    rintro e w1 ⟨rfl, hb⟩
    have HB := Lib.hid (((Below.refl w.heap.size w).alloc (Nat.le_refl _) _).step hb)
    clear hb
    go_wp2
    go_ret2
    exact ⟨by rw [HN.out, HE.out]; rfl, HB.out⟩
  · have HE : Hid (PMst.enc m = PSum.sealL (PMst.body m)) := Lib.hid (by unfold PMst.enc; rw [if_pos hmay])
    have HEE : Hid (PMst.err m = 0) := Lib.hid (by unfold PMst.err; rw [if_pos hmay])
    rw [hmay] at HM
    unfold mv at HM ⊢
    clear hmay hm
    have hN : (w.alloc (.cells #[.int .u64 m.count, .int .u64 m.life, .int .u64 m.check, .int .u64 m.first, .bool m.clean] 24)).heap[w.heap.size]? = some (.cells #[.int .u64 m.count, .int .u64 m.life, .int .u64 m.check, .int .u64 m.first, .bool m.clean] 24 (0, 0)) := heap_alloc_new w _
    have HB := Lib.hid (((Below.refl w.heap.size w).alloc (Nat.le_refl _) (.cells #[.int .u64 m.count, .int .u64 m.life, .int .u64 m.check, .int .u64 m.first, .bool m.clean] 24)))
    go_enter Try.func8, Try.ntmps8
    go_wp2_with fail
    refine (HM.out _).mono ?_
    rintro e w1 ⟨rfl, hb⟩
    have hlt := (Array.getElem?_eq_some_iff.1 hN).1
    replace hN : w1.heap[w.heap.size]? = _ := (hb.block _ hlt).trans hN
    replace HB := Lib.hid (HB.out.step hb)
    obtain ⟨c0, c1, c2, c3, c4⟩ := cells5 hN
    have HN := Lib.hid hN
    clear hb hlt hN
    go_wp2
    go_loopw [4, 22] (fun sv iv wr => ∃ k : Nat, k ≤ 4 ∧ iv = .int .i64 k ∧ sv = .string ⟨(frN m k).toArray⟩ ∧ Hid (Below w1.heap.size w1 wr)) (fun _ iv _ => 4 - (intOf iv).toNat)
    case atStart => exact ⟨0, by omega, rfl, rfl, Lib.hid (Below.refl _ _)⟩
    case round =>
      obtain ⟨k, hk, rfl, rfl, HR⟩ := hrel
      have hcase : k = 0 ∨ k = 1 ∨ k = 2 ∨ k = 3 ∨ k = 4 := by omega
      rcases hcase with rfl | rfl | rfl | rfl | rfl
      · have ij : ∀ w, (Instr.index 50 (.agg #[.int .u64 m.count, .int .u64 m.life, .int .u64 m.check, .int .u64 m.first]) (.int .i64 0)).run Try.prog w = .ok (.int .u64 m.count) w := fun _ => by kernel_rfl
        have HP : Hid (PWord.put m.count 8 = (PWord.be 8 m.count, true)) := Lib.hid (put_yes m.count 8 (by omega) (by omega) (Nat.div_eq_of_lt hm1))
        obtain ⟨t, ht⟩ : ∃ t, (⟨(frN m 0).toArray⟩ : ByteArray) = t := ⟨_, rfl⟩
        have hsz : t.size = 1 := by rw [← ht, size_mk]; simp [frN]
        have HAP : Hid (t ++ ⟨(PWord.be 8 m.count).toArray⟩ = ⟨(frN m 1).toArray⟩) := Lib.hid (by rw [← ht, app_mk]; rfl)
        rw [ht]
        clear ht
        go_wp2_with fail
        refine (put_any m.count 8 hm1 _).mono ?_
        rintro e w2 ⟨rfl, hb⟩
        have HR2 := Lib.hid (HR.out.step hb)
        rw [HP.out]
        clear hb
        go_wp2
        exact ⟨⟨1, by omega, by go_num, by rw [HAP.out], HR2⟩, by simp [intOf]⟩
      · have ij : ∀ w, (Instr.index 50 (.agg #[.int .u64 m.count, .int .u64 m.life, .int .u64 m.check, .int .u64 m.first]) (.int .i64 1)).run Try.prog w = .ok (.int .u64 m.life) w := fun _ => by kernel_rfl
        have HP : Hid (PWord.put m.life 8 = (PWord.be 8 m.life, true)) := Lib.hid (put_yes m.life 8 (by omega) (by omega) (Nat.div_eq_of_lt hm2))
        obtain ⟨t, ht⟩ : ∃ t, (⟨(frN m 1).toArray⟩ : ByteArray) = t := ⟨_, rfl⟩
        have hsz : t.size = 9 := by rw [← ht, size_mk]; simp [frN, PWord.be_length]
        have HAP : Hid (t ++ ⟨(PWord.be 8 m.life).toArray⟩ = ⟨(frN m 2).toArray⟩) := Lib.hid (by rw [← ht, app_mk]; rfl)
        rw [ht]
        clear ht
        go_wp2_with fail
        refine (put_any m.life 8 hm2 _).mono ?_
        rintro e w2 ⟨rfl, hb⟩
        have HR2 := Lib.hid (HR.out.step hb)
        rw [HP.out]
        clear hb
        go_wp2
        exact ⟨⟨2, by omega, by go_num, by rw [HAP.out], HR2⟩, by simp [intOf]⟩
      · have ij : ∀ w, (Instr.index 50 (.agg #[.int .u64 m.count, .int .u64 m.life, .int .u64 m.check, .int .u64 m.first]) (.int .i64 2)).run Try.prog w = .ok (.int .u64 m.check) w := fun _ => by kernel_rfl
        have HP : Hid (PWord.put m.check 8 = (PWord.be 8 m.check, true)) := Lib.hid (put_yes m.check 8 (by omega) (by omega) (Nat.div_eq_of_lt hm3))
        obtain ⟨t, ht⟩ : ∃ t, (⟨(frN m 2).toArray⟩ : ByteArray) = t := ⟨_, rfl⟩
        have hsz : t.size = 17 := by rw [← ht, size_mk]; simp [frN, PWord.be_length]
        have HAP : Hid (t ++ ⟨(PWord.be 8 m.check).toArray⟩ = ⟨(frN m 3).toArray⟩) := Lib.hid (by rw [← ht, app_mk]; rfl)
        rw [ht]
        clear ht
        go_wp2_with fail
        refine (put_any m.check 8 hm3 _).mono ?_
        rintro e w2 ⟨rfl, hb⟩
        have HR2 := Lib.hid (HR.out.step hb)
        rw [HP.out]
        clear hb
        go_wp2
        exact ⟨⟨3, by omega, by go_num, by rw [HAP.out], HR2⟩, by simp [intOf]⟩
      · have ij : ∀ w, (Instr.index 50 (.agg #[.int .u64 m.count, .int .u64 m.life, .int .u64 m.check, .int .u64 m.first]) (.int .i64 3)).run Try.prog w = .ok (.int .u64 m.first) w := fun _ => by kernel_rfl
        have HP : Hid (PWord.put m.first 8 = (PWord.be 8 m.first, true)) := Lib.hid (put_yes m.first 8 (by omega) (by omega) (Nat.div_eq_of_lt hm4))
        obtain ⟨t, ht⟩ : ∃ t, (⟨(frN m 3).toArray⟩ : ByteArray) = t := ⟨_, rfl⟩
        have hsz : t.size = 25 := by rw [← ht, size_mk]; simp [frN, PWord.be_length]
        have HAP : Hid (t ++ ⟨(PWord.be 8 m.first).toArray⟩ = ⟨(frN m 4).toArray⟩) := Lib.hid (by rw [← ht, app_mk]; rfl)
        rw [ht]
        clear ht
        go_wp2_with fail
        refine (put_any m.first 8 hm4 _).mono ?_
        rintro e w2 ⟨rfl, hb⟩
        have HR2 := Lib.hid (HR.out.step hb)
        rw [HP.out]
        clear hb
        go_wp2
        exact ⟨⟨4, by omega, by go_num, by rw [HAP.out], HR2⟩, by simp [intOf]⟩
      · obtain ⟨t, ht⟩ : ∃ t, (⟨(frN m 4).toArray⟩ : ByteArray) = t := ⟨_, rfl⟩
        have hsz : t.size = 33 := by rw [← ht, size_mk]; exact front_length m
        have hlt := (Array.getElem?_eq_some_iff.1 HN.out).1
        have hdA : ∀ o, (wr.alloc o).cell? ⟨w.heap.size, 4, none⟩ = some (.bool m.clean) := fun o => ((HR.out.alloc HR.out.size o).cell (p := ⟨w.heap.size, 4, none⟩) hlt).trans c4
        have HB2 := Lib.hid ((HB.out.step HR.out).alloc (HB.out.step HR.out).size (.cells zc53 53))
        have HB3 := Lib.hid ((HB.out.step HR.out).alloc (HB.out.step HR.out).size (.cells (zc53.setIfInBounds 0 (.int .u8 1)) 53))
        have hfl : ∀ (b : UInt8), m.clean = (if b = 1 then true else false) → b = 0 ∨ b = 1 → PMst.flag m = b := by
          intro b h h2
          unfold PMst.flag
          rcases h2 with rfl | rfl <;> simp_all
        have HBD : ∀ b, PMst.flag m = b → Hid (t ++ ⟨(rest b).toArray⟩ = ⟨(PMst.body m).toArray⟩) := fun b hb => Lib.hid (by rw [← ht, app_mk, ← hb]; rfl)
        rw [ht]
        clear ht c0 c1 c2 c3 c4 hlt
        have hz0 : zc53[0]? = some (.int .u8 0) := by kernel_rfl
        have hzs : zc53.size = 91 := by kernel_rfl
        cases hcl : m.clean
        · have HAP := HBD 0 (hfl 0 hcl (.inl rfl))
          rw [hcl] at hdA
          have hcv := conv_rest wr zc53 0 zc91
          have hrs : (⟨(rest 0).toArray⟩ : ByteArray).size = 91 := rfl
          obtain ⟨r, hr⟩ : ∃ r, (⟨(rest 0).toArray⟩ : ByteArray) = r := ⟨_, rfl⟩
          rw [hr] at hcv hrs HAP
          clear hr hcl hfl HBD
          go_wp2_with fail
          refine (seal_any (t ++ r) (by rw [HAP.out, size_mk, PMst.body_length]; omega) _).mono ?_
          rintro e w3 ⟨rfl, hb⟩
          have HB4 := Lib.hid (HB2.out.step hb)
          rw [HAP.out]
          clear hb
          go_wp2
          go_ret2
          exact ⟨ret_si (by rw [HE.out]) HEE.out.symm, HB4.out⟩
        · have HAP := HBD 1 (hfl 1 hcl (.inr rfl))
          rw [hcl] at hdA
          have hcv := conv_rest wr (zc53.setIfInBounds 0 (.int .u8 1)) 1 (by rw [Array.toList_setIfInBounds, zc91]; rfl)
          have hrs : (⟨(rest 1).toArray⟩ : ByteArray).size = 91 := rfl
          obtain ⟨r, hr⟩ : ∃ r, (⟨(rest 1).toArray⟩ : ByteArray) = r := ⟨_, rfl⟩
          rw [hr] at hcv hrs HAP
          clear hr hcl hfl HBD
          go_wp2_with fail
          refine (seal_any (t ++ r) (by rw [HAP.out, size_mk, PMst.body_length]; omega) _).mono ?_
          rintro e w3 ⟨rfl, hb⟩
          have HB4 := Lib.hid (HB3.out.step hb)
          rw [HAP.out]
          clear hb
          go_wp2
          go_ret2
          exact ⟨ret_si (by rw [HE.out]) HEE.out.symm, HB4.out⟩
end Go.Proofs.Ytmbialiledjigaa
