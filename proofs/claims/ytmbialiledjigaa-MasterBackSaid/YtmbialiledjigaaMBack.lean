/-
  MasterBack: what was written is read, unlike masters have unlike sectors, and a sector of which one byte is another one is none. No conditions.
-/
import Derived.Test.YtmbialiledjigaaMst9
namespace Go.Proofs.Ytmbialiledjigaa
open Go.RowKit
open PMst (Mst)
theorem xor_byte (a b : UInt8) : bits BinOp.xor IntKind.u8 (a.toNat : Int) (b.toNat : Int) = ((a ^^^ b).toNat : Int) := by
  rw [u8_xor_nat _ _ a.toNat_lt b.toNat_lt, UInt8.toNat_xor]
theorem xor_nat (c : UInt8) (q : Nat) (hq : q < 256) : bits BinOp.xor IntKind.u8 (c.toNat : Int) (q : Int) = ((c ^^^ UInt8.ofNat q).toNat : Int) := by
  rw [← xor_byte, UInt8.toNat_ofNat', Nat.mod_eq_of_lt hq]
set_option maxRecDepth 100000 in
set_option maxHeartbeats 8000000 in
theorem masterBack_any (a b : Mst) (ha : a.Ok) (hb : b.Ok) (p q : Nat) (hp : p < 256) (hq : q < 256) (w : World) : Calls Try.prog 5 #[mv a, mv b, .int .u8 p, .int .u8 q] w fun e w' => e = .returned (.bool true) ∧ Below w.heap.size w w' := by
  have HMA := Lib.hid (menc_any a ha)
  have HMB := Lib.hid (menc_any b hb)
  have HA := Lib.hid ha
  have HBk := Lib.hid hb
  unfold mv at HMA HMB ⊢
  have HM := Lib.hid (fun t u => made2 w #[.int .u64 a.count, .int .u64 a.life, .int .u64 a.check, .int .u64 a.first, .bool a.clean] #[.int .u64 b.count, .int .u64 b.life, .int .u64 b.check, .int .u64 b.first, .bool b.clean] t u)
  clear ha hb
  cases hma : PMst.may a
  · have hea : PMst.enc a = [] := PMst.enc_nil hma
    have her : PMst.err a = 2 := by unfold PMst.err; rw [hma]; rfl
    rw [hea, her] at HMA
    clear hma hea her
    go_enter Try.func5, Try.ntmps5
    go_wp2_with fail
    refine (HMA.out _).mono ?_
    rintro e w1 ⟨rfl, hb⟩
    have HK := Lib.hid (keep2 (HM.out _ _) hb)
    obtain ⟨c0, c1, c2, c3, c4⟩ := cells5 HK.out.2.1
    clear hb
    go_wp2_with fail
    refine (HMB.out _).mono ?_
    rintro e w2 ⟨rfl, hb⟩
    have HB2 := Lib.hid (HK.out.2.2.step hb)
    clear hb c0 c1 c2 c3 c4
    generalize PMst.err b = eb at *
    go_wp2_with fail
    refine (works12_any _).mono ?_
    rintro e w3 ⟨rfl, hb⟩
    have HB3 := Lib.hid (HB2.out.step hb)
    clear hb
    go_wp2
    go_ret
    exact ⟨rfl, HB3.out⟩
  · have her : PMst.err a = 0 := by unfold PMst.err; rw [if_pos hma]
    rw [her] at HMA
    obtain ⟨E, hE⟩ : ∃ E, PMst.enc a = E := ⟨_, rfl⟩
    have HEL : Hid (E.length = 128) := Lib.hid (by rw [← hE]; exact PMst.enc_length hma)
    have HDE : Hid (PMst.dec E = (a, 0)) := Lib.hid (by rw [← hE]; exact PMst.dec_enc a HA.out hma)
    have HBAD : Hid (∀ k, k < 128 → ∀ c : UInt8, c ≠ 0 → PMst.dec (E.set k (E.getD k 0 ^^^ c)) = (PMst.zero, 7)) := Lib.hid fun k hk c hc => by
      have := PMst.bad_turned a hma k hk c hc
      rw [hE] at this
      unfold PMst.dec; rw [this]; rfl
    have HIF : Hid ((PMst.may b = true ∧ PMst.err b = 0 ∧ ((E = PMst.enc b) ↔ a = b)) ∨ (PMst.may b = false ∧ PMst.err b = 2)) := Lib.hid (by
      cases hmb : PMst.may b
      · right; exact ⟨rfl, by unfold PMst.err; rw [hmb]; rfl⟩
      · left; exact ⟨rfl, by unfold PMst.err; rw [if_pos hmb], by rw [← hE]; exact PMst.enc_inj a b HA.out HBk.out hma hmb⟩)
    rw [hE] at HMA
    obtain ⟨t, ht⟩ : ∃ t, (⟨E.toArray⟩ : ByteArray) = t := ⟨_, rfl⟩
    have HTD : Hid (t.data.toList = E) := Lib.hid (by rw [← ht])
    have HTS : Hid (t.size = 128) := Lib.hid (by rw [← ht, size_mk]; exact HEL.out)
    rw [ht] at HMA
    clear hE ht her hma
    go_enter Try.func5, Try.ntmps5
    go_wp2_with fail
    refine (HMA.out _).mono ?_
    rintro e w1 ⟨rfl, hb⟩
    have HK := Lib.hid (keep2 (HM.out _ _) hb)
    obtain ⟨c0, c1, c2, c3, c4⟩ := cells5 HK.out.2.1
    clear hb
    go_wp2_with fail
    refine (HMB.out _).mono ?_
    rintro e w2 ⟨rfl, hb⟩
    have HK2 := Lib.hid (keep2 HK.out hb)
    clear hb c0 c1 c2 c3 c4 HK
    obtain ⟨u, hu⟩ : ∃ u, (⟨(PMst.enc b).toArray⟩ : ByteArray) = u := ⟨_, rfl⟩
    obtain ⟨eb, heb⟩ : ∃ e, PMst.err b = e := ⟨_, rfl⟩
    rw [hu, heb]
    have HU := Lib.hid hu
    have HEB := Lib.hid heb
    clear hu heb
    go_wp2_with fail
    refine (mdec_open t (by rw [HTS.out]; unfold maxLen; omega) _).mono ?_
    rintro e w3 ⟨rfl, hb⟩
    have HK3 := Lib.hid (keep2 HK2.out hb)
    rw [HTD.out, HDE.out]
    dsimp only
    have HK4 := Lib.hid (fun o : Obj => keep2 HK3.out ((Below.refl w3.heap.size w3).alloc (Nat.le_refl _) o))
    clear hb HK2
    have a0 := fun o => (cells5 (HK4.out o).1).1
    have a1 := fun o => (cells5 (HK4.out o).1).2.1
    have a2 := fun o => (cells5 (HK4.out o).1).2.2.1
    have a3 := fun o => (cells5 (HK4.out o).1).2.2.2.1
    have a4 := fun o => (cells5 (HK4.out o).1).2.2.2.2
    have b0 := fun o => (cells5 (HK4.out o).2.1).1
    have b1 := fun o => (cells5 (HK4.out o).2.1).2.1
    have b2 := fun o => (cells5 (HK4.out o).2.1).2.2.1
    have b3 := fun o => (cells5 (HK4.out o).2.1).2.2.2.1
    have b4 := fun o => (cells5 (HK4.out o).2.1).2.2.2.2
    have hab : mEq ⟨a.count, a.life, a.check, a.first, a.clean⟩ ⟨b.count, b.life, b.check, b.first, b.clean⟩ = mEq a b := rfl
    have hcase : (eb = 0 ∧ (t.toList == u.toList) = mEq a b) ∨ (eb = 2) := by
      rcases HIF.out with ⟨h1, h2, h3⟩ | ⟨h1, h2⟩
      · left
        refine ⟨by rw [← HEB.out]; exact h2, ?_⟩
        rw [bytes_eq, bytes_eq, HTD.out, ← HU.out, Bool.eq_iff_iff]
        simp only [beq_iff_eq, mEq, decide_eq_true_eq]
        exact h3
      · right; rw [← HEB.out]; exact h2
    have hts := HTS.out
    obtain ⟨qq, hqq⟩ : ∃ qq, mEq a b = qq := ⟨_, rfl⟩
    rw [hqq] at hab hcase
    have HB5 := Lib.hid (fun o => (HK4.out o).2.2)
    obtain ⟨k, hk⟩ : ∃ k, p % 128 = k := ⟨_, rfl⟩
    have hk1 : (p : Int) % 128 = (k : Int) := by omega
    have hk2 : k < 128 := by omega
    have hk3 : (k : Int) < 128 := by omega
    clear hk HK4
    have hS := Sl.of_string (w3.alloc (.cells #[.int .u64 a.count, .int .u64 a.life, .int .u64 a.check, .int .u64 a.first, .bool a.clean] 24)) w.heap.size (HB5.out _).size t 5 (by rw [HTS.out]; unfold maxLen; omega) _ rfl
    rw [HTS.out, HTD.out, World.size_alloc] at hS
    change Sl (((w3.alloc _).alloc _).drew) _ _ _ _ _ _ at hS
    have hcell := hS.byte (j := k) (by omega)
    have hfro := hS.unshut (j := k) (by omega)
    rw [Nat.zero_add] at hcell hfro
    have hset := hS.set (j := k) (by omega) (.int .u8 (bits BinOp.xor IntKind.u8 ((E.getD k 0).toNat : Int) (q : Int)))
    rw [show (bytesV E).set k (.int .u8 (bits BinOp.xor IntKind.u8 ((E.getD k 0).toNat : Int) (q : Int))) = bytesV (E.set k (E.getD k 0 ^^^ UInt8.ofNat q)) by rw [xor_nat _ _ hq, bytesV_set], Nat.zero_add] at hset
    change Sl (((((w3.alloc _).alloc _).setCell _ _)).drew) _ _ _ _ _ _ at hset
    have hcv := conv_sl hset
    have HFB : Hid (∀ X : Obj, Below w.heap.size w ((w3.alloc (.cells #[.int .u64 a.count, .int .u64 a.life, .int .u64 a.check, .int .u64 a.first, .bool a.clean] 24)).alloc X).drew) := Lib.hid fun X => ((HB5.out _).alloc (HB5.out _).size X).drew
    have HDF : Hid ((q = 0 ∧ PMst.dec (E.set k (E.getD k 0 ^^^ UInt8.ofNat q)) = (a, 0)) ∨ (q ≠ 0 ∧ PMst.dec (E.set k (E.getD k 0 ^^^ UInt8.ofNat q)) = (PMst.zero, 7))) := Lib.hid (by
      by_cases h0 : q = 0
      · left
        refine ⟨h0, ?_⟩
        rw [h0, show (UInt8.ofNat 0) = 0 from rfl, UInt8.xor_zero]
        have : E.set k (E.getD k 0) = E := by
          rw [List.getD_eq_getElem?_getD, List.getElem?_eq_getElem (by have := HEL.out; omega)]
          exact List.set_getElem_self _
        rw [this]; exact HDE.out
      · right
        refine ⟨h0, HBAD.out k hk2 _ ?_⟩
        intro h
        apply h0
        have := congrArg UInt8.toNat h
        rw [UInt8.toNat_ofNat', Nat.mod_eq_of_lt hq] at this
        exact this)
    have HFL : Hid ((E.set k (E.getD k 0 ^^^ UInt8.ofNat q)).length = 128) := Lib.hid (by rw [List.length_set]; exact HEL.out)
    clear hS hset
    generalize E.set k (E.getD k 0 ^^^ UInt8.ofNat q) = F at *
    generalize E.getD k 0 = c at *
    rcases hcase with ⟨rfl, hq2⟩ | rfl
    · go_wp2_with fail
      refine (mdec_open (⟨F.toArray⟩ : ByteArray) (by rw [size_mk, HFL.out]; unfold maxLen; omega) _).mono ?_
      rintro e w5 ⟨rfl, hb⟩
      have HB6 := Lib.hid (((HFB.out _).setCell (p := ⟨w3.heap.size + 1, k, none⟩) (by have := (HB5.out (.cells #[] 0)).size; rw [World.size_alloc] at this; exact this) (.int .u8 (bits BinOp.xor IntKind.u8 (c.toNat : Int) (q : Int)))).step hb)
      rw [show (⟨F.toArray⟩ : ByteArray).data.toList = F from rfl]
      clear hb hcv hcell hfro a0 a1 a2 a3 a4 b0 b1 b2 b3 b4 hab hqq
      rcases HDF.out with ⟨h0, hd⟩ | ⟨h0, hd⟩
      · rw [hd]
        dsimp only
        have hqz : ((q : Int) == 0) = true := by simp [h0]
        clear hd h0
        go_wp2_with fail
        refine (works12_any _).mono ?_
        rintro e w6 ⟨rfl, hb⟩
        have HB7 := Lib.hid ((HB6.out.alloc HB6.out.size _).step hb)
        clear hb
        go_wp2
        go_ret
        exact ⟨rfl, HB7.out⟩
      · rw [hd]
        dsimp only [PMst.zero]
        have hqz : ((q : Int) == 0) = false := by simp [h0]
        clear hd h0
        go_wp2_with fail
        refine (works12_any _).mono ?_
        rintro e w6 ⟨rfl, hb⟩
        have HB7 := Lib.hid ((HB6.out.alloc HB6.out.size _).step hb)
        clear hb
        go_wp2
        go_ret
        exact ⟨rfl, HB7.out⟩
    · go_wp2_with fail
      refine (mdec_open (⟨F.toArray⟩ : ByteArray) (by rw [size_mk, HFL.out]; unfold maxLen; omega) _).mono ?_
      rintro e w5 ⟨rfl, hb⟩
      have HB6 := Lib.hid (((HFB.out _).setCell (p := ⟨w3.heap.size + 1, k, none⟩) (by have := (HB5.out (.cells #[] 0)).size; rw [World.size_alloc] at this; exact this) (.int .u8 (bits BinOp.xor IntKind.u8 (c.toNat : Int) (q : Int)))).step hb)
      rw [show (⟨F.toArray⟩ : ByteArray).data.toList = F from rfl]
      clear hb hcv hcell hfro a0 a1 a2 a3 a4 b0 b1 b2 b3 b4 hab hqq
      rcases HDF.out with ⟨h0, hd⟩ | ⟨h0, hd⟩
      · rw [hd]
        dsimp only
        have hqz : ((q : Int) == 0) = true := by simp [h0]
        clear hd h0
        go_wp2_with fail
        refine (works12_any _).mono ?_
        rintro e w6 ⟨rfl, hb⟩
        have HB7 := Lib.hid ((HB6.out.alloc HB6.out.size _).step hb)
        clear hb
        go_wp2
        go_ret
        exact ⟨rfl, HB7.out⟩
      · rw [hd]
        dsimp only [PMst.zero]
        have hqz : ((q : Int) == 0) = false := by simp [h0]
        clear hd h0
        go_wp2_with fail
        refine (works12_any _).mono ?_
        rintro e w6 ⟨rfl, hb⟩
        have HB7 := Lib.hid ((HB6.out.alloc HB6.out.size _).step hb)
        clear hb
        go_wp2
        go_ret
        exact ⟨rfl, HB7.out⟩
end Go.Proofs.Ytmbialiledjigaa
