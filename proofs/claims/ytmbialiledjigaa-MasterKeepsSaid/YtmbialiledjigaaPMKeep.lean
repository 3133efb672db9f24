/-
  Plain: what is stored last is loaded, behind a crash too.
-/
import Derived.Test.YtmbialiledjigaaMst8
namespace PMst
/-! ### MasterKeeps: the plain law -/
def fixup (now m : Mst) (life first : Nat) : Mst := ⟨now.count + 1, life, if m.check ≠ 0 ∧ m.check < first then first else m.check, first, m.clean⟩
theorem fixup_may (now m : Mst) (life first : Nat) (hl : 0 < life) (hf : 0 < first) : may (fixup now m life first) = true := by
  unfold may fixup
  simp only [Bool.and_eq_true, Bool.or_eq_true, decide_eq_true_eq]
  refine ⟨by omega, hl, hf, ?_⟩
  split <;> omega
/-- what a disk of two sectors holds behind a store of 'now', 'was' ahead of it (or nothing) -/
def Holds (D : PDsk.Dsk) (was now : Mst) : Prop := D.Ok ∧ D.sure.length = 2 ∧ D.loose = [] ∧ now.Ok ∧ may now = true ∧
  D.sure.getD (now.count % 2) [] = enc now ∧ (good (D.sure.getD ((now.count + 1) % 2) []) = false ∨ (was.Ok ∧ may was = true ∧ was.count + 1 = now.count ∧ D.sure.getD ((now.count + 1) % 2) [] = enc was))
theorem read_sure {D : PDsk.Dsk} (hf : D.fuse ≠ 0) (hl : D.loose = []) (k : Nat) (hk : k < D.sure.length) : PDsk.read D k = (D.sure.getD k [], 0) := by
  unfold PDsk.read PDsk.now
  rw [if_neg hf, if_neg (by omega), hl, Int.toNat_natCast]
  rfl
theorem read_down {D : PDsk.Dsk} (hf : D.fuse = 0) (k : Int) : PDsk.read D k = ([], 40) := by unfold PDsk.read; rw [if_pos hf]
theorem load_holds {D : PDsk.Dsk} {was now : Mst} (h : Holds D was now) (hf : D.fuse ≠ 0) : ld D 0 = (now, 0) := by
  obtain ⟨_, h2, h3, h4, h5, h6, h7⟩ := h
  have hc := good_count (good_enc now h4 h5)
  rw [got_enc now h4 h5] at hc
  have r0 := read_sure hf h3 0 (by omega)
  have r1 := read_sure hf h3 1 (by omega)
  have e0 : ((0 : Nat) : Int) = 0 := rfl
  have e1 : ((1 : Nat) : Int) = 0 + 1 := rfl
  rw [e0] at r0
  rw [e1] at r1
  unfold ld
  rw [r0, r1, if_pos rfl, if_pos rfl, load_rload]
  have gn := good_enc now h4 h5
  have tn := got_enc now h4 h5
  unfold rload rone rtwo
  by_cases hp : now.count % 2 = 0
  · have hp1 : (now.count + 1) % 2 = 1 := by omega
    rw [hp] at h6
    rw [hp1] at h7
    rw [h6]
    rcases h7 with h7 | ⟨w1, w2, w3, w4⟩
    · rw [gn, h7, tn]; simp [hp]
    · rw [w4, gn, tn, good_enc was w1 w2, got_enc was w1 w2]
      have : was.count % 2 = 1 := by omega
      have hlt : was.count < now.count := by omega
      simp [hp, this, hlt]
  · have hp0 : now.count % 2 = 1 := by omega
    have hp1 : (now.count + 1) % 2 = 0 := by omega
    rw [hp0] at h6
    rw [hp1] at h7
    rw [h6]
    rcases h7 with h7 | ⟨w1, w2, w3, w4⟩
    · rw [gn, h7, tn]; simp [hp0]
    · rw [w4, gn, tn, good_enc was w1 w2, got_enc was w1 w2]
      have : was.count % 2 = 0 := by omega
      have hlt : ¬ now.count < was.count := by omega
      simp [hp0, this, hlt]
theorem load_down {D : PDsk.Dsk} (hf : D.fuse = 0) : ld D 0 = (zero, 40) := by
  unfold ld; rw [read_down hf]; rfl
/-- what a store of the next master leaves -/
theorem set_get {s : List (List UInt8)} {k : Nat} {x : List UInt8} (h : k < s.length) : (s.set k x).getD k [] = x := by
  rw [List.getD_eq_getElem?_getD, List.getElem?_set_self h]; rfl
theorem set_ne {s : List (List UInt8)} {k j : Nat} {x : List UInt8} (h : k ≠ j) : (s.set k x).getD j [] = s.getD j [] := by
  rw [List.getD_eq_getElem?_getD, List.getElem?_set_ne h, List.getD_eq_getElem?_getD]
/-- the next master's store: done, or the disk stood still ahead of the write, or ahead of the sync -/
theorem store_cases {D : PDsk.Dsk} {was now : Mst} (h : Holds D was now) (m : Mst) (hm : m.Ok) (hmay : may m = true) (hc : m.count = now.count + 1) :
    ((st D 0 m).2 = 0 ∧ Holds (st D 0 m).1 now m) ∨
    ((st D 0 m).2 = 40 ∧ ∀ kp : Bool, (Holds (PDsk.crash (st D 0 m).1 [kp, kp]) was now ∨ Holds (PDsk.crash (st D 0 m).1 [kp, kp]) now m) ∧ (PDsk.crash (st D 0 m).1 [kp, kp]).fuse ≠ 0) := by
  obtain ⟨h1, h2, h3, h4, h5, h6, h7⟩ := h
  have hk : m.count % 2 = (now.count + 1) % 2 := by rw [hc]
  have hlen := enc_length hmay
  have hcr : ∀ kp : Bool, PDsk.crash D [kp, kp] = { D with fuse := -1 } := fun kp => by
    unfold PDsk.crash PDsk.kept
    rw [h3]
    simp
  by_cases hf0 : D.fuse = 0
  · right
    have hw : PDsk.write D (0 + ((m.count % 2 : Nat) : Int)) (enc m) = (D, 40) := by unfold PDsk.write; rw [if_pos hf0]
    have hs : st D 0 m = (D, 40) := by
      unfold st
      rw [if_pos hmay, hw, if_neg (show ¬ ((40 : Int) = 0) by decide)]
    rw [hs]
    refine ⟨rfl, fun kp => ⟨.inl ?_, ?_⟩⟩
    · show Holds (PDsk.crash D [kp, kp]) was now
      rw [hcr]
      exact ⟨⟨h1.1, h1.2.1, h1.2.2.1, h1.2.2.2.1, by simp, by simp⟩, h2, h3, h4, h5, h6, h7⟩
    · show (PDsk.crash D [kp, kp]).fuse ≠ 0
      rw [hcr]; simp
  · have hlt : m.count % 2 < 2 := Nat.mod_lt _ (by decide)
    obtain ⟨D1, hD1⟩ : ∃ D1 : PDsk.Dsk, { D with loose := D.loose ++ [(m.count % 2, enc m)], fuse := PDsk.burn D.fuse } = D1 := ⟨_, rfl⟩
    have hw : PDsk.write D (0 + ((m.count % 2 : Nat) : Int)) (enc m) = (D1, 0) := by
      unfold PDsk.write
      rw [if_neg hf0, if_neg (by rw [h2, hlen]; omega), ← hD1]
      have : (0 + ((m.count % 2 : Nat) : Int)).toNat = m.count % 2 := by omega
      rw [this]
    have hok1 : D1.Ok := by
      have := PDsk.write_ok h1 (0 + ((m.count % 2 : Nat) : Int)) (enc m)
      rw [hw] at this; exact this
    have hst : st D 0 m = PDsk.sync D1 := by
      unfold st
      rw [if_pos hmay, hw, if_pos rfl]
    have hl1 : D1.loose = [(m.count % 2, enc m)] := by rw [← hD1, h3]; rfl
    have hs1 : D1.sure = D.sure := by rw [← hD1]
    have hne : m.count % 2 ≠ now.count % 2 := by omega
    have hm1 : (m.count + 1) % 2 = now.count % 2 := by omega
    have hnew : ∀ E : PDsk.Dsk, E.Ok → E.sure = D.sure.set (m.count % 2) (enc m) → E.loose = [] → Holds E now m := fun E hE hs hl =>
      ⟨hE, by rw [hs, List.length_set]; exact h2, hl, hm, hmay, by rw [hs]; exact set_get (by omega), .inr ⟨h4, h5, hc.symm, by rw [hs, hm1, set_ne hne]; exact h6⟩⟩
    by_cases hf1 : D1.fuse = 0
    · right
      have hsy : PDsk.sync D1 = (D1, 40) := by unfold PDsk.sync; rw [if_pos hf1]
      rw [hst, hsy]
      refine ⟨rfl, fun kp => ⟨?_, by simp [PDsk.crash]⟩⟩
      cases kp
      · left
        have e : PDsk.crash D1 [false, false] = { D with fuse := -1 } := by
          unfold PDsk.crash PDsk.kept
          rw [hl1, hs1]; simp [h3]
        show Holds (PDsk.crash D1 [false, false]) was now
        rw [e]
        exact ⟨⟨h1.1, h1.2.1, h1.2.2.1, h1.2.2.2.1, by simp, by simp⟩, h2, h3, h4, h5, h6, h7⟩
      · right
        show Holds (PDsk.crash D1 [true, true]) now m
        refine hnew _ (PDsk.crash_ok hok1 _) ?_ rfl
        unfold PDsk.crash PDsk.kept
        rw [hl1, hs1]; simp [PDsk.keep]
    · left
      have hsy : PDsk.sync D1 = (PDsk.synced D1, 0) := by unfold PDsk.sync; rw [if_neg hf1]
      rw [hst, hsy]
      refine ⟨rfl, hnew _ (PDsk.synced_ok hok1) ?_ rfl⟩
      unfold PDsk.synced
      rw [hl1, hs1]; simp [PDsk.keep]
/-- the first store -/
theorem store_first (m : Mst) (hm : m.Ok) (hmay : may m = true) : (st (PDsk.new 2) 0 m).2 = 0 ∧ Holds (st (PDsk.new 2) 0 m).1 zero m := by
  have hlen := enc_length hmay
  have hlt : m.count % 2 < 2 := Nat.mod_lt _ (by decide)
  have h1 : (PDsk.new 2).Ok := PDsk.new_ok 2 (by decide) (by decide)
  obtain ⟨D1, hD1⟩ : ∃ D1 : PDsk.Dsk, { PDsk.new 2 with loose := [(m.count % 2, enc m)] } = D1 := ⟨_, rfl⟩
  have hw : PDsk.write (PDsk.new 2) (0 + ((m.count % 2 : Nat) : Int)) (enc m) = (D1, 0) := by
    unfold PDsk.write
    rw [if_neg (by simp [PDsk.new]), if_neg (by rw [hlen]; simp [PDsk.new]; omega), ← hD1]
    have : (0 + ((m.count % 2 : Nat) : Int)).toNat = m.count % 2 := by omega
    rw [this]
    simp [PDsk.new, PDsk.burn]
  have hok1 : D1.Ok := by
    have := PDsk.write_ok h1 (0 + ((m.count % 2 : Nat) : Int)) (enc m)
    rw [hw] at this; exact this
  have hst : st (PDsk.new 2) 0 m = PDsk.sync D1 := by
    unfold st
    rw [if_pos hmay, hw, if_pos rfl]
  have hsy : PDsk.sync D1 = (PDsk.synced D1, 0) := by unfold PDsk.sync; rw [if_neg (by rw [← hD1]; simp [PDsk.new])]
  have hss : (PDsk.synced D1).sure = [PDsk.zero, PDsk.zero].set (m.count % 2) (enc m) := by
    unfold PDsk.synced
    rw [← hD1]; simp [PDsk.keep, PDsk.new, List.replicate]
  have hz : good PDsk.zero = false := by decide +kernel
  rw [hst, hsy]
  refine ⟨rfl, PDsk.synced_ok hok1, by rw [hss]; simp, rfl, hm, hmay, by rw [hss]; exact set_get (by simpa using hlt), .inl ?_⟩
  rw [hss, set_ne (by omega)]
  have : (m.count + 1) % 2 = 0 ∨ (m.count + 1) % 2 = 1 := by omega
  rcases this with h | h <;> rw [h] <;> exact hz
theorem holds_fuse {D : PDsk.Dsk} {was now : Mst} (h : Holds D was now) (f : Int) (h1 : -1 ≤ f) (h2 : f ≤ 9223372036854775807) : Holds { D with fuse := f } was now :=
  ⟨⟨h.1.1, h.1.2.1, h.1.2.2.1, h.1.2.2.2.1, h1, h2⟩, h.2⟩
theorem holds_crash {D : PDsk.Dsk} {was now : Mst} (h : Holds D was now) (ks : List Bool) : Holds (PDsk.crash D ks) was now := by
  have e : PDsk.crash D ks = { D with fuse := -1 } := by
    unfold PDsk.crash PDsk.kept
    rw [h.2.2.1]
    simp
  rw [e]
  exact holds_fuse h (-1) (by decide) (by decide)
end PMst
