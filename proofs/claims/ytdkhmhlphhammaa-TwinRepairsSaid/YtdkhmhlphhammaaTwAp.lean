/-
  Twin: the walk of TwinApart.
-/
import Derived.Test.YtdkhmhlphhammaaTwWh
namespace PTwin
open PDsk
/-- the writes ahead: all sectors but the third *)-/
def lp (F : List UInt8) : Nat → List (Nat × List UInt8)
  | 0 => []
  | k + 1 => if k = 3 then lp F k else lp F k ++ [(k, F)]
theorem lp_mem (F : List UInt8) : ∀ k, ∀ p ∈ lp F k, p.1 < k ∧ p.1 ≠ 3 ∧ p.2 = F
  | 0, p, h => by cases h
  | k + 1, p, h => by
    unfold lp at h
    by_cases hk : k = 3
    · rw [if_pos hk] at h
      have := lp_mem F k p h
      exact ⟨by have := this.1; omega, this.2.1, this.2.2⟩
    · rw [if_neg hk] at h
      rcases List.mem_append.1 h with h | h
      · have := lp_mem F k p h
        exact ⟨by have := this.1; omega, this.2.1, this.2.2⟩
      · rw [List.mem_singleton.1 h]; exact ⟨by simp, hk, rfl⟩
theorem mem_lp (F : List UInt8) : ∀ k i, i < k → i ≠ 3 → (i, F) ∈ lp F k
  | 0, i, h, _ => by omega
  | k + 1, i, h, h3 => by
    unfold lp
    split
    · exact mem_lp F k i (by omega) h3
    · by_cases e : i = k
      · subst e; simp
      · exact List.mem_append.2 (.inl (mem_lp F k i (by omega) h3))
theorem lp_length (F : List UInt8) : ∀ k, (lp F k).length ≤ k
  | 0 => by simp [lp]
  | k + 1 => by unfold lp; have := lp_length F k; split; omega; simp; omega
theorem lp_sec (F : List UInt8) (i : Nat) (hi : i < 90) (h3 : i ≠ 3) : sec (put (List.replicate 90 zero) (lp F 90)) i = F :=
  put_all (by simpa using hi) (fun p hp _ => (lp_mem F 90 p hp).2.2) (.inl ⟨_, mem_lp F 90 i hi h3, rfl⟩)
theorem lp_clear (F : List UInt8) : sec (put (List.replicate 90 zero) (lp F 90)) 3 = clear := by
  rw [put_miss (fun p hp e => (lp_mem F 90 p hp).2.1 e)]
  unfold sec
  rw [List.getD_eq_getElem?_getD, List.getElem?_replicate, if_pos (by omega)]; rfl
theorem lp_old (F : List UInt8) (hF : F.length = 128) (b : List Hm) : Old 90 3 40 b (put (List.replicate 90 zero) (lp F 90)) (put (List.replicate 90 zero) (lp F 90)) := by
  refine Old.refl (by rw [put_length]; simp) ?_ (lp_clear F)
  exact fold_128 _ _ (fun x hx => by rw [(List.mem_replicate.1 hx).2]; exact List.length_replicate) (fun p hp => by rw [(lp_mem F 90 p hp).2.2]; exact hF)
end PTwin
namespace Go.Proofs.Ytdkhmhlphhammaa
open Go.RowKit
open PTwin (Hm Pt)
theorem make_bools (n : Nat) (h : n ≤ 140737488355328) (w : World) : (Instr.makeSlice 49 (.int .i64 n) (.int .i64 n)).run Try.prog w = .ok (.slice (some ⟨w.heap.size, 0, none⟩) n n) (w.alloc (.cells ((List.replicate n (Value.bool false)).toArray) 4)) := by
  obtain ⟨i, hi, hz, hs, hb⟩ : ∃ i, Try.prog.info? 4 = some i ∧ i.zero = some (.bool false) ∧ i.size = 1 ∧ i.bytes = 1 := by
    have h : (Try.prog.info? 4).map (fun i => (i.zero, i.size, i.bytes)) = some (some (.bool false), 1, 1) := by kernel_rfl
    cases hi : Try.prog.info? 4 with
    | none => rw [hi] at h; cases h
    | some i => rw [hi] at h; simp at h; exact ⟨i, rfl, h.1, h.2.1, h.2.2⟩
  rw [run_make w 49 4 i (.bool false) Try.underlying49 hi hz .i64 .i64 n n (by omega) (by omega) (by rw [hb]; omega) (by omega), hs]
  have e1 : madeCells (Value.bool false).cells ((n : Int).toNat * 1) = (List.replicate n (Value.bool false)).toArray := by
    unfold madeCells
    apply Array.ext
    · simp
    · intro j h1 h2
      simp [Value.cells, Nat.mod_one]
  rw [e1, Int.toNat_natCast]
def Bs (w W : World) (own : List Nat) (v : Value) (ws : List Bool) : Prop := Sl W w.heap.size 4 1 v 90 (ws.map Value.bool) ∧ Ap own v ∧ ws.length = 90
theorem Bs.below {w W W' : World} {own : List Nat} {v : Value} {ws : List Bool} (h : Bs w W own v ws) (hb : Below W.heap.size W W') : Bs w W' own v ws := ⟨h.1.keep (fun k e => hb.block k (h.1.lt k e).2), h.2⟩
theorem Bs.step {w W W' : World} {own own' : List Nat} {v : Value} {ws : List Bool} (h : Bs w W own v ws) (hs : Stepped W W' own own') : Bs w W' own' v ws := ⟨(Sl.stepped h.1 h.2.1 hs).1, (Sl.stepped h.1 h.2.1 hs).2, h.2.2⟩
def Fs (w W : World) (own : List Nat) (v : Value) (F : List UInt8) : Prop := Sl W w.heap.size 5 1 v 128 (bytesV F) ∧ Ap own v
theorem Fs.below {w W W' : World} {own : List Nat} {v : Value} {F : List UInt8} (h : Fs w W own v F) (hb : Below W.heap.size W W') : Fs w W' own v F := ⟨h.1.keep (fun k e => hb.block k (h.1.lt k e).2), h.2⟩
theorem Fs.step {w W W' : World} {own own' : List Nat} {v : Value} {F : List UInt8} (h : Fs w W own v F) (hs : Stepped W W' own own') : Fs w W' own' v F := Sl.stepped h.1 h.2 hs
theorem len_td {w W : World} {b : Nat} {D : PDsk.Dsk} {own : List Nat} (ht : Td w W b D own) (h : D.sure.length = 90) : Calls Try.prog 22 #[.pointer (some ⟨b, 0, none⟩)] W fun e w' => e = .returned (.int .i64 90) ∧ W = w' := by
  have := len_any W ht.2.1
  rw [h] at this
  exact this
theorem bool_at {W : World} {base E : Nat} {ws : List Bool} (h : Sl W base 4 1 (.slice (some ⟨E, 0, none⟩) 90 90) 90 (ws.map Value.bool)) (hl : ws.length = 90) {k : Nat} (hk : k < 90) : ∃ x, W.cell? ⟨E, k, none⟩ = some (.bool x) ∧ W.frozen? ⟨E, k, none⟩ = false := by
  have h1 := h.cell (j := k) (by rw [List.length_map, hl]; exact hk)
  have h2 := h.unshut (j := k) (by omega)
  rw [Nat.zero_add] at h1 h2
  rw [List.getElem_map] at h1
  exact ⟨_, h1, h2⟩
theorem bool_val {W : World} {base E : Nat} {ws : List Bool} (h : Sl W base 4 1 (.slice (some ⟨E, 0, none⟩) 90 90) 90 (ws.map Value.bool)) (hl : ws.length = 90) {k : Nat} (hk : k < 90) {x : Bool} (hx : W.cell? ⟨E, k, none⟩ = some (.bool x)) : ws.getD k false = x := by
  have h1 := h.cell (j := k) (by rw [List.length_map, hl]; exact hk)
  rw [Nat.zero_add, List.getElem_map, hx] at h1
  simp at h1
  rw [List.getD_eq_getElem?_getD, List.getElem?_eq_getElem (by omega), h1]; rfl
theorem bool_set {W : World} {base E : Nat} {ws : List Bool} (h : Sl W base 4 1 (.slice (some ⟨E, 0, none⟩) 90 90) 90 (ws.map Value.bool)) {k : Nat} (hk : k < 90) : Sl (W.setCell ⟨E, k, none⟩ (.bool true)) base 4 1 (.slice (some ⟨E, 0, none⟩) 90 90) 90 ((ws.set k true).map Value.bool) := by
  have h1 := h.set (j := k) (by omega) (.bool true)
  rw [Nat.zero_add] at h1
  rw [List.map_set]
  exact h1
theorem set_true {ws : List Bool} {k i : Nat} (hk : k < ws.length) (h : i = k ∨ ws.getD i false = true) : (ws.set k true).getD i false = true := by
  rw [List.getD_eq_getElem?_getD]
  by_cases e : k = i
  · subst e; rw [List.getElem?_set_self hk]; rfl
  · rw [List.getElem?_set_ne e, ← List.getD_eq_getElem?_getD]
    rcases h with h | h
    · exact absurd h.symm e
    · exact h
theorem set_fill (C : UInt8) (k : Nat) (hk : k < 128) : (List.replicate k C ++ List.replicate (128 - k) 0).set k C = List.replicate (k + 1) C ++ List.replicate (128 - (k + 1)) 0 := by
  rw [List.set_append_right _ _ (by simp), List.length_replicate, Nat.sub_self, show 128 - k = (128 - (k + 1)) + 1 by omega, List.replicate_succ, List.set_cons_zero, List.replicate_succ', List.append_assoc]
  rfl
set_option maxRecDepth 20000 in
set_option maxHeartbeats 16000000 in
theorem twinApart_ok (w : World) (vl vk : Value) (lb : List Pt) (ks : List Bool) (c fu : Nat) (hc : c < 256) (hfu : fu < 256) (hb : PutIn w vl lb) (hkb : ∀ x ∈ lb, x.Ok) (hk : Rd w vk (ks.map Value.bool)) (n2 : lb.length ≤ 12) (n3 : lb ≠ []) (n4 : ks.length ≤ 100) :
    Calls Try.prog 5 #[.int .u8 c, vl, .int .u8 fu, vk] w fun e w' => e = .returned (.bool true) ∧ Below w.heap.size w w' := by
  have HLB := Lib.hid hb
  have HKB := Lib.hid hkb
  have HRK := Lib.hid hk
  have hlen0 : lb.length ≠ 0 := fun e => n3 (List.length_eq_zero_iff.1 e)
  have HNE := Lib.hid n3
  obtain ⟨pb, cb, rfl, hcb, hcbm⟩ := RdS.form hb
  obtain ⟨pk, ck, rfl, k2, k3, _⟩ := hk
  rw [List.length_map] at k2
  rw [List.length_map] at HRK ⊢
  have t2 : ¬ (12 : Int) < lb.length := by omega
  have t3 : ((lb.length : Int) == 0) = false := by rw [beq_eq_false_iff_ne]; omega
  have t4 : ¬ (100 : Int) < ks.length := by omega
  have HN := Lib.hid (show Calls Try.prog 7 #[.int .i64 90] w fun e w' => ∃ b own, e = .returned (.tuple #[.pointer (some ⟨b, 0, none⟩), .int .i64 0]) ∧ Td w w' b (PDsk.new 90) own from new_pos 90 (by omega) (by omega) w)
  have hmk : ∀ w, (Instr.makeSlice 35 (.int .i64 128) (.int .i64 128)).run Try.prog w = .ok (.slice (some ⟨w.heap.size, 0, none⟩) 128 128) (w.alloc (.cells (madeB 128) 5)) := fun w => make_bytes 128 (by omega) w
  obtain ⟨C, hC⟩ : ∃ C : UInt8, UInt8.ofNat c = C := ⟨_, rfl⟩
  have HCC : Hid ((C.toNat : Int) = c) := Lib.hid (by rw [← hC, UInt8.toNat_ofNat']; omega)
  unfold maxLen at hcbm k3
  clear hb hkb hC
  go_enter Try.func5, Try.ntmps5
  go_wp2_with fail
  refine HN.out.mono ?_
  rintro e w1 ⟨b, own, rfl, ht⟩
  have HT := Lib.hid ht
  have HS0 : Hid (Sl (w1.alloc (.cells (madeB 128) 5)) w1.heap.size 5 1 (.slice (some ⟨w1.heap.size, 0, none⟩) 128 128) 128 (bytesV (List.replicate 0 C ++ List.replicate (128 - 0) 0))) := Lib.hid (by
    have := Sl.of_made w1 w1.heap.size (Nat.le_refl _) 5 128 (by unfold maxLen; omega)
    simpa using this)
  have HB0 := Lib.hid ((Below.refl w1.heap.size w1).alloc (Nat.le_refl _) (.cells (madeB 128) 5))
  clear ht HN
  go_wp2
  clear hmk
  go_loopw [12] (fun iv wr => ∃ k : Nat, k ≤ 128 ∧ iv = .int .i64 k ∧ Hid (Sl wr w1.heap.size 5 1 (.slice (some ⟨w1.heap.size, 0, none⟩) 128 128) 128 (bytesV (List.replicate k C ++ List.replicate (128 - k) 0))) ∧ Hid (Below w1.heap.size w1 wr)) (fun iv _ => 128 - (intOf iv).toNat)
  case atStart => exact ⟨0, by omega, rfl, HS0, HB0⟩
  case round =>
    clear HS0 HB0
    obtain ⟨k, hk, rfl, HS, HB⟩ := hrel
    by_cases hlt : k < 128
    · have i1 : (k : Int) < 128 := by omega
      have k0 : (0 : Int) ≤ k := by omega
      have hcell := HS.out.byte (j := k) (by omega)
      have hfro := HS.out.unshut (j := k) (by omega)
      rw [Nat.zero_add] at hcell hfro
      have HNS : Hid (Sl (wr.setCell ⟨w1.heap.size, k, none⟩ (.int .u8 c)) w1.heap.size 5 1 (.slice (some ⟨w1.heap.size, 0, none⟩) 128 128) 128 (bytesV (List.replicate (k + 1) C ++ List.replicate (128 - (k + 1)) 0))) := Lib.hid (by
        have h := HS.out.set (j := k) (by omega) (.int .u8 (C.toNat : Int))
        rw [bytesV_set, Nat.zero_add, set_fill C k hlt, HCC.out] at h
        exact h)
      have HNB := Lib.hid (HB.out.setCell (p := ⟨w1.heap.size, k, none⟩) (Nat.le_refl _) (.int .u8 c))
      have HLT := Lib.hid hlt
      clear hlt HS HB
      generalize (List.replicate k C ++ List.replicate (128 - k) 0).getD k 0 = x at *
      go_wp2
      exact ⟨⟨k + 1, by have := HLT.out; omega, by go_num, HNS, HNB⟩, by have := HLT.out; simp [intOf]; omega⟩
    · have hk128 : k = 128 := by omega
      have i1 : ¬ (k : Int) < 128 := by omega
      obtain ⟨F, hF⟩ : ∃ F, List.replicate 128 C = F := ⟨_, rfl⟩
      have HFL : Hid (F.length = 128) := Lib.hid (by rw [← hF]; exact List.length_replicate)
      have HFS : Hid (Fs w wr own (.slice (some ⟨w1.heap.size, 0, none⟩) 128 128) F) := Lib.hid (by
        have h := HS.out
        rw [hk128, hF] at h
        rw [show F ++ List.replicate (128 - 128) 0 = F by simp] at h
        exact ⟨h.base_le HT.out.1.size, Sl.apart HT.out h⟩)
      have HT1 : Hid (Td w wr b ⟨List.replicate 90 PDsk.zero, PTwin.lp F 0, -1⟩ own) := Lib.hid (HT.out.below HB.out)
      obtain ⟨T, hT⟩ : ∃ T : ByteArray, (⟨F.toArray⟩ : ByteArray) = T := ⟨_, rfl⟩
      have HTT : Hid (T.data.toList = F ∧ T.size = 128 ∧ T.toList = F) := Lib.hid (by subst hT; exact ⟨rfl, HFL.out, by rw [bytes_eq]⟩)
      have HCV : Hid (∀ (W : World) (own : List Nat), Fs w W own (.slice (some ⟨w1.heap.size, 0, none⟩) 128 128) F → (convert 35 9 (.slice (some ⟨w1.heap.size, 0, none⟩) 128 128)).run Try.prog W = .ok (.string T) W) := Lib.hid (fun W own h => by
        have := conv_sl h.1
        rw [hT] at this
        exact this)
      generalize w1.heap.size = G at *
      clear hF hT HS HB HT hlt hk hk128
      go_wp2
      go_loopw [13] (fun iv wr => ∃ (k : Nat) (own' : List Nat), k ≤ 90 ∧ iv = .int .i64 k ∧ Hid (Td w wr b ⟨List.replicate 90 PDsk.zero, PTwin.lp F k, -1⟩ own') ∧ Hid (Fs w wr own' (.slice (some ⟨G, 0, none⟩) 128 128) F)) (fun iv _ => 90 - (intOf iv).toNat)
      case atStart => exact ⟨0, own, by omega, rfl, HT1, HFS⟩
      case round =>
        clear HT1 HFS
        obtain ⟨k, own2, hk, rfl, HT, HFS⟩ := hrel
        have HLN := Lib.hid (len_td HT.out (by simp))
        by_cases hlt : k < 90
        · have i1 : (k : Int) < 90 := by omega
          by_cases h3 : k = 3
          · have HN3 : Hid (Td w wr b ⟨List.replicate 90 PDsk.zero, PTwin.lp F (k + 1), -1⟩ own2) := Lib.hid (by rw [show PTwin.lp F (k + 1) = PTwin.lp F k by rw [PTwin.lp, if_pos h3]]; exact HT.out)
            have e3 : ((k : Int) != 3) = false := by simp; omega
            have e3b : ((k : Int) == 3) = true := by simp; omega
            have HLT := Lib.hid hlt
            clear hlt hk h3
            go_wp2_with fail
            refine HLN.out.mono ?_
            rintro e w2 ⟨rfl, rfl⟩
            go_wp2
            exact ⟨⟨k + 1, own2, by have := HLT.out; omega, by go_num, HN3, HFS⟩, by have := HLT.out; simp [intOf]; omega⟩
          · have e3 : ((k : Int) != 3) = true := by simp; omega
            have e3b : ((k : Int) == 3) = false := by simp; omega
            have hcv := HCV.out wr own2 HFS.out
            have HWR : Hid (Calls Try.prog 9 #[.pointer (some ⟨b, 0, none⟩), .int .i64 k, .string T] wr (StepPost (.int .i64 0) b ⟨List.replicate 90 PDsk.zero, PTwin.lp F (k + 1), -1⟩ own2 wr)) := Lib.hid (by
              have h := write_any wr HT.out.2.1 (k : Int) T (by rw [HTT.out.2.1]; unfold maxLen; omega) (by omega) (by omega) (by have := PTwin.lp_length F k; show (PTwin.lp F k).length ≤ _; omega)
              have e : PDsk.write ⟨List.replicate 90 PDsk.zero, PTwin.lp F k, -1⟩ (k : Int) T.data.toList = (⟨List.replicate 90 PDsk.zero, PTwin.lp F (k + 1), -1⟩, 0) := by
                unfold PDsk.write
                rw [if_neg (by show ¬ (-1 : Int) = 0; omega), if_neg (by rw [HTT.out.1]; have := HFL.out; simp; omega), HTT.out.1, Int.toNat_natCast]
                rw [show PTwin.lp F (k + 1) = PTwin.lp F k ++ [(k, F)] by rw [PTwin.lp, if_neg h3]]
                rfl
              rw [e] at h
              exact h)
            have HLT := Lib.hid hlt
            clear hlt hk h3
            go_wp2_with fail
            refine HLN.out.mono ?_
            rintro e w2 ⟨rfl, rfl⟩
            go_wp2_with fail
            refine HWR.out.mono ?_
            rintro e w3 ⟨own3, rfl, hd, hst⟩
            have HT3 := Lib.hid (HT.out.step hd hst)
            have HF3 := Lib.hid (HFS.out.step hst)
            clear hd hst HT HFS HWR hcv
            go_wp2
            exact ⟨⟨k + 1, own3, by have := HLT.out; omega, by go_num, HT3, HF3⟩, by have := HLT.out; simp [intOf]; omega⟩
        · have hk90 : k = 90 := by omega
          have i1 : ¬ (k : Int) < 90 := by omega
          replace HT : Hid (Td w wr b ⟨List.replicate 90 PDsk.zero, PTwin.lp F 90, -1⟩ own2) := Lib.hid (by have h := HT.out; rw [hk90] at h; exact h)
          have HOLD : Hid (∀ B, PTwin.Old 90 3 40 B (PTwin.put (List.replicate 90 PDsk.zero) (PTwin.lp F 90)) (PTwin.put (List.replicate 90 PDsk.zero) (PTwin.lp F 90))) := Lib.hid (PTwin.lp_old F HFL.out)
          have HSEC : Hid (∀ i, i < 90 → i ≠ 3 → PTwin.sec (PTwin.put (List.replicate 90 PDsk.zero) (PTwin.lp F 90)) i = F) := Lib.hid (PTwin.lp_sec F)
          have HSY : Hid (Calls Try.prog 11 #[.pointer (some ⟨b, 0, none⟩)] wr (StepPost (.int .i64 0) b ⟨PTwin.put (List.replicate 90 PDsk.zero) (PTwin.lp F 90), [], -1⟩ own2 wr)) := Lib.hid (by
            have h := sync_any wr HT.out.2.1
            have e : PDsk.sync ⟨List.replicate 90 PDsk.zero, PTwin.lp F 90, -1⟩ = (⟨PTwin.put (List.replicate 90 PDsk.zero) (PTwin.lp F 90), [], -1⟩, 0) := rfl
            rw [e] at h
            exact h)
          generalize PTwin.put (List.replicate 90 PDsk.zero) (PTwin.lp F 90) = S0 at *
          obtain ⟨R, hR⟩ : ∃ R : Nat, fu % 90 = R := ⟨_, rfl⟩
          have m1 : (fu : Int) % 90 = R := by omega
          have m2 : (fu : Int).tmod 90 = R := by rw [Int.tmod_eq_emod_of_nonneg (by omega)]; exact m1
          have hR90 : R < 90 := by omega
          have w1 : IntKind.u8.wrap (R : Int) = R := by rw [IntKind.wrap_u8]; omega
          have w2 : IntKind.i64.wrap (R : Int) = R := IntWalk.i64_in _ (by omega)
          clear hlt hk hR hk90
          go_wp2_with fail
          refine HLN.out.mono ?_
          rintro e w2 ⟨rfl, rfl⟩
          go_wp2_with fail
          refine HSY.out.mono ?_
          rintro e w3 ⟨own3, rfl, hd, hst⟩
          have HT3 := Lib.hid (HT.out.step hd hst)
          have HF3 := Lib.hid (HFS.out.step hst)
          clear hd hst HT HFS HSY HLN
          go_wp2_with fail
          refine (fuse_td HT3.out R (by omega)).mono ?_
          rintro e w4 ⟨rfl, hd, hst⟩
          have HT4 : Hid (Td w w4 b ⟨S0, [], R⟩ own3) := Lib.hid (HT3.out.step hd hst)
          have HF4 := Lib.hid (HF3.out.step hst)
          clear hd hst HT3 HF3
          go_wp2_with fail
          refine (pages_any _ lb _ (by omega) HKB.out (RdS.step HLB.out HT4.out.1)).mono ?_
          rintro e w5 ⟨ub, rfl, hsl, hbw⟩
          have HPB : Hid (Pg w w5 own3 ub (PTwin.pagesL lb)) := Lib.hid ⟨hsl.base_le HT4.out.1.size, Sl.apart HT4.out hsl⟩
          have HT5 := Lib.hid (HT4.out.below hbw)
          have HF5 := Lib.hid (HF4.out.below hbw)
          clear hsl hbw HT4 HF4
          have HBMAY := Lib.hid (PTwin.pages_may HNE.out 3 (by omega))
          have HBOK := Lib.hid (PTwin.pagesL_ok lb)
          have HBNE := Lib.hid (PTwin.pagesL_some HNE.out)
          generalize PTwin.pagesL lb = B at *
          have HBG : Hid (PTwin.Good 90 3 40 B) := Lib.hid (PTwin.good_of HBMAY.out (fun x hx => by have := HBOK.out.page x hx; omega) (by omega) (by omega))
          have hL0 : S0.length = 90 := (HOLD.out B).kept.len
          obtain ⟨qb, db, rfl⟩ := Sl.form HPB.out.1
          have hb8 := HBOK.out.len
          have hb1 := HBNE.out
          have HLN := Lib.hid (len_td HT5.out hL0)
          have hmkb : ∀ W, (Instr.makeSlice 49 (.int .i64 90) (.int .i64 90)).run Try.prog W = .ok (.slice (some ⟨W.heap.size, 0, none⟩) 90 90) (W.alloc (.cells ((List.replicate 90 (Value.bool false)).toArray) 4)) := fun W => make_bools 90 (by omega) W
          have HBS : Hid (Sl (w5.alloc (.cells ((List.replicate 90 (Value.bool false)).toArray) 4)) w5.heap.size 4 1 (.slice (some ⟨w5.heap.size, 0, none⟩) 90 90) 90 ((List.replicate 90 false).map Value.bool)) := Lib.hid (by
            have h := Sl.of_built w5 w5.heap.size (Nat.le_refl _) 4 1 90 (List.replicate 90 (Value.bool false)) (by simp) (by unfold maxLen; omega)
            rw [List.map_replicate]; exact h)
          have HB6 := Lib.hid ((Below.refl w5.heap.size w5).alloc (Nat.le_refl _) (.cells ((List.replicate 90 (Value.bool false)).toArray) 4))
          have HE90 : Hid ((List.replicate 90 false).length = 90) := Lib.hid (by simp)
          generalize List.replicate 90 false = ws0 at *
          clear HLB HKB HNE n2 n3 n4 hlen0 hL0
          go_wp2_with fail
          refine HLN.out.mono ?_
          rintro e w6 ⟨rfl, rfl⟩
          obtain ⟨E, hE⟩ : ∃ E, w5.heap.size = E := ⟨_, rfl⟩
          have HEE := Lib.hid hE
          rw [hE] at HBS HB6
          go_wp2
          clear hmkb
          go_loopw [16] (fun iv wr => ∃ (k : Nat) (ws : List Bool), 3 ≤ k ∧ k ≤ 36 ∧ iv = .int .i64 k ∧ Hid (Sl wr E 4 1 (.slice (some ⟨E, 0, none⟩) 90 90) 90 (ws.map Value.bool)) ∧ Hid (ws.length = 90) ∧ Hid (∀ i, 3 ≤ i → i < k → ws.getD i false = true) ∧ Hid (Below E w5 wr)) (fun iv _ => 36 - (intOf iv).toNat)
          case atStart => exact ⟨3, ws0, by omega, by omega, rfl, HBS, HE90, Lib.hid (fun i h1 h2 => by omega), HB6⟩
          case round =>
            clear HBS HB6 HE90 hE
            obtain ⟨k, ws, hk3, hk, rfl, HS, HWL, HTR, HB⟩ := hrel
            by_cases hlt : k < 36
            · have i1 : (k : Int) < 36 := by omega
              have k0 : (0 : Int) ≤ k := by omega
              have i90 : (k : Int) < 90 := by omega
              obtain ⟨x, hx⟩ := bool_at HS.out HWL.out (show k < 90 by omega)
              have hcell := hx.1
              have hfro := hx.2
              have HNS := Lib.hid (bool_set HS.out (show k < 90 by omega))
              have HNW : Hid ((ws.set k true).length = 90) := Lib.hid (by rw [List.length_set]; exact HWL.out)
              have HNT : Hid (∀ i, 3 ≤ i → i < k + 1 → (ws.set k true).getD i false = true) := Lib.hid (fun i h1 h2 => set_true (by rw [HWL.out]; omega) (by
                by_cases e : i = k
                · exact .inl e
                · exact .inr (HTR.out i h1 (by omega))))
              have HNB := Lib.hid (HB.out.setCell (p := ⟨E, k, none⟩) (Nat.le_refl _) (.bool true))
              have HLT := Lib.hid hlt
              clear hx hlt HS HB HTR HWL
              go_wp2
              exact ⟨⟨k + 1, _, by omega, by have := HLT.out; omega, by go_num, HNS, HNW, HNT, HNB⟩, by have := HLT.out; simp [intOf]; omega⟩
            · have hk36 : k = 36 := by omega
              have i1 : ¬ (k : Int) < 36 := by omega
              have HAR : Hid (∀ i, PTwin.InArea 3 i → ws.getD i false = true) := Lib.hid (fun i h => HTR.out i h.1 (by have := h.2; omega))
              clear HTR hlt hk hk3 hk36
              go_wp2
              go_loopw [17] (fun iv wr => ∃ (j : Nat) (ws : List Bool), j ≤ B.length ∧ iv = .int .i64 j ∧ Hid (Sl wr E 4 1 (.slice (some ⟨E, 0, none⟩) 90 90) 90 (ws.map Value.bool)) ∧ Hid (ws.length = 90) ∧ Hid (∀ i, PTwin.InArea 3 i → ws.getD i false = true) ∧ Hid (∀ x ∈ B.take j, ∀ t, t < 4 → ws.getD (40 + x.page * 4 + t) false = true) ∧ Hid (Below E w5 wr)) (fun iv _ => B.length - (intOf iv).toNat)
              case atStart => exact ⟨0, ws, by omega, rfl, HS, HWL, HAR, Lib.hid (fun x hx => by simp at hx), HB⟩
              case round =>
                clear HS HWL HAR HB ws
                obtain ⟨j, ws, hj, rfl, HS, HWL, HAR, HHM, HB⟩ := hrel
                by_cases hjl : j < B.length
                · have j1 : (j : Int) < B.length := by omega
                  have j0 : (0 : Int) ≤ j := by omega
                  obtain ⟨y, hy⟩ : ∃ y, (B[j]'hjl) = y := ⟨_, rfl⟩
                  have hp10 : y.page < 10 := by rw [← hy]; exact HBOK.out.page _ (List.getElem_mem hjl)
                  obtain ⟨p, hp⟩ : ∃ p, y.page = p := ⟨_, rfl⟩
                  rw [hp] at hp10
                  have HTK : Hid (B.take (j + 1) = B.take j ++ [y]) := Lib.hid (by rw [List.take_succ_eq_append_getElem hjl, hy])
                  have HYP := Lib.hid hp
                  obtain ⟨g0, off, hqb, hg0, d0, d1⟩ := home_cells (l := B) (c := db) (p := qb) (show HomeIn w5 (.slice qb B.length db) B from HPB.out.home) hjl
                  rw [hy, hp] at d0
                  have HD0 := Lib.hid d0
                  subst hqb
                  have HG0 : Hid (g0 < E) := Lib.hid (by rw [← HEE.out]; exact hg0)
                  have HJL := Lib.hid hjl
                  have HHB := HHM
                  clear hp hy d0 d1 hg0 hjl HHM
                  go_wp2
                  go_loopw [18] (fun iv wr => ∃ (t : Nat) (ws : List Bool), t ≤ 4 ∧ iv = .int .i64 t ∧ Hid (Sl wr E 4 1 (.slice (some ⟨E, 0, none⟩) 90 90) 90 (ws.map Value.bool)) ∧ Hid (ws.length = 90) ∧ Hid (∀ i, PTwin.InArea 3 i → ws.getD i false = true) ∧ Hid (∀ x ∈ B.take j, ∀ t, t < 4 → ws.getD (40 + x.page * 4 + t) false = true) ∧ Hid (∀ q, q < t → ws.getD (40 + p * 4 + q) false = true) ∧ Hid (Below E w5 wr)) (fun iv _ => 4 - (intOf iv).toNat)
                  case atStart => exact ⟨0, ws, by omega, rfl, HS, HWL, HAR, HHB, Lib.hid (fun q h => by omega), HB⟩
                  case round =>
                    clear HS HWL HAR HB HHB ws
                    obtain ⟨t, ws, ht, rfl, HS, HWL, HAR, HHB, HQT, HB⟩ := hrel
                    by_cases htl : t < 4
                    · have q1 : (t : Int) < 4 := by omega
                      obtain ⟨Q, hQ⟩ : ∃ Q : Nat, p * 4 = Q := ⟨_, rfl⟩
                      obtain ⟨F4, hF4⟩ : ∃ Q2 : Nat, 40 + Q = Q2 := ⟨_, rfl⟩
                      obtain ⟨K, hK⟩ : ∃ K : Nat, F4 + t = K := ⟨_, rfl⟩
                      have v1 : IntKind.i64.wrap (p : Int) = p := IntWalk.i64_in _ (by omega)
                      have v2 : IntKind.i64.wrap ((p : Int) * 4) = Q := by rw [IntWalk.i64_in _ (by omega)]; omega
                      have v3 : IntKind.i64.wrap (40 + (Q : Int)) = F4 := by rw [IntWalk.i64_in _ (by omega)]; omega
                      have v4 : IntKind.i64.wrap ((F4 : Int) + t) = K := by rw [IntWalk.i64_in _ (by omega)]; omega
                      have hK90 : K < 90 := by omega
                      have q2 : (0 : Int) ≤ K := by omega
                      have q3 : (K : Int) < 90 := by omega
                      have d0 : wr.cell? ⟨g0, off + j * 2, none⟩ = some (.int .u32 p) := (HB.out.cell (p := ⟨g0, off + j * 2, none⟩) HG0.out).trans HD0.out
                      obtain ⟨x, hx⟩ := bool_at HS.out HWL.out hK90
                      have hcell := hx.1
                      have hfro := hx.2
                      have HKE : Hid (40 + p * 4 + t = K) := Lib.hid (by omega)
                      have HNS := Lib.hid (bool_set HS.out hK90)
                      have HNW : Hid ((ws.set K true).length = 90) := Lib.hid (by rw [List.length_set]; exact HWL.out)
                      have HNA : Hid (∀ i, PTwin.InArea 3 i → (ws.set K true).getD i false = true) := Lib.hid (fun i h => set_true (by rw [HWL.out]; omega) (.inr (HAR.out i h)))
                      have HNH : Hid (∀ x ∈ B.take j, ∀ t, t < 4 → (ws.set K true).getD (40 + x.page * 4 + t) false = true) := Lib.hid (fun x hx t ht => set_true (by rw [HWL.out]; omega) (.inr (HHB.out x hx t ht)))
                      have HNQ : Hid (∀ q, q < t + 1 → (ws.set K true).getD (40 + p * 4 + q) false = true) := Lib.hid (fun q hq => set_true (by rw [HWL.out]; omega) (by
                        by_cases e : q = t
                        · subst e; exact .inl HKE.out
                        · exact .inr (HQT.out q (by omega))))
                      have HNB := Lib.hid (HB.out.setCell (p := ⟨E, K, none⟩) (Nat.le_refl _) (.bool true))
                      have HTL := Lib.hid htl
                      clear hx htl HS HB HQT HWL HAR HHB hQ hF4 hK
                      go_wp2
                      exact ⟨⟨t + 1, _, by have := HTL.out; omega, by go_num, HNS, HNW, HNA, HNH, HNQ, HNB⟩, by have := HTL.out; simp [intOf]; omega⟩
                    · have ht4 : t = 4 := by omega
                      have q1 : ¬ (t : Int) < 4 := by omega
                      have HHN : Hid (∀ x ∈ B.take (j + 1), ∀ t, t < 4 → ws.getD (40 + x.page * 4 + t) false = true) := Lib.hid (fun x hx t ht => by
                        rw [HTK.out] at hx
                        rcases List.mem_append.1 hx with hx | hx
                        · exact HHB.out x hx t ht
                        · rw [List.mem_singleton.1 hx, HYP.out]; exact HQT.out _ (by omega))
                      clear HHB HQT htl ht ht4
                      go_wp2
                      exact ⟨⟨j + 1, ws, by have := HJL.out; omega, by go_num, HS, HWL, HAR, HHN, HB⟩, by have := HJL.out; simp [intOf]; omega⟩
                · obtain rfl : j = B.length := by omega
                  have j1 : ¬ (B.length : Int) < B.length := by omega
                  have HALL : Hid (∀ i, PTwin.InArea 3 i ∨ PTwin.InHomes 40 B i → ws.getD i false = true) := Lib.hid (fun i h => by
                    rcases h with h | ⟨x, hx, h1, h2⟩
                    · exact HAR.out i h
                    · have := HHM.out x (by rw [List.take_length]; exact hx) (i - (40 + x.page * 4)) (by omega)
                      rwa [show 40 + x.page * 4 + (i - (40 + x.page * 4)) = i by omega] at this)
                  have hBb : Below w5.heap.size w5 wr := by rw [HEE.out]; exact HB.out
                  have HT6 := Lib.hid (HT5.out.below hBb)
                  have HF6 := Lib.hid (HF5.out.below hBb)
                  have HP6 := Lib.hid (HPB.out.below hBb)
                  have HBS : Hid (Bs w wr own3 (.slice (some ⟨E, 0, none⟩) 90 90) ws) := Lib.hid ⟨HS.out.base_le (by rw [← HEE.out]; exact HT5.out.1.size), fun k e hk => by
                    have := HT5.out.2.1.lt k hk
                    simp [Value.ownBlock] at e
                    have h2 := HEE.out
                    omega, HWL.out⟩
                  have HWR : Hid (Calls Try.prog 18 #[.pointer (some ⟨b, 0, none⟩), .int .i64 3, .int .i64 40, .slice qb B.length db] wr (StepPost (.int .i64 (PTwin.steps ⟨S0, [], R⟩ (PTwin.writeC 3 40 B)).2) b (PTwin.steps ⟨S0, [], R⟩ (PTwin.writeC 3 40 B)).1 own3 wr)) := Lib.hid (by
                    have hl : (⟨S0, [], R⟩ : PDsk.Dsk).sure.length = 90 := (HOLD.out B).kept.len
                    exact tw_write_yes wr HT6.out.2.1 3 40 (by rw [hl]; omega) (by rw [hl]; omega) B _ HBG.out.page HP6.out.home (by rw [hl]; exact HBMAY.out) (by simp))
                  obtain ⟨S2, hc2, hany, _⟩ := PTwin.any_crash HBG.out (HOLD.out B) (R : Int) (by omega) ks
                  obtain ⟨TT, hTT⟩ : ∃ T, PTwin.steps ⟨S0, [], R⟩ (PTwin.writeC 3 40 B) = T := ⟨_, rfl⟩
                  rw [hTT] at HWR hc2
                  obtain ⟨D2, e2⟩ := TT
                  dsimp only at HWR hc2
                  have HC2 := Lib.hid hc2
                  obtain ⟨S5, f5, kk, h1, h2, _, _, h5, _⟩ : ∃ S' f' k, PTwin.repair ⟨S2, [], -1⟩ 3 40 = (⟨S', [], f'⟩, k, 0) ∧ (PTwin.Old 90 3 40 B S0 S' ∨ PTwin.New 90 3 40 B S0 S') ∧ (PTwin.New 90 3 40 B S0 S2 → PTwin.New 90 3 40 B S0 S') ∧ -1 ≤ f' ∧ ((-1 : Int) = -1 → f' = -1) ∧ f' ≤ -1 := by
                    rcases PTwin.repair_cases HBG.out HBMAY.out hany (-1) (by omega) with h | ⟨h, _⟩
                    · exact h
                    · exact absurd rfl h
                  have hf5 := h5 rfl
                  subst hf5
                  have hk5 : PTwin.Kept 90 3 40 B S0 S5 := by
                    rcases h2 with h | h
                    · exact h.kept
                    · exact h.kept
                  have HK5 := Lib.hid hk5
                  have hlen2 : S2.length = 90 := by
                    rcases hany with h | h | h
                    · exact h.kept.len
                    · exact h.kept.len
                    · exact h.kept.len
                  have HL2 := Lib.hid hlen2
                  have HRPE := Lib.hid h1
                  clear hc2 hany hTT h1 h2 h5 hk5 hlen2 hBb HS HWL HAR HHM HB HT5 HF5 HPB hjl hj
                  go_wp2_with fail
                  refine HWR.out.mono ?_
                  rintro e w7 ⟨own7, rfl, hd, hst⟩
                  have HT7 := Lib.hid (HT6.out.step hd hst)
                  have HF7 := Lib.hid (HF6.out.step hst)
                  have HB7 := Lib.hid (HBS.out.step hst)
                  clear hd hst HT6 HF6 HP6 HBS HWR
                  have HCR := Lib.hid (crash_td HRK.out HT7.out)
                  rw [HC2.out] at HCR
                  go_wp2_with fail
                  refine HCR.out.mono ?_
                  rintro e w8 ⟨own8, rfl, hd, hst⟩
                  have HT8 := Lib.hid (HT7.out.step hd hst)
                  have HF8 := Lib.hid (HF7.out.step hst)
                  have HB8 := Lib.hid (HB7.out.step hst)
                  clear hd hst HT7 HF7 HB7 HCR HC2
                  have HRP : Hid (Calls Try.prog 14 #[.pointer (some ⟨b, 0, none⟩), .int .i64 3, .int .i64 40] w8 (RepPost b ⟨S2, [], -1⟩ 3 40 own8 w8)) := Lib.hid (by
                    have hl : (⟨S2, [], -1⟩ : PDsk.Dsk).sure.length = 90 := HL2.out
                    exact tw_repair_any w8 HT8.out.2.1 3 40 (by rw [hl]; omega) (by rw [hl]; omega) (by simp))
                  unfold RepPost at HRP
                  rw [HRPE.out] at HRP
                  dsimp only at HRP
                  go_wp2_with fail
                  refine HRP.out.mono ?_
                  rintro e w9 ⟨own9, rfl, hd, hst⟩
                  have HT9 := Lib.hid (HT8.out.step hd hst)
                  have HF9 := Lib.hid (HF8.out.step hst)
                  have HB9 := Lib.hid (HB8.out.step hst)
                  clear hd hst HT8 HF8 HB8 HRP HRPE
                  have HRDX : Hid (∀ (W : World) (k : Nat), k < 90 → IsDisk W b ⟨S5, [], -1⟩ own9 → Calls Try.prog 23 #[.pointer (some ⟨b, 0, none⟩), .int .i64 k] W fun e w' => e = .returned (.tuple #[.string ⟨(PTwin.sec S5 k).toArray⟩, .int .i64 0]) ∧ Below W.heap.size W w') := Lib.hid (fun W k hk hW => by
                    have h := read_any W hW (k : Int) (by omega)
                    rw [PDsk.read_now (by show (-1 : Int) ≠ 0; omega) (by show k < S5.length; rw [HK5.out.len]; exact hk)] at h
                    exact h)
                  have HWx := Lib.hid (Below.refl w9.heap.size w9)
                  go_wp2
                  go_loopw [21] (fun iv wr => ∃ k : Nat, k ≤ 90 ∧ iv = .int .i64 k ∧ Hid (Below w9.heap.size w9 wr)) (fun iv _ => 90 - (intOf iv).toNat)
                  case atStart => exact ⟨0, by omega, rfl, HWx⟩
                  case round =>
                    clear HWx
                    obtain ⟨k, hk, rfl, HB⟩ := hrel
                    have HTA := Lib.hid (HT9.out.below HB.out)
                    have HFA := Lib.hid (HF9.out.below HB.out)
                    have HBA := Lib.hid (HB9.out.below HB.out)
                    have HLN := Lib.hid (len_td HTA.out HK5.out.len)
                    by_cases hlt : k < 90
                    · have i1 : (k : Int) < 90 := by omega
                      have k0 : (0 : Int) ≤ k := by omega
                      have HLT := Lib.hid hlt
                      obtain ⟨x, hx, _⟩ := bool_at HBA.out.1 HBA.out.2.2 hlt
                      have hwx := bool_val HBA.out.1 HBA.out.2.2 hlt hx
                      have HRK2 := Lib.hid (HRDX.out wr k hlt HTA.out.2.1)
                      have HCX := Lib.hid hx
                      have HEW : Hid (E < wr.heap.size) := Lib.hid (HBA.out.1.lt E rfl).2
                      cases x
                      · have hsec : PTwin.sec S5 k = F := by
                          have hn : ¬ (PTwin.InArea 3 k ∨ PTwin.InHomes 40 B k) := fun h => by
                            have := HALL.out k h
                            rw [hwx] at this; cases this
                          rw [HK5.out.else_ k (fun h => hn (.inl h)) (fun h => hn (.inr h))]
                          exact HSEC.out k hlt (fun e => hn (.inl (by subst e; exact ⟨by omega, by omega⟩)))
                        have hxt : (⟨(PTwin.sec S5 k).toArray⟩ : ByteArray) = T := by
                          rw [hsec]
                          have h1 : (⟨T.data.toList.toArray⟩ : ByteArray) = T := by simp
                          rw [← h1, HTT.out.1]
                        rw [hxt] at HRK2
                        clear hlt hk hx hwx hsec hxt
                        go_wp2_with fail
                        refine HLN.out.mono ?_
                        rintro e wa ⟨rfl, rfl⟩
                        go_wp2_with fail
                        refine HRK2.out.mono ?_
                        rintro e wb ⟨rfl, hbw⟩
                        have hcx : wb.cell? ⟨E, k, none⟩ = some (.bool false) := (hbw.cell (p := ⟨E, k, none⟩) HEW.out).trans HCX.out
                        have hcv := HCV.out wb own9 (HFA.out.below hbw)
                        have HBN := Lib.hid (HB.out.step hbw)
                        clear hbw
                        go_wp2
                        exact ⟨⟨k + 1, by have := HLT.out; omega, by go_num, HBN⟩, by have := HLT.out; simp [intOf]; omega⟩
                      · clear hlt hk hx hwx
                        go_wp2_with fail
                        refine HLN.out.mono ?_
                        rintro e wa ⟨rfl, rfl⟩
                        go_wp2_with fail
                        refine HRK2.out.mono ?_
                        rintro e wb ⟨rfl, hbw⟩
                        have hcx : wb.cell? ⟨E, k, none⟩ = some (.bool true) := (hbw.cell (p := ⟨E, k, none⟩) HEW.out).trans HCX.out
                        have HBN := Lib.hid (HB.out.step hbw)
                        clear hbw
                        go_wp2
                        exact ⟨⟨k + 1, by have := HLT.out; omega, by go_num, HBN⟩, by have := HLT.out; simp [intOf]; omega⟩
                    · have i1 : ¬ (k : Int) < 90 := by omega
                      go_wp2_with fail
                      refine HLN.out.mono ?_
                      rintro e wa ⟨rfl, rfl⟩
                      go_wp2_with fail
                      refine (works14_any _).mono ?_
                      rintro e wb ⟨rfl, hbw⟩
                      have HTB := Lib.hid (HTA.out.below hbw)
                      clear hbw
                      go_wp2
                      go_ret
                      exact ⟨rfl, HTB.out.1⟩
end Go.Proofs.Ytdkhmhlphhammaa
