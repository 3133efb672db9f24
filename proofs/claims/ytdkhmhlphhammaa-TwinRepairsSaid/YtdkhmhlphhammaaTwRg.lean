/-
  Twin, the document's answer: ReadMark, Inside, May.
-/
import Derived.Test.YtdkhmhlphhammaaTwRf
import Derived.Deep.QuietTactic
namespace PTwin
theorem val_one (b : UInt8) : PWord.val [b] = b.toNat := by unfold PWord.val; simp
theorem count_at (s : ByteArray) (h : 1 < s.size) : (s[1]'h).toNat = count s.data.toList := by
  have hl : s.data.toList.length = s.size := rfl
  unfold count PWord.get PWord.inside
  rw [if_pos (by simp; omega)]
  have e : ((s.data.toList.drop (1 : Int).toNat).take (1 : Int).toNat) = [s[1]'h] := by
    show (s.data.toList.drop 1).take 1 = _
    rw [List.drop_eq_getElem_cons (by rw [hl]; exact h)]
    rfl
  show _ = PWord.val _
  rw [e, val_one]
end PTwin
namespace Go.Proofs.Ytdkhmhlphhammaa
open Go.RowKit
open PTwin (Hm)
theorem elem_u32 : ElemT Try.prog 22 32 1 4 := ElemT.mk' (z := .int .u32 0) Try.underlying22 (by kernel_rfl) rfl (by decide)
theorem same_bytes {m s : ByteArray} (h : m.data.toList = s.data.toList) : m = s := by
  have h1 : (⟨m.data.toList.toArray⟩ : ByteArray) = m := by simp
  have h2 : (⟨s.data.toList.toArray⟩ : ByteArray) = s := by simp
  rw [← h1, ← h2, h]
def RMPost (s : List UInt8) (w : World) (e : Ending) (w' : World) : Prop := ∃ v, e = .returned (.tuple #[v, .int .i64 (PTwin.rread s).2]) ∧ Sl w' w.heap.size 32 1 v (PTwin.rread s).1.length (u32V (PTwin.rread s).1) ∧ Below w.heap.size w w'
theorem rm_nil {s : List UInt8} {w w' : World} {c : Int} (h : PTwin.rread s = ([], c)) (hb : Below w.heap.size w w') : RMPost s w (.returned (.tuple #[.slice none 0 0, .int .i64 c])) w' := by
  unfold RMPost
  rw [h]
  exact ⟨_, rfl, Sl.nil _ _ _ _, hb⟩
set_option maxRecDepth 20000 in
set_option maxHeartbeats 4000000 in
theorem rreadmark_any (w : World) (s : ByteArray) (hs : s.size = 128) : Calls Try.prog 30 #[.string s] w (RMPost s.data.toList w) := by
  obtain ⟨z, hz⟩ : ∃ z : ByteArray, (⟨PTwin.clear.toArray⟩ : ByteArray) = z := ⟨_, rfl⟩
  have HMN : Hid (∀ W, Calls Try.prog 10 #[.slice none 0 0] W fun e w' => e = .returned (.string z) ∧ Below W.heap.size W w') := Lib.hid (fun W => by
    have := rmark_any W [] (.slice none 0 0) (by simp) (by simp) ⟨none, 0, rfl, by simp [u32V], by unfold maxLen; omega, fun h => absurd rfl h⟩
    rw [show PTwin.rmark [] = PTwin.clear from rfl, hz] at this
    exact this)
  have hzd : z.data.toList = PTwin.clear := by rw [← hz]
  by_cases hc : s.data.toList = PTwin.clear
  · have hsz : s = z := same_bytes (by rw [hc, hzd])
    have HR : Hid (PTwin.rread z.data.toList = ([], 0)) := Lib.hid (by unfold PTwin.rread; rw [if_pos hzd])
    rw [hsz]
    clear hsz hc hzd hz hs
    go_enter Try.func30, Try.ntmps30
    go_wp2_with fail
    refine (HMN.out _).mono ?_
    rintro e w1 ⟨rfl, hb⟩
    have HB := Lib.hid hb
    clear hb
    go_wp2
    go_ret2
    exact rm_nil HR.out HB.out
  have hne : (s.toList == z.toList) = false := by rw [bytes_eq, bytes_eq, hzd]; exact beq_eq_false_iff_ne.2 hc
  have h1 : 1 < s.size := by omega
  obtain ⟨C, hC⟩ : ∃ C, PTwin.count s.data.toList = C := ⟨_, rfl⟩
  have hx : (s[1]'h1).toNat = C := by rw [PTwin.count_at s h1, hC]
  have hC256 : C < 256 := by rw [← hC]; exact PTwin.get_lt1 _ _
  have hwc : IntKind.i64.wrap (C : Int) = C := IntWalk.i64_in _ (by omega)
  have i0 : (0 : Int) ≤ 1 := by omega
  have i1 : (1 : Int) < s.size := by omega
  by_cases hn : C < 1 ∨ 8 < C
  · have HR : Hid (PTwin.rread s.data.toList = ([], 120)) := Lib.hid (by unfold PTwin.rread; rw [if_neg hc, if_pos (by rw [hC]; exact hn)])
    have hcs : (C : Int) < 1 ∨ (¬ (C : Int) < 1 ∧ (8 : Int) < C) := by omega
    clear hc hn hC hzd hz
    rcases hcs with j1 | ⟨j1, j2⟩
    all_goals (
      go_enter Try.func30, Try.ntmps30
      go_wp2_with fail
      refine (HMN.out _).mono ?_
      rintro e w1 ⟨rfl, hb⟩
      have HB := Lib.hid hb
      clear hb
      go_wp2
      go_ret2
      exact rm_nil HR.out HB.out)
  obtain ⟨L, hL⟩ : ∃ L, PTwin.named s.data.toList = L := ⟨_, rfl⟩
  have HLS : Hid (∀ k, L (k + 1) = L k ++ [(PWord.get s.data.toList (2 + 4 * (k : Nat) : Nat) 4).1]) := Lib.hid (fun k => by rw [← hL]; exact PTwin.named_succ _ _)
  have HLL : Hid (∀ k, (L k).length = k) := Lib.hid (fun k => by rw [← hL]; exact PTwin.named_length _ _)
  have HLP : Hid (∀ k, ∀ p ∈ L k, p < 4294967296) := Lib.hid (fun k p hp => by
    rw [← hL] at hp
    unfold PTwin.named at hp
    obtain ⟨i, _, rfl⟩ := List.mem_map.1 hp
    exact PTwin.get_lt4 _ _)
  have HRR : Hid (PTwin.rread s.data.toList = if PTwin.mark (L C) ≠ s.data.toList then ([], 120) else (L C, 0)) := Lib.hid (by unfold PTwin.rread; rw [if_neg hc, hC, if_neg hn, hL])
  have HG4 : Hid (∀ (W : World) (k R : Nat), R = 2 + 4 * k → Calls Try.prog 44 #[.string s, .int .i64 R, .int .i64 4] W fun e w' => ∃ ok : Bool, e = .returned (.tuple #[.int .u64 ((PWord.get s.data.toList (2 + 4 * (k : Nat) : Nat) 4).1 : Nat), .bool ok]) ∧ W = w') := Lib.hid (fun W k R hR => by
    subst hR
    refine (rget_any s ((2 + 4 * k : Nat) : Int) 4 (by unfold maxLen; omega) W).mono ?_
    rintro e w' ⟨he, hb⟩
    exact ⟨_, he, hb⟩)
  have HL0 : Hid (L 0 = []) := Lib.hid (List.length_eq_zero_iff.1 (HLL.out 0))
  have j1 : ¬ (C : Int) < 1 := by omega
  have j2 : ¬ (8 : Int) < C := by omega
  have hC8 : C ≤ 8 := by omega
  have hC1 : 1 ≤ C := by omega
  clear hc hn hC hzd hz hL hC256
  go_enter Try.func30, Try.ntmps30
  go_wp2_with fail
  refine (HMN.out _).mono ?_
  rintro e w1 ⟨rfl, hb⟩
  have HB := Lib.hid hb
  clear hb HMN
  go_wp2
  clear hx hne
  go_loopw [5, 6] (fun uv iv wr => ∃ k : Nat, k ≤ C ∧ iv = .int .i64 k ∧ Hid (Sl wr w.heap.size 32 1 uv k (u32V (L k))) ∧ Hid (Below w.heap.size w wr)) (fun _ iv _ => C - (intOf iv).toNat)
  case atStart => exact ⟨0, by omega, rfl, Lib.hid (by rw [HL0.out]; exact Sl.nil _ _ _ _), HB⟩
  case round =>
    clear HB
    obtain ⟨k, hk, rfl, HS, HB⟩ := hrel
    obtain ⟨pu, cu, rfl⟩ := Sl.form HS.out
    by_cases hlt : k < C
    · have q1 : (k : Int) < C := by omega
      obtain ⟨Q, hQ⟩ : ∃ Q : Nat, 4 * k = Q := ⟨_, rfl⟩
      obtain ⟨R, hR⟩ : ∃ R : Nat, R = 2 + 4 * k := ⟨_, rfl⟩
      have HR := Lib.hid hR
      have HLT := Lib.hid hlt
      have w1 : IntKind.i64.wrap (4 * (k : Int)) = Q := by rw [IntWalk.i64_in _ (by omega)]; omega
      have w2 : IntKind.i64.wrap (2 + (Q : Int)) = R := by rw [IntWalk.i64_in _ (by omega)]; omega
      obtain ⟨P, hP⟩ : ∃ P : Nat, (PWord.get s.data.toList (2 + 4 * (k : Nat) : Nat) 4).1 = P := ⟨_, rfl⟩
      have hP4 : P < 4294967296 := by rw [← hP]; exact PTwin.get_lt4 _ _
      have w4 : IntKind.u32.wrap (P : Int) = P := by rw [IntKind.wrap_u32]; omega
      have HGK := Lib.hid (fun W => HG4.out W k R HR.out)
      have HFK : Hid (u32V (L (k + 1)) = u32V (L k) ++ [.int .u32 P]) := Lib.hid (by rw [HLS.out k, hP]; simp [u32V])
      rw [hP] at HGK
      have hbs := HB.out.size
      clear hQ hR hP hlt
      go_wp2_with fail
      refine (HGK.out _).mono ?_; rintro e w4 ⟨ok2, rfl, rfl⟩
      go_wp2_with (at_builtin; (with_reducible apply wpList_append_sl elem_u32 (HS.out.alloc _) [.int .u32 P]); (· rfl); (· rfl); (· rfl); (· rfl); (· rfl); (· exact news_at _ [_] _ _ rfl); (· intro u hu; simp at hu; subst hu; rfl); (· unfold maxLen; omega); (· omega); (· rw [World.size_alloc]; omega); intro v' w6 g1 g2 _ g4)
      have HSN : Hid (Sl w6 w.heap.size 32 1 v' (k + 1) (u32V (L (k + 1)))) := Lib.hid (by rw [HFK.out]; exact g1)
      have HBN2 : Hid (Below w.heap.size w w6) := Lib.hid ((HB.out.alloc hbs _).grown g2 (by rw [World.size_alloc]; omega) (fun j e => (HS.out.lt j e).1))
      clear g1 g2 g4 HS HB HGK HFK
      go_wp2
      exact ⟨⟨k + 1, by have := HLT.out; omega, by go_num, HSN, HBN2⟩, by have := HLT.out; simp [intOf]; omega⟩
    · obtain rfl : k = C := by omega
      have q1 : ¬ (k : Int) < k := by omega
      have HRD : Hid (Rd wr (.slice pu k cu) (u32V (L k))) := Lib.hid (Rd.of_sl HS.out)
      obtain ⟨m, hm⟩ : ∃ m : ByteArray, (⟨(PTwin.mark (L k)).toArray⟩ : ByteArray) = m := ⟨_, rfl⟩
      have HMK : Hid (Calls Try.prog 10 #[.slice pu k cu] wr fun e w' => e = .returned (.string m) ∧ Below wr.heap.size wr w') := Lib.hid (by
        have := rmark_any wr (L k) _ (by rw [HLL.out]; omega) (HLP.out k) HRD.out
        rw [show PTwin.rmark (L k) = PTwin.mark (L k) by unfold PTwin.rmark; rw [if_neg (by rw [HLL.out]; omega)], hm] at this
        exact this)
      have hmd : m.data.toList = PTwin.mark (L k) := by rw [← hm]
      by_cases hmn : PTwin.mark (L k) = s.data.toList
      · have hme : m = s := same_bytes (by rw [hmd, hmn])
        have HR : Hid (PTwin.rread s.data.toList = (L k, 0)) := Lib.hid (by rw [HRR.out, if_neg (by simp [hmn])])
        rw [hme] at HMK
        clear hm hmd hmn hme hlt hk
        go_wp2_with fail
        refine HMK.out.mono ?_
        rintro e w4 ⟨rfl, hb⟩
        have HB2 := Lib.hid (HB.out.step hb)
        have HS2 := Lib.hid (HS.out.keep (fun j e => hb.block j (HS.out.lt j e).2))
        clear hb
        go_wp2
        go_ret2
        unfold RMPost
        rw [HR.out, HLL.out]
        exact ⟨_, rfl, HS2.out, HB2.out⟩
      · have hms1 : (m.toList == s.toList) = false := by rw [beq_eq_false_iff_ne, bytes_eq, bytes_eq, hmd]; exact hmn
        have hms2 : (m.toList != s.toList) = true := by rw [bne, hms1]; rfl
        have HR : Hid (PTwin.rread s.data.toList = ([], 120)) := Lib.hid (by rw [HRR.out, if_pos hmn])
        clear hm hmd hmn hlt hk
        go_wp2_with fail
        refine HMK.out.mono ?_
        rintro e w4 ⟨rfl, hb⟩
        have HB2 := Lib.hid (HB.out.step hb)
        clear hb
        go_wp2
        go_ret2
        exact rm_nil HR.out HB2.out
theorem rinside_any (n a base page : Nat) (hn : n ≤ 100000) (ha : a ≤ 100000) (hb : base ≤ 100000) (hp : page < 4294967296) (w : World) :
    Calls Try.prog 45 #[.int .i64 n, .int .i64 a, .int .i64 base, .int .u32 page] w fun e w' => e = .returned (.bool (PTwin.inside n a base page)) ∧ w = w' := by
  obtain ⟨Q, hQ⟩ : ∃ Q : Nat, page * 4 = Q := ⟨_, rfl⟩
  obtain ⟨F, hF⟩ : ∃ F : Nat, base + Q = F := ⟨_, rfl⟩
  obtain ⟨F4, hF4⟩ : ∃ F : Nat, base + Q + 4 = F := ⟨_, rfl⟩
  obtain ⟨A, hA⟩ : ∃ F : Nat, a + 33 = F := ⟨_, rfl⟩
  have w0 : IntKind.u64.wrap (base : Int) = base := by rw [IntKind.wrap_u64]; omega
  have w0a : IntKind.u64.wrap (a : Int) = a := by rw [IntKind.wrap_u64]; omega
  have w0n : IntKind.u64.wrap (n : Int) = n := by rw [IntKind.wrap_u64]; omega
  have w1 : IntKind.u64.wrap (page : Int) = page := by rw [IntKind.wrap_u64]; omega
  have w2 : IntKind.u64.wrap ((page : Int) * 4) = Q := by rw [IntKind.wrap_u64]; omega
  have w3 : IntKind.u64.wrap ((base : Int) + Q) = F := by rw [IntKind.wrap_u64]; omega
  have w4 : IntKind.u64.wrap ((F : Int) + 4) = F4 := by rw [IntKind.wrap_u64]; omega
  have w5 : IntKind.u64.wrap ((a : Int) + 33) = A := by rw [IntKind.wrap_u64]; omega
  have HR : Hid (PTwin.inside n a base page = (decide (F4 ≤ n) && (decide (A ≤ F) || decide (F4 ≤ a)))) := Lib.hid (by unfold PTwin.inside; rw [hQ, hF4, hF, hA])
  have hcase : (¬ F4 ≤ n) ∨ (F4 ≤ n ∧ A ≤ F) ∨ (F4 ≤ n ∧ ¬ A ≤ F ∧ F4 ≤ a) ∨ (F4 ≤ n ∧ ¬ A ≤ F ∧ ¬ F4 ≤ a) := by omega
  clear hQ hF hF4 hA ha hb hp hn
  rcases hcase with c1 | ⟨c1, c2⟩ | ⟨c1, c2, c3⟩ | ⟨c1, c2, c3⟩
  · have i1 : (n : Int) < F4 := by omega
    have HE : Hid (PTwin.inside n a base page = false) := Lib.hid (by rw [HR.out]; simp [c1])
    clear c1
    go_enter Try.func45, Try.ntmps45
    go_wp2
    go_ret
    (rw [HE.out]; exact ⟨rfl, rfl⟩)
  · have i1 : ¬ (n : Int) < F4 := by omega
    have i2 : (A : Int) ≤ F := by omega
    have HE : Hid (PTwin.inside n a base page = true) := Lib.hid (by rw [HR.out]; simp [c1, c2])
    clear c1 c2
    go_enter Try.func45, Try.ntmps45
    go_wp2
    go_ret
    (rw [HE.out]; exact ⟨rfl, rfl⟩)
  · have i1 : ¬ (n : Int) < F4 := by omega
    have i2 : ¬ (A : Int) ≤ F := by omega
    have i3 : (F4 : Int) ≤ a := by omega
    have HE : Hid (PTwin.inside n a base page = true) := Lib.hid (by rw [HR.out]; simp [c1, c3])
    clear c1 c2 c3
    go_enter Try.func45, Try.ntmps45
    go_wp2
    go_ret
    (rw [HE.out]; exact ⟨rfl, rfl⟩)
  · have i1 : ¬ (n : Int) < F4 := by omega
    have i2 : ¬ (A : Int) ≤ F := by omega
    have i3 : ¬ (F4 : Int) ≤ a := by omega
    have HE : Hid (PTwin.inside n a base page = false) := Lib.hid (by rw [HR.out]; simp [c2, c3])
    clear c1 c2 c3
    go_enter Try.func45, Try.ntmps45
    go_wp2
    go_ret
    (rw [HE.out]; exact ⟨rfl, rfl⟩)
end Go.Proofs.Ytdkhmhlphhammaa
