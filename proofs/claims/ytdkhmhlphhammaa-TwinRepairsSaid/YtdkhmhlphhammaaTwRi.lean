/-
  Twin, the document's answer: Repair.
-/
import Derived.Test.YtdkhmhlphhammaaTwRh
import Derived.Test.YtdkhmhlphhammaaPTwD
import Derived.Handy
namespace PTwin
open PDsk
def rrep (S : List (List UInt8)) (a base : Nat) : List Cal × Nat × Int :=
  if (rread (sec S a)).2 ≠ 0 ∨ (rread (sec S a)).1.length = 0 then ([], 0, (rread (sec S a)).2)
  else if may S.length a base (found ⟨S, [], -1⟩ a (rread (sec S a)).1.length) = false then ([], 0, 120)
  else (homes base (found ⟨S, [], -1⟩ a (rread (sec S a)).1.length) ++ marks a clear, (rread (sec S a)).1.length, 0)
theorem rread_cases (s : List UInt8) : ((rread s).2 ≠ 0 ∧ (rread s).1 = []) ∨ ((rread s).2 = 0 ∧ (rread s).1 = []) ∨ ((rread s).2 = 0 ∧ 1 ≤ (rread s).1.length ∧ (rread s).1.length ≤ 8 ∧ (rread s).1 = named s (rread s).1.length) := by
  unfold rread
  split
  · right; left; exact ⟨rfl, rfl⟩
  split
  · left; exact ⟨by decide, rfl⟩
  split
  · left; exact ⟨by decide, rfl⟩
  · rename_i h _
    right; right
    refine ⟨rfl, ?_, ?_, ?_⟩
    · show 1 ≤ (named s (count s)).length; rw [named_length]; omega
    · show (named s (count s)).length ≤ 8; rw [named_length]; omega
    · show named s (count s) = named s (named s (count s)).length; rw [named_length]
end PTwin
namespace Go.Proofs.Ytdkhmhlphhammaa
open Go.RowKit
open PTwin (Hm Cal)
def secV (S : List (List UInt8)) : List Value := S.map fun x => .string ⟨x.toArray⟩
def RRPost (S : List (List UInt8)) (a base : Nat) (w : World) (e : Ending) (w' : World) : Prop := ∃ u, e = .returned (.tuple #[u, .int .i64 (PTwin.rrep S a base).2.1, .int .i64 (PTwin.rrep S a base).2.2]) ∧ Sl w' w.heap.size 79 2 u (PTwin.rrep S a base).1.length (callsV (PTwin.rrep S a base).1) ∧ Below w.heap.size w w'
theorem rr_nil {S : List (List UInt8)} {a base : Nat} {w w' : World} {c : Int} (h : PTwin.rrep S a base = ([], 0, c)) (hb : Below w.heap.size w w') : RRPost S a base w (.returned (.tuple #[.slice none 0 0, .int .i64 0, .int .i64 c])) w' := by
  unfold RRPost
  rw [h]
  exact ⟨_, rfl, Sl.nil _ _ _ _, hb⟩
theorem sec_cell {w : World} {p : Option Addr} {c : Nat} {S : List (List UInt8)} (h : Rd w (.slice p S.length c) (secV S)) {i : Nat} (hi : i < S.length) : ∃ g off, p = some ⟨g, off, none⟩ ∧ g < w.heap.size ∧ w.cell? ⟨g, off + i, none⟩ = some (.string ⟨(PTwin.sec S i).toArray⟩) := by
  obtain ⟨g, off, rfl, hg, hc⟩ := rd_cell h (i := i) (by simpa [secV] using hi)
  refine ⟨g, off, rfl, hg, ?_⟩
  rw [hc]
  unfold PTwin.sec
  rw [List.getD_eq_getElem?_getD, List.getElem?_eq_getElem hi]
  simp [secV]
set_option maxRecDepth 20000 in
set_option maxHeartbeats 8000000 in
theorem rrepair_any (w : World) (S : List (List UInt8)) (a base : Nat) (v : Value) (hn : S.length ≤ 1000) (hsz : ∀ x ∈ S, x.length = 128) (ha : a + 33 ≤ S.length) (hb : base ≤ S.length) (hi : Rd w v (secV S)) :
    Calls Try.prog 13 #[v, .int .i64 a, .int .i64 base] w (RRPost S a base w) := by
  have hlv : (secV S).length = S.length := by simp [secV]
  have HIN := Lib.hid hi
  obtain ⟨pv, cv, rfl, hcv, hcm, _⟩ := hi
  rw [hlv] at HIN hcv ⊢
  unfold maxLen at hcm
  obtain ⟨D, hD⟩ : ∃ D : PDsk.Dsk, (⟨S, [], -1⟩ : PDsk.Dsk) = D := ⟨_, rfl⟩
  have HSC : Hid (∀ i, i < S.length → (PTwin.sec S i).length = 128) := Lib.hid (fun i h => by
    unfold PTwin.sec
    rw [List.getD_eq_getElem?_getD, List.getElem?_eq_getElem h]
    exact hsz _ (List.getElem_mem h))
  obtain ⟨g, off, hpv, hg, c0⟩ := sec_cell HIN.out (i := a) (by omega)
  subst hpv
  obtain ⟨T, hT⟩ : ∃ T : ByteArray, (⟨(PTwin.sec S a).toArray⟩ : ByteArray) = T := ⟨_, rfl⟩
  have HTT : Hid (T.size = 128 ∧ T.data.toList = PTwin.sec S a) := Lib.hid (by subst hT; exact ⟨HSC.out a (by omega), rfl⟩)
  rw [hT] at c0
  have HRM := Lib.hid (fun W => rreadmark_any W T HTT.out.1)
  rw [HTT.out.2] at HRM
  have a0 : (0 : Int) ≤ a := by omega
  have a1 : (a : Int) < S.length := by omega
  have HRRP : Hid (PTwin.rrep S a base = if (PTwin.rread (PTwin.sec S a)).2 ≠ 0 ∨ (PTwin.rread (PTwin.sec S a)).1.length = 0 then ([], 0, (PTwin.rread (PTwin.sec S a)).2) else if PTwin.may S.length a base (PTwin.found D a (PTwin.rread (PTwin.sec S a)).1.length) = false then ([], 0, 120) else (PTwin.homes base (PTwin.found D a (PTwin.rread (PTwin.sec S a)).1.length) ++ PTwin.marks a PTwin.clear, (PTwin.rread (PTwin.sec S a)).1.length, 0)) := Lib.hid (by rw [← hD]; rfl)
  have hcs := PTwin.rread_cases (PTwin.sec S a)
  obtain ⟨X, hX⟩ : ∃ X, PTwin.rread (PTwin.sec S a) = X := ⟨_, rfl⟩
  have HNW : Hid (∀ k, PDsk.now D k = PTwin.sec S k) := Lib.hid (fun k => by rw [← hD]; rfl)
  rw [hX] at HRRP hcs
  unfold RMPost at HRM
  rw [hX] at HRM
  obtain ⟨ls, er⟩ := X
  dsimp only at HRM HRRP hcs
  rcases hcs with ⟨h1, h2⟩ | ⟨h1, h2⟩ | ⟨h1, h2, h3, h4⟩
  · subst h2
    have HR : Hid (PTwin.rrep S a base = ([], 0, er)) := Lib.hid (by rw [HRRP.out, if_pos (.inl h1)])
    have e1 : (er != 0) = true := by simpa using h1
    have HV : Hid (∀ (W : World), Calls Try.prog 30 #[.string T] W fun e w' => ∃ v, e = .returned (.tuple #[v, .int .i64 er]) ∧ Below W.heap.size W w') := Lib.hid (fun W => (HRM.out W).mono (fun e w' ⟨v, q1, q2, q3⟩ => ⟨v, q1, q3⟩))
    clear h1 hD hT hX hn hsz ha hb HRM
    go_enter Try.func13, Try.ntmps13
    go_wp2_with fail
    refine (HV.out _).mono ?_
    rintro e w1 ⟨u, rfl, hbw⟩
    have HB := Lib.hid hbw
    clear hbw
    go_wp2
    go_returns
    exact rr_nil HR.out HB.out
  · subst h2
    subst h1
    have HR : Hid (PTwin.rrep S a base = ([], 0, 0)) := Lib.hid (by rw [HRRP.out, if_pos (.inr rfl)])
    have HV : Hid (∀ (W : World), Calls Try.prog 30 #[.string T] W fun e w' => ∃ p c, e = .returned (.tuple #[.slice p 0 c, .int .i64 0]) ∧ Below W.heap.size W w') := Lib.hid (fun W => (HRM.out W).mono (fun e w' ⟨v, q1, q2, q3⟩ => by
      obtain ⟨p, c, rfl⟩ := Sl.form q2
      exact ⟨p, c, q1, q3⟩))
    clear hD hT hX hn hsz ha hb HRM
    go_enter Try.func13, Try.ntmps13
    go_wp2_with fail
    refine (HV.out _).mono ?_
    rintro e w1 ⟨p, c, rfl, hbw⟩
    have HB := Lib.hid hbw
    clear hbw
    go_wp2
    go_returns
    exact rr_nil HR.out HB.out
  · subst h1
    obtain ⟨C, hC⟩ : ∃ C, ls.length = C := ⟨_, rfl⟩
    rw [hC] at h2 h3 h4 HRRP
    have hok : D.Ok := by rw [← hD]; exact ⟨by show 1 ≤ S.length; omega, by show S.length ≤ 16384; omega, hsz, by simp, by show (-1 : Int) ≤ -1; omega, by show (-1 : Int) ≤ _; omega⟩
    have hDl : D.sure.length = S.length := by rw [← hD]
    have HLP : Hid (∀ k (h : k < ls.length), k < C → ls[k] = (PWord.get (PDsk.now D a) (2 + 4 * (k : Nat) : Nat) 4).1) := Lib.hid (fun k h hk => by
      have e : ls[k]? = (PTwin.named (PTwin.sec S a) C)[k]? := by rw [← h4]
      rw [List.getElem?_eq_getElem h] at e
      unfold PTwin.named at e
      rw [List.getElem?_map, List.getElem?_range hk] at e
      simp at e
      rw [e, HNW.out]
      simp)
    have HXP : Hid (∀ x ∈ PTwin.found D a C, x.page < 4294967296 ∧ x.bytes.length = 512) := Lib.hid (by
      intro x hx
      unfold PTwin.found at hx
      obtain ⟨i, hi, rfl⟩ := List.mem_map.1 hx
      have := List.mem_range.1 hi
      exact ⟨PTwin.get_lt4 _ _, pageAt_length hok (by omega)⟩)
    have HXL : Hid ((PTwin.found D a C).length = C) := Lib.hid (PTwin.found_length _ _ _)
    have HFS : Hid (∀ k, homesV (PTwin.found D a (k + 1)) = homesV (PTwin.found D a k) ++ [.int .u32 ((PWord.get (PDsk.now D a) (2 + 4 * (k : Nat) : Nat) 4).1 : Nat), .string ⟨(PTwin.pageAt D (a + 1) k).toArray⟩]) := Lib.hid (fun k => by rw [PTwin.found_succ, homesV_snoc])
    have HACC : Hid (∀ F, F + 4 ≤ S.length → ∀ t, t ≤ 4 → (accP D F t).length = 128 * t) := Lib.hid (fun F hF t ht => accP_length hok F (by rw [hDl]; exact hF) t ht)
    have HRR2 : Hid (PTwin.rrep S a base = if PTwin.may S.length a base (PTwin.found D a C) = false then ([], 0, 120) else (PTwin.homes base (PTwin.found D a C) ++ PTwin.marks a PTwin.clear, C, 0)) := Lib.hid (by rw [HRRP.out, if_neg (by rintro (h | h); exact h rfl; omega)])
    have HV : Hid (∀ (W : World), Calls Try.prog 30 #[.string T] W fun e w' => ∃ p c, e = .returned (.tuple #[.slice p C c, .int .i64 0]) ∧ Rd w' (.slice p C c) (u32V ls) ∧ Below W.heap.size W w') := Lib.hid (fun W => (HRM.out W).mono (fun e w' ⟨v, q1, q2, q3⟩ => by
      rw [hC] at q2
      obtain ⟨p, c, rfl⟩ := Sl.form q2
      exact ⟨p, c, q1, Rd.of_sl q2, q3⟩))
    have HLC : Hid (ls.length = C) := Lib.hid hC
    have e2 : ((C : Int) == 0) = false := by rw [beq_eq_false_iff_ne]; omega
    have HAB : Hid (a + 33 ≤ S.length ∧ base ≤ S.length ∧ S.length ≤ 1000) := Lib.hid ⟨ha, hb, hn⟩
    have ha5 : a ≤ 1000 := by omega
    have hb5 : base ≤ 1000 := by omega
    have hn5 : S.length ≤ 1000 := hn
    clear hD hT hX hsz hok hDl HRM HRRP h4 hC ha hb hn
    go_enter Try.func13, Try.ntmps13
    go_wp2_with fail
    refine (HV.out _).mono ?_
    rintro e w1 ⟨pl, cl, rfl, hrl, hbw⟩
    have HRL := Lib.hid hrl
    have HB1 := Lib.hid hbw
    clear hrl hbw HV c0
    have HBR := Lib.hid (Below.refl w1.heap.size w1)
    go_wp2
    go_loopw [11, 12] (fun uv iv wr => ∃ k : Nat, k ≤ C ∧ iv = .int .i64 k ∧ Hid (Sl wr w1.heap.size 34 2 uv k (homesV (PTwin.found D a k))) ∧ Hid (Below w1.heap.size w1 wr)) (fun _ iv _ => C - (intOf iv).toNat)
    case atStart => exact ⟨0, by omega, rfl, Lib.hid (Sl.nil _ _ _ _), HBR⟩
    case round =>
      clear HBR
      obtain ⟨k, hk, rfl, HS, HB⟩ := hrel
      obtain ⟨pu, cu, rfl⟩ := Sl.form HS.out
      by_cases hlt : k < C
      · have q1 : (k : Int) < C := by omega
        have k0 : (0 : Int) ≤ k := by omega
        have hkl : k < ls.length := by rw [HLC.out]; exact hlt
        obtain ⟨gl, ol, hpl, hgl, cl0⟩ := rd_cell (HRL.out.below HB.out) (i := k) (by simpa [u32V] using hkl)
        obtain ⟨P, hP⟩ : ∃ P : Nat, (PWord.get (PDsk.now D a) (2 + 4 * (k : Nat) : Nat) 4).1 = P := ⟨_, rfl⟩
        have cl1 : wr.cell? ⟨gl, ol + k, none⟩ = some (.int .u32 P) := by
          have e := HLP.out k hkl hlt
          rw [hP] at e
          rw [cl0]
          simp [u32V, e]
        subst hpl
        obtain ⟨A1, hA1⟩ : ∃ A1 : Nat, a + 1 = A1 := ⟨_, rfl⟩
        obtain ⟨Q, hQ⟩ : ∃ Q : Nat, k * 4 = Q := ⟨_, rfl⟩
        obtain ⟨F, hF⟩ : ∃ F : Nat, A1 + Q = F := ⟨_, rfl⟩
        have w1' : IntKind.i64.wrap ((a : Int) + 1) = A1 := by rw [IntWalk.i64_in _ (by omega)]; omega
        have w2' : IntKind.i64.wrap ((k : Int) * 4) = Q := by rw [IntWalk.i64_in _ (by omega)]; omega
        have w3' : IntKind.i64.wrap ((A1 : Int) + Q) = F := by rw [IntWalk.i64_in _ (by omega)]; omega
        have HFN : Hid (F + 4 ≤ S.length) := Lib.hid (by have := HAB.out; omega)
        have HPG : Hid (accP D F 4 = PTwin.pageAt D (a + 1) k) := Lib.hid (by rw [← hF, ← hA1, ← hQ]; exact accP_four D (a + 1) k)
        have HFK := Lib.hid (HFS.out k)
        rw [hP] at HFK
        have HLT := Lib.hid hlt
        have hF5 : F ≤ 1000 := by have := HFN.out; omega
        obtain ⟨W0, hW0⟩ : ∃ x, x = wr := ⟨_, rfl⟩
        subst hW0
        clear hP cl0 hkl hlt hA1 hQ hF hgl
        go_wp2
        go_loopw [13, 14] (fun sv tv wi => ∃ t : Nat, t ≤ 4 ∧ sv = .string ⟨(accP D F t).toArray⟩ ∧ tv = .int .i64 t ∧ wi = W0) (fun _ tv _ => 4 - (intOf tv).toNat)
        case atStart => exact ⟨0, by omega, rfl, rfl, rfl⟩
        case round =>
          obtain ⟨t, ht, rfl, rfl, hwi⟩ := hrel
          subst hwi
          by_cases ht4 : t < 4
          · have j1 : (t : Int) < 4 := by omega
            obtain ⟨K, hK⟩ : ∃ K : Nat, F + t = K := ⟨_, rfl⟩
            have w4' : IntKind.i64.wrap ((F : Int) + t) = K := by rw [IntWalk.i64_in _ (by omega)]; omega
            have hKn : K < S.length := by have := HFN.out; omega
            have K0 : (0 : Int) ≤ K := by omega
            have K1 : (K : Int) < S.length := by omega
            obtain ⟨g2, o2, he2, hg2, d0⟩ := sec_cell HIN.out hKn
            simp only [Option.some.injEq, Addr.mk.injEq, and_true] at he2
            obtain ⟨rfl, rfl⟩ := he2
            obtain ⟨x, hx⟩ : ∃ x : ByteArray, (⟨(PTwin.sec S K).toArray⟩ : ByteArray) = x := ⟨_, rfl⟩
            rw [hx] at d0
            have d0i : wr.cell? ⟨g, off + K, none⟩ = some (.string x) := ((HB1.out.step HB.out).cell (p := ⟨g, off + K, none⟩) hg2).trans d0
            have hxs : x.size = 128 := by rw [← hx, size_mk]; exact HSC.out K hKn
            obtain ⟨y, hy⟩ : ∃ y : ByteArray, (⟨(accP D F t).toArray⟩ : ByteArray) = y := ⟨_, rfl⟩
            have hys : y.size ≤ 512 := by rw [← hy, size_mk, HACC.out F HFN.out t ht]; omega
            have HAP : Hid (y ++ x = ⟨(accP D F (t + 1)).toArray⟩) := Lib.hid (by rw [← hx, ← hy, app_mk, accP_succ, HNW.out, hK])
            rw [hy]
            have HT4 := Lib.hid ht4
            clear hx hy d0 hg2 hK hKn ht4
            go_wp2
            exact ⟨⟨t + 1, by have := HT4.out; omega, by rw [HAP.out], by go_num, trivial⟩, by have := HT4.out; simp [intOf]; omega⟩
          · have j1 : ¬ (t : Int) < 4 := by omega
            have htt : accP D F t = PTwin.pageAt D (a + 1) k := by rw [← HPG.out, show t = 4 by omega]
            rw [htt]
            obtain ⟨B, hB⟩ : ∃ B : ByteArray, (⟨(PTwin.pageAt D (a + 1) k).toArray⟩ : ByteArray) = B := ⟨_, rfl⟩
            rw [hB] at HFK ⊢
            have hbs := HB.out.size
            have hb1 := HB1.out.size
            clear htt hB ht4 ht
            go_wp2_with (at_builtin; (with_reducible apply wpList_append_sl elem_home (HS.out.alloc _) [.int .u32 P, .string B]); (· rfl); (· rfl); (· rfl); (· rfl); (· rfl); (· exact news_at _ [_, _] _ _ rfl); (· intro u hu; simp at hu; rcases hu with rfl | rfl <;> rfl); (· unfold maxLen; omega); (· omega); (· rw [World.size_alloc]; omega); intro v' w6 g1 g2 _ g4)
            have HSN : Hid (Sl w6 w1.heap.size 34 2 v' (k + 1) (homesV (PTwin.found D a (k + 1)))) := Lib.hid (by rw [HFK.out]; exact g1)
            have HBN : Hid (Below w1.heap.size w1 w6) := Lib.hid ((HB.out.alloc hbs _).grown g2 (by rw [World.size_alloc]; omega) (fun j e => (HS.out.lt j e).1))
            clear g1 g2 g4 HS HB HFK
            go_wp2
            exact ⟨⟨k + 1, by have := HLT.out; omega, by go_num, HSN, HBN⟩, by have := HLT.out; simp [intOf]; omega⟩
      · obtain rfl : k = C := by omega
        have q1 : ¬ (k : Int) < k := by omega
        have HBW := Lib.hid (HB1.out.step HB.out)
        have HXI : Hid (HomeIn wr (.slice pu k cu) (PTwin.found D a k)) := Lib.hid (by
          have h := RdS.of_sl HS.out
          unfold HomeIn
          rw [HXL.out]
          exact h)
        have HMY : Hid (Calls Try.prog 31 #[.int .i64 S.length, .int .i64 a, .int .i64 base, .slice pu k cu] wr fun e w' => e = .returned (.bool (PTwin.may S.length a base (PTwin.found D a k))) ∧ Below wr.heap.size wr w') := Lib.hid (by
          have := rmay14_any wr S.length a base (by omega) HAB.out.1 HAB.out.2.1 (PTwin.found D a k) (.slice pu k cu) (by rw [HXL.out]; omega) (by rw [HXL.out]; omega) (fun x hx => (HXP.out x hx).1) HXI.out
          exact this)
        clear hlt hk HS HB1 HB
        cases hmy : PTwin.may S.length a base (PTwin.found D a k)
        · rw [hmy] at HMY
          have HR : Hid (PTwin.rrep S a base = ([], 0, 120)) := Lib.hid (by rw [HRR2.out, if_pos hmy])
          clear hmy
          go_wp2_with fail
          refine HMY.out.mono ?_
          rintro e w4 ⟨rfl, hbw⟩
          have HB4 := Lib.hid (HBW.out.step hbw)
          clear hbw
          go_wp2
          go_returns
          exact rr_nil HR.out HB4.out
        · rw [hmy] at HMY
          have HR : Hid (PTwin.rrep S a base = (PTwin.homes base (PTwin.found D a k) ++ PTwin.marks a PTwin.clear, k, 0)) := Lib.hid (by rw [HRR2.out, if_neg (by rw [hmy]; decide)])
          obtain ⟨z, hz⟩ : ∃ z : ByteArray, (⟨PTwin.clear.toArray⟩ : ByteArray) = z := ⟨_, rfl⟩
          have HMN : Hid (∀ W, Calls Try.prog 10 #[.slice none 0 0] W fun e w' => e = .returned (.string z) ∧ Below W.heap.size W w') := Lib.hid (fun W => by
            have := rmark_any W [] (.slice none 0 0) (by simp) (by simp) ⟨none, 0, rfl, by simp [u32V], by unfold maxLen; omega, fun h => absurd rfl h⟩
            rw [show PTwin.rmark [] = PTwin.clear from rfl, hz] at this
            exact this)
          have HCV : Hid (callsV (PTwin.homes base (PTwin.found D a k) ++ PTwin.marks a PTwin.clear) = callsV (PTwin.homes base (PTwin.found D a k)) ++ [.int .i64 a, .string z] ++ [.int .i64 (-1), .string ⟨#[]⟩]) := Lib.hid (by
            rw [callsV_append, ← hz, List.append_assoc]
            rfl)
          have HLC2 : Hid ((PTwin.homes base (PTwin.found D a k) ++ PTwin.marks a PTwin.clear).length = 4 * k + 1 + 1 + 1) := Lib.hid (by
            unfold PTwin.marks
            rw [List.length_append, PTwin.homes_length, HXL.out]
            rfl)
          clear hmy hz
          go_wp2_with fail
          refine HMY.out.mono ?_
          rintro e w4 ⟨rfl, hbw⟩
          have HB4 := Lib.hid (HBW.out.step hbw)
          have HHM := Lib.hid (rhomes14_any w4 base (PTwin.found D a k) _ (by rw [HXL.out]; omega) (by omega) HXP.out (RdS.step HXI.out hbw))
          rw [HXL.out] at HHM
          clear hbw HBW HXI HMY
          go_wp2_with fail
          refine HHM.out.mono ?_
          rintro e w5 ⟨u5, rfl, hsl, hbw⟩
          have HS5 := Lib.hid (hsl.base_le HB4.out.size)
          have HB5 := Lib.hid (HB4.out.step hbw)
          clear hsl hbw HHM HB4
          obtain ⟨p5, c5, rfl⟩ := Sl.form HS5.out
          go_wp2_with fail
          refine (HMN.out _).mono ?_
          rintro e w6 ⟨rfl, hbw⟩
          have HS6 := Lib.hid (HS5.out.keep (fun j e => hbw.block j (HS5.out.lt j e).2))
          have HB6 := Lib.hid (HB5.out.step hbw)
          have hb6 := HB6.out.size
          clear hbw HS5 HB5
          go_wp2_with (first | (at_builtin; (with_reducible apply wpList_append_sl elem_call (HS6.out.alloc _) [.int .i64 a, .string z]); (· rfl); (· rfl); (· rfl); (· rfl); (· rfl); (· exact news_at _ [_, _] _ _ rfl); (· intro u hu; simp at hu; rcases hu with rfl | rfl <;> rfl); (· unfold maxLen; omega); (· omega); (· rw [World.size_alloc]; omega); intro v7 w7 g1 g2 _ g4; (have HS7 := Lib.hid g1); (have HB7 := Lib.hid ((HB6.out.alloc hb6 _).grown g2 (by rw [World.size_alloc]; omega) (fun j e => (HS6.out.lt j e).1))); (have hb7 := HB7.out.size); clear g1 g2 g4 HS6 HB6; (obtain ⟨p7, c7, rfl⟩ := Sl.form HS7.out)) | (at_builtin; (with_reducible apply wpList_append_sl elem_call (HS7.out.alloc _) [.int .i64 (-1), .string ⟨#[]⟩]); (· rfl); (· rfl); (· rfl); (· rfl); (· rfl); (· exact news_at _ [_, _] _ _ rfl); (· intro u hu; simp at hu; rcases hu with rfl | rfl <;> rfl); (· unfold maxLen; omega); (· omega); (· rw [World.size_alloc]; omega); intro v8 w8 g1 g2 _ g4; (have HS8 := Lib.hid g1); (have HB8 := Lib.hid ((HB7.out.alloc hb7 _).grown g2 (by rw [World.size_alloc]; omega) (fun j e => (HS7.out.lt j e).1))); clear g1 g2 g4 HS7 HB7))
          (try go_wp2)
          go_returns
          unfold RRPost
          rw [HR.out]
          refine ⟨v8, rfl, ?_, HB8.out⟩
          show Sl w8 w.heap.size 79 2 v8 (PTwin.homes base (PTwin.found D a k) ++ PTwin.marks a PTwin.clear).length (callsV (PTwin.homes base (PTwin.found D a k) ++ PTwin.marks a PTwin.clear))
          rw [HLC2.out, HCV.out]
          exact HS8.out
end Go.Proofs.Ytdkhmhlphhammaa
