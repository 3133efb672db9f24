/-
  The document's log: Stream, Open.
-/
import Derived.Test.YtjnggldalggfnaaLpB
import Derived.Test.YtjnggldalggfnaaLog14
import Derived.Test.YtjnggldalggfnaaPLog2
import Derived.Deep.RegionLaw
namespace PLog
open PDsk
theorem stream_stop {D : Dsk} {pl n life k x el : Nat} (h : (stretch D pl n life x).1 = [] ∨ (stretch D pl n life x).2 < el) : stream D pl n life (k + 1) x el = [] := by
  show (if _ then _ else _) = _
  rw [if_pos h]
theorem stream_short {D : Dsk} {pl n life k x el : Nat} {p : List UInt8} {lf : Nat} (h : stretch D pl n life x = (p, lf)) (h1 : p ≠ []) (h2 : el ≤ lf) (h3 : p.length < 110) : stream D pl n life (k + 1) x el = p := by
  show (if _ then _ else _) = _
  rw [h, if_neg (by rintro (e | e); exact h1 e; exact absurd e (by show ¬ lf < el; omega)), if_pos h3]
theorem stream_on {D : Dsk} {pl n life k x el : Nat} {p : List UInt8} {lf : Nat} (h : stretch D pl n life x = (p, lf)) (h1 : p ≠ []) (h2 : el ≤ lf) (h3 : ¬ p.length < 110) : stream D pl n life (k + 1) x el = p ++ stream D pl n life k (x + 110) lf := by
  show (if _ then _ else _) = _
  rw [h, if_neg (by rintro (e | e); exact h1 e; exact absurd e (by show ¬ lf < el; omega)), if_neg h3]
end PLog
namespace Go.Proofs.Ytjnggldalggfnaa
open Go.RowKit
theorem mk_app (l : List UInt8) (s : ByteArray) : (⟨l.toArray⟩ : ByteArray) ++ s = ⟨(l ++ s.data.toList).toArray⟩ := by
  have := app_mk ⟨l.toArray⟩ s.data.toList
  simpa using this
theorem ret_sib {s t : ByteArray} {a : Int} {b c : Bool} (h : s = t) (hb : b = c) : Ending.returned (.tuple #[.string s, .int .i64 a, .bool b]) = Ending.returned (.tuple #[.string t, .int .i64 a, .bool c]) := by rw [h, hb]
/-- what the document's Stream reads of one sector -/
def StrR (w : World) (p : Option Addr) (D : PDsk.Dsk) (pl n life x : Nat) (y : ByteArray) (g0 sz lf : Nat) : Prop :=
  ∃ gr off Q j, p = some ⟨gr, off, none⟩ ∧ w.cell? ⟨gr, off + j, none⟩ = some (.string y) ∧ j < n ∧ (x : Int).tdiv 110 = (Q : Nat) ∧ Q < 18446744073709551616 ∧ (Q : Int).tmod n = (j : Nat) ∧ y.size = 128 ∧ sz < 65536 ∧ g0 < 18446744073709551616 ∧ lf < 18446744073709551616 ∧
    (∀ W, Calls Try.prog 81 #[.string y, .int .i64 0, .int .i64 8] W fun e w' => e = .returned (.int .u64 (g0 : Nat)) ∧ W = w') ∧
    (∀ W, Calls Try.prog 81 #[.string y, .int .i64 8, .int .i64 8] W fun e w' => e = .returned (.int .u64 (lf : Nat)) ∧ W = w') ∧
    (∀ W, Calls Try.prog 81 #[.string y, .int .i64 16, .int .i64 2] W fun e w' => e = .returned (.int .u64 (sz : Nat)) ∧ W = w') ∧
    PLog.stretch D pl n life x = if g0 ≠ x ∨ 110 < sz ∨ life < lf then ([], 0) else ((y.extract 18 (18 + sz)).data.toList, lf)
theorem strR_any {w : World} {p : Option Addr} {c : Nat} {D : PDsk.Dsk} {pl n life : Nat} {ring : List (List UInt8)} (hn : 4 ≤ n) (hl : ring.length = n) (hv : Rd w (.slice p n c) (strV ring)) (hring : ∀ i, i < n → ring[i]? = some (PDsk.now D (pl + i))) (h128 : ∀ i, i < n → (PDsk.now D (pl + i)).length = 128)
    (x : Nat) (hx : x < 18446744073709551616) (hb : PLog.begin x = x) : ∃ y g0 sz lf, StrR w p D pl n life x y g0 sz lf := by
  obtain ⟨p2, c2, e1, _, _, h4⟩ := hv
  rw [Value.slice.injEq] at e1
  obtain ⟨rfl, _, _⟩ := e1
  have hlen : (strV ring).length = n := by rw [strV_length, hl]
  obtain ⟨gr, off, rfl, _, e3⟩ := h4 (fun e => by rw [e] at hlen; simp at hlen; omega)
  have hj : x / 110 % n < n := Nat.mod_lt _ (by omega)
  have hc := e3 (x / 110 % n) (by rw [hlen]; exact hj)
  have hr := hring _ hj
  have h1 := h128 _ hj
  have hrj : ring[x / 110 % n]'(by rw [hl]; exact hj) = PDsk.now D (PLog.sec pl n x) := by
    rw [List.getElem?_eq_getElem (by rw [hl]; exact hj)] at hr
    exact Option.some.inj hr
  have hc2 : (strV ring)[x / 110 % n]'(by rw [hlen]; exact hj) = .string ⟨(PDsk.now D (PLog.sec pl n x)).toArray⟩ := by
    have : (strV ring)[x / 110 % n]'(by rw [hlen]; exact hj) = .string ⟨(ring[x / 110 % n]'(by rw [hl]; exact hj)).toArray⟩ := by simp [strV]
    rw [this, hrj]
  rw [hc2] at hc
  have hN : (PDsk.now D (PLog.sec pl n x)).length = 128 := h1
  obtain ⟨s, hs⟩ : ∃ s, PDsk.now D (PLog.sec pl n x) = s := ⟨_, rfl⟩
  rw [hs] at hc hN
  have hsz : (⟨s.toArray⟩ : ByteArray).size = 128 := by rw [size_mk, hN]
  have hq2 := PLog.get_lt s 16 2 (by omega)
  have hq1 := PLog.get_lt s 8 8 (by omega)
  have hq0 := PLog.get_lt s 0 8 (by omega)
  refine ⟨⟨s.toArray⟩, (PWord.get s 0 8).1, (PWord.get s 16 2).1, (PWord.get s 8 8).1, gr, off, x / 110, x / 110 % n, rfl, hc, hj, by rw [Int.tdiv_eq_ediv_of_nonneg (by omega)]; rfl, by omega, by rw [Int.tmod_eq_emod_of_nonneg (by omega)]; rfl, hsz, by omega, by omega, by omega, fun W => ?_, fun W => ?_, fun W => ?_, ?_⟩
  · exact lget_any ⟨s.toArray⟩ (by rw [hsz]; unfold maxLen; omega) 0 8 W
  · exact lget_any ⟨s.toArray⟩ (by rw [hsz]; unfold maxLen; omega) 8 8 W
  · exact lget_any ⟨s.toArray⟩ (by rw [hsz]; unfold maxLen; omega) 16 2 W
  · unfold PLog.stretch
    rw [hs, hb, extract_mid]
    simp only [show 18 + (PWord.get s 16 2).1 - 18 = (PWord.get s 16 2).1 by omega]
set_option maxRecDepth 100000 in
set_option maxHeartbeats 4000000 in
theorem rstream_any (w : World) {v : Value} {D : PDsk.Dsk} {pl n life : Nat} {ring : List (List UInt8)} (hn : 4 ≤ n) (hn5 : n ≤ 4096) (hl : ring.length = n) (hv : Rd w v (strV ring)) (hring : ∀ i, i < n → ring[i]? = some (PDsk.now D (pl + i))) (h128 : ∀ i, i < n → (PDsk.now D (pl + i)).length = 128)
    (_ : life < 18446744073709551616) (first : Nat) (hf : first ≤ 4611686018427387904) :
    Calls Try.prog 72 #[v, .int .u64 life, .int .u64 first] w fun e w' => e = .returned (.tuple #[.string ⟨(PLog.stream D pl n life n (PLog.begin first) 0).toArray⟩, .int .i64 (first - PLog.begin first : Nat), .bool (decide (first - PLog.begin first ≤ (PLog.stream D pl n life n (PLog.begin first) 0).length))]) ∧ w = w' := by
  have hvl : (strV ring).length = n := by rw [strV_length, hl]
  obtain ⟨p, c, rfl, hnc, hcm, h4⟩ := hv
  rw [hvl] at hnc
  have HV : Hid (Rd w (.slice p n c) (strV ring)) := Lib.hid (by rw [← hvl] at hnc ⊢; exact ⟨p, c, rfl, hnc, hcm, h4⟩)
  rw [hvl]
  have hbf := PLog.begin_le first
  have hbb := PLog.begin_begin first
  have HBG : Hid (∀ W, Calls Try.prog 71 #[.int .u64 first] W fun e w' => e = .returned (.int .u64 (PLog.begin first : Nat)) ∧ W = w') := Lib.hid (fun W => rbegin_any first (by omega) W)
  obtain ⟨B, hB⟩ : ∃ B, PLog.begin first = B := ⟨_, rfl⟩
  rw [hB] at hbf HBG hbb ⊢
  obtain ⟨A, hA⟩ : ∃ A, first - B = A := ⟨_, rfl⟩
  rw [hA]
  obtain ⟨S, hS⟩ : ∃ S, PLog.stream D pl n life n B 0 = S := ⟨_, rfl⟩
  have HS0 := Lib.hid hS
  rw [hS]
  have hSl := PLog.stream_le D pl n life n B 0
  rw [hS] at hSl
  have HR : Hid (∀ k, k < n → ∃ y g0 sz lf, StrR w p D pl n life (B + 110 * k) y g0 sz lf) := Lib.hid (fun k hk => strR_any hn hl HV.out hring h128 (B + 110 * k) (by omega) (by unfold PLog.begin; omega))
  have w1 : IntKind.u64.wrap ((first : Int) - B) = A := by rw [IntWalk.u64_in _ (by omega)]; omega
  have w2 : IntKind.i64.wrap (A : Int) = A := IntWalk.i64_in _ (by omega)
  have w3 : IntKind.u64.wrap (n : Int) = n := IntWalk.u64_in _ (by omega)
  have zn : ¬ (n : Int) = 0 := by omega
  have hB9 : B ≤ 4611686018427387904 := by omega
  clear hl hring h128 hvl hnc hcm h4 hbf hbb hB hA hS hf HV
  go_enter Try.func72, Try.ntmps72
  go_wp2_with fail
  refine (HBG.out _).mono ?_; rintro e w1 ⟨rfl, rfl⟩
  go_wp2_with fail
  go_loop [10, 11, 13, 14, 15, 16, 17] (fun sv ev kv _ _ _ _ => ∃ (k : Nat) (acc : List UInt8) (el : Nat), k ≤ n ∧ kv = .int .u64 k ∧ sv = .string ⟨acc.toArray⟩ ∧ ev = .int .u64 el ∧ Hid (acc ++ PLog.stream D pl n life (n - k) (B + 110 * k) el = S)) (fun _ _ kv _ _ _ _ => n - (intOf kv).toNat)
  case atStart => exact ⟨0, [], 0, Nat.zero_le _, rfl, rfl, rfl, Lib.hid (by simpa using HS0.out)⟩
  case round =>
    obtain ⟨k, acc, el, hk, rfl, rfl, rfl, HS⟩ := hrel
    by_cases hlt : k < n
    · have hk1 : (k : Int) < n := by omega
      obtain ⟨y, g0, sz, lf, gr, off, Q, j, rfl, r1, r2, r3, r3b, r4, r5, r6, r6b, r6c, r7, r8, r9, r10⟩ := HR.out k hlt
      obtain ⟨X, hX⟩ : ∃ X, B + 110 * k = X := ⟨_, rfl⟩
      rw [hX] at r3 r10 HS
      obtain ⟨T, hT⟩ : ∃ T, 110 * k = T := ⟨_, rfl⟩
      have v1 : IntKind.u64.wrap ((k : Int) * 110) = T := by rw [IntWalk.u64_in _ (by omega)]; omega
      have v2 : IntKind.u64.wrap ((B : Int) + T) = X := by rw [IntWalk.u64_in _ (by omega)]; omega
      have v3 : IntKind.u64.wrap (Q : Int) = Q := IntWalk.u64_in _ (by omega)
      have v4 : IntKind.i64.wrap (sz : Int) = sz := IntWalk.i64_in _ (by omega)
      have H0 := Lib.hid r7
      have H8 := Lib.hid r8
      have H16 := Lib.hid r9
      have HST := Lib.hid r10
      have hnk : n - k = (n - (k + 1)) + 1 := by omega
      rw [hnk] at HS
      have HSTOP : Hid ((PLog.stretch D pl n life X).1 = [] ∨ (PLog.stretch D pl n life X).2 < el → acc = S) := Lib.hid (fun h => by
        have := HS.out
        rw [PLog.stream_stop h, List.append_nil] at this
        exact this)
      have HEX : Hid (sz ≤ 110 → (y.extract 18 (18 + sz)).data.toList.length = sz) := Lib.hid (fun h => by
        rw [extract_mid]
        simp only [List.length_take, List.length_drop, Array.length_toList]
        have : y.data.size = 128 := r5
        omega)
      have hcases : (((g0 : Int) != X) = true ∧ Hid (acc = S)) ∨ (((g0 : Int) != X) = false ∧ (sz : Int) < 1 ∧ Hid (acc = S)) ∨ (((g0 : Int) != X) = false ∧ ¬ (sz : Int) < 1 ∧ (110 : Int) < sz ∧ Hid (acc = S)) ∨ (((g0 : Int) != X) = false ∧ ¬ (sz : Int) < 1 ∧ ¬ (110 : Int) < sz ∧ (life : Int) < lf ∧ Hid (acc = S)) ∨
          (((g0 : Int) != X) = false ∧ ¬ (sz : Int) < 1 ∧ ¬ (110 : Int) < sz ∧ ¬ (life : Int) < lf ∧ (lf : Int) < el ∧ Hid (acc = S)) ∨ (((g0 : Int) != X) = false ∧ ¬ (sz : Int) < 1 ∧ ¬ (110 : Int) < sz ∧ ¬ (life : Int) < lf ∧ ¬ (lf : Int) < el ∧ (sz : Int) < 110 ∧ Hid (acc ++ (y.extract 18 (18 + sz)).data.toList = S)) ∨
          (((g0 : Int) != X) = false ∧ ¬ (sz : Int) < 1 ∧ ¬ (110 : Int) < sz ∧ ¬ (life : Int) < lf ∧ ¬ (lf : Int) < el ∧ ¬ (sz : Int) < 110 ∧ Hid (acc ++ (y.extract 18 (18 + sz)).data.toList ++ PLog.stream D pl n life (n - (k + 1)) (X + 110) lf = S)) := by
        by_cases e0 : g0 = X
        · have e0' : ((g0 : Int) != X) = false := by simp [e0]
          by_cases e1 : sz < 1
          · refine .inr (.inl ⟨e0', by omega, Lib.hid (HSTOP.out (.inl ?_))⟩)
            rw [HST.out]
            split
            · rfl
            · have := HEX.out (by omega)
              exact List.eq_nil_of_length_eq_zero (by show (y.extract 18 (18 + sz)).data.toList.length = 0; omega)
          by_cases e2 : 110 < sz
          · exact .inr (.inr (.inl ⟨e0', by omega, by omega, Lib.hid (HSTOP.out (.inl (by rw [HST.out, if_pos (.inr (.inl e2))])))⟩))
          by_cases e3 : life < lf
          · exact .inr (.inr (.inr (.inl ⟨e0', by omega, by omega, by omega, Lib.hid (HSTOP.out (.inl (by rw [HST.out, if_pos (.inr (.inr e3))])))⟩)))
          have hst : PLog.stretch D pl n life X = ((y.extract 18 (18 + sz)).data.toList, lf) := by rw [HST.out, if_neg (by omega)]
          by_cases e4 : lf < el
          · exact .inr (.inr (.inr (.inr (.inl ⟨e0', by omega, by omega, by omega, by omega, Lib.hid (HSTOP.out (.inr (by rw [hst]; exact e4)))⟩))))
          have hne : (y.extract 18 (18 + sz)).data.toList ≠ [] := fun e => by have := HEX.out (by omega); rw [e] at this; simp at this; omega
          by_cases e5 : sz < 110
          · refine .inr (.inr (.inr (.inr (.inr (.inl ⟨e0', by omega, by omega, by omega, by omega, by omega, Lib.hid ?_⟩)))))
            have := HS.out
            rwa [PLog.stream_short hst hne (by omega) (by rw [HEX.out (by omega)]; exact e5)] at this
          · refine .inr (.inr (.inr (.inr (.inr (.inr ⟨e0', by omega, by omega, by omega, by omega, by omega, Lib.hid ?_⟩)))))
            have := HS.out
            rwa [PLog.stream_on hst hne (by omega) (by rw [HEX.out (by omega)]; exact e5), ← List.append_assoc] at this
        · exact .inl ⟨by rw [bne_iff_ne]; omega, Lib.hid (HSTOP.out (.inl (by rw [HST.out, if_pos (.inl e0)])))⟩
      have hal : acc.length ≤ 450560 := by
        have := congrArg List.length HS.out
        rw [List.length_append] at this
        omega
      have HX := Lib.hid hX
      clear r7 r8 r9 r10 hnk HS HSTOP HST hX hT
      obtain ⟨C, hC⟩ : ∃ C, 18 + sz = C := ⟨_, rfl⟩
      rw [hC] at hcases HEX
      have HCC := Lib.hid hC
      have hacc : (⟨acc.toArray⟩ : ByteArray).size = acc.length := size_mk acc
      have HSL := Lib.hid hSl
      have HY5 := Lib.hid r5
      clear hC hSl hacc r5
      rcases hcases with hcases | hcases | hcases | hcases | hcases | hcases | hcases
      · obtain ⟨e0, HE⟩ := hcases
        go_wp2_with fail
        refine (HBG.out _).mono ?_; rintro e w2 ⟨rfl, rfl⟩
        go_wp2_with fail
        refine (H16.out _).mono ?_; rintro e w2 ⟨rfl, rfl⟩
        go_wp2_with fail
        refine (H8.out _).mono ?_; rintro e w2 ⟨rfl, rfl⟩
        go_wp2_with fail
        refine (H0.out _).mono ?_; rintro e w2 ⟨rfl, rfl⟩
        go_wp2
        go_ret3
        exact ⟨by rw [← HE.out]; rfl, rfl⟩
      · obtain ⟨e0, e1, HE⟩ := hcases
        go_wp2_with fail
        refine (HBG.out _).mono ?_; rintro e w2 ⟨rfl, rfl⟩
        go_wp2_with fail
        refine (H16.out _).mono ?_; rintro e w2 ⟨rfl, rfl⟩
        go_wp2_with fail
        refine (H8.out _).mono ?_; rintro e w2 ⟨rfl, rfl⟩
        go_wp2_with fail
        refine (H0.out _).mono ?_; rintro e w2 ⟨rfl, rfl⟩
        go_wp2
        go_ret3
        exact ⟨by rw [← HE.out]; rfl, rfl⟩
      · obtain ⟨e0, e1, e2, HE⟩ := hcases
        go_wp2_with fail
        refine (HBG.out _).mono ?_; rintro e w2 ⟨rfl, rfl⟩
        go_wp2_with fail
        refine (H16.out _).mono ?_; rintro e w2 ⟨rfl, rfl⟩
        go_wp2_with fail
        refine (H8.out _).mono ?_; rintro e w2 ⟨rfl, rfl⟩
        go_wp2_with fail
        refine (H0.out _).mono ?_; rintro e w2 ⟨rfl, rfl⟩
        go_wp2
        go_ret3
        exact ⟨by rw [← HE.out]; rfl, rfl⟩
      · obtain ⟨e0, e1, e2, e3, HE⟩ := hcases
        go_wp2_with fail
        refine (HBG.out _).mono ?_; rintro e w2 ⟨rfl, rfl⟩
        go_wp2_with fail
        refine (H16.out _).mono ?_; rintro e w2 ⟨rfl, rfl⟩
        go_wp2_with fail
        refine (H8.out _).mono ?_; rintro e w2 ⟨rfl, rfl⟩
        go_wp2_with fail
        refine (H0.out _).mono ?_; rintro e w2 ⟨rfl, rfl⟩
        go_wp2
        go_ret3
        exact ⟨by rw [← HE.out]; rfl, rfl⟩
      · obtain ⟨e0, e1, e2, e3, e4, HE⟩ := hcases
        go_wp2_with fail
        refine (HBG.out _).mono ?_; rintro e w2 ⟨rfl, rfl⟩
        go_wp2_with fail
        refine (H16.out _).mono ?_; rintro e w2 ⟨rfl, rfl⟩
        go_wp2_with fail
        refine (H8.out _).mono ?_; rintro e w2 ⟨rfl, rfl⟩
        go_wp2_with fail
        refine (H0.out _).mono ?_; rintro e w2 ⟨rfl, rfl⟩
        go_wp2
        go_ret3
        exact ⟨by rw [← HE.out]; rfl, rfl⟩
      · obtain ⟨e0, e1, e2, e3, e4, e5, HE⟩ := hcases
        have v5 : IntKind.i64.wrap (18 + (sz : Int)) = C := by rw [IntWalk.i64_in _ (by have := HCC.out; omega)]; have := HCC.out; omega
        have q1 : (18 : Int) ≤ C := by have := HCC.out; omega
        have q2 : (C : Int) ≤ y.size := by have := HCC.out; have := HY5.out; omega
        have q3 : ¬ (9223372036854775807 < acc.length + (min C y.size - 18)) := by have := HY5.out; omega
        go_wp2_with fail
        refine (HBG.out _).mono ?_; rintro e w2 ⟨rfl, rfl⟩
        go_wp2_with fail
        refine (H16.out _).mono ?_; rintro e w2 ⟨rfl, rfl⟩
        go_wp2_with fail
        refine (H8.out _).mono ?_; rintro e w2 ⟨rfl, rfl⟩
        go_wp2_with fail
        refine (H0.out _).mono ?_; rintro e w2 ⟨rfl, rfl⟩
        go_wp2
        go_ret3
        refine ⟨ret_sib (by rw [mk_app, HE.out]) ?_, rfl⟩
        have h1 := HE.out
        have h2 : (y.extract 18 C).data.toList.length = min C y.size - 18 := by
          have : (y.extract 18 C).data.toList.length = (y.extract 18 C).size := rfl
          rw [this, ByteArray.size_extract]
        have h3 := congrArg List.length h1
        rw [List.length_append, h2] at h3
        rw [← h3]
        apply decide_eq_decide.2
        omega
      · obtain ⟨e0, e1, e2, e3, e4, e5, HE⟩ := hcases
        have v5 : IntKind.i64.wrap (18 + (sz : Int)) = C := by rw [IntWalk.i64_in _ (by have := HCC.out; omega)]; have := HCC.out; omega
        have q1 : (18 : Int) ≤ C := by have := HCC.out; omega
        have q2 : (C : Int) ≤ y.size := by have := HCC.out; have := HY5.out; omega
        have q3 : ¬ (9223372036854775807 < acc.length + (min C y.size - 18)) := by have := HY5.out; omega
        go_wp2_with fail
        refine (HBG.out _).mono ?_; rintro e w2 ⟨rfl, rfl⟩
        go_wp2_with fail
        refine (H16.out _).mono ?_; rintro e w2 ⟨rfl, rfl⟩
        go_wp2_with fail
        refine (H8.out _).mono ?_; rintro e w2 ⟨rfl, rfl⟩
        go_wp2_with fail
        refine (H0.out _).mono ?_; rintro e w2 ⟨rfl, rfl⟩
        go_wp2
        refine ⟨⟨k + 1, acc ++ (y.extract 18 C).data.toList, lf, by omega, by go_num, by rw [mk_app], rfl, Lib.hid ?_⟩, by simp [intOf]; omega⟩
        have := HE.out
        rw [← HX.out] at this
        rwa [show B + 110 * (k + 1) = B + 110 * k + 110 by omega]
    · have hkn : k = n := by omega
      have HE : Hid (acc = S) := Lib.hid (by
        have := HS.out
        rw [hkn, Nat.sub_self] at this
        simpa [PLog.stream] using this)
      have hk1 : ¬ (k : Int) < n := by omega
      clear hlt hkn HS
      go_wp2
      go_ret3
      exact ⟨by rw [← HE.out]; rfl, rfl⟩
end Go.Proofs.Ytjnggldalggfnaa
namespace PLog
open PDsk
def staleB (D : Dsk) (pl n life first : Nat) : Bool := decide ((opened D pl n life first).bytes.length < (stream D pl n life n (begin first) 0).length)
/-- the sector that Open writes -/
def fixOf (D : Dsk) (pl n life first : Nat) : List UInt8 :=
  if staleB D pl n life first = true then image (begin (opened D pl n life first).next) life (part (opened D pl n life first) (begin (opened D pl n life first).next)) else []
def fixAt (D : Dsk) (pl n life first : Nat) : Nat := if staleB D pl n life first = true then (opened D pl n life first).next / 110 % n else 0
end PLog
namespace Go.Proofs.Ytjnggldalggfnaa
open Go.RowKit
/-- Open under way -/
structure OpF (w0 wr : World) (R : PLog.Rf) (vt : Value) (F : List (List UInt8)) (va vl : Value) : Prop where
  rf : IsRf wr w0.heap.size R va vl
  low : Below w0.heap.size w0 wr
  own : ∀ k ∈ rfOwn w0.heap.size va vl, w0.heap.size ≤ k
  tx : Sl wr 0 9 1 vt F.length (strV F)
  nv : ∀ k, vt.ownBlock = some k → k ∉ rfOwn w0.heap.size va vl
theorem OpF.step {w0 wr w' : World} {R R' : PLog.Rf} {vt va vl va' vl' : Value} {F : List (List UInt8)} (h : OpF w0 wr R vt F va vl) (h2 : IsRf w' w0.heap.size R' va' vl') (s : Stepped wr w' (rfOwn w0.heap.size va vl) (rfOwn w0.heap.size va' vl')) : OpF w0 w' R' vt F va' vl' := by
  obtain ⟨k1, k2⟩ := Stepped.below h.low (Nat.le_refl _) h.own s
  refine ⟨h2, k1, k2, h.tx.keep fun k e => s.1.block k (h.tx.lt k e).2 (h.nv k e), fun k e hm => ?_⟩
  rcases s.2 k hm with h3 | h3
  · exact h.nv k e h3
  · have := (h.tx.lt k e).2; omega
theorem OpF.below {w0 wr w' : World} {R : PLog.Rf} {vt va vl : Value} {F : List (List UInt8)} (h : OpF w0 wr R vt F va vl) (hb : Below wr.heap.size wr w') : OpF w0 w' R vt F va vl := h.step (h.rf.below hb) (Stepped.of_below hb _)
theorem OpF.text {w0 wr : World} {R : PLog.Rf} {p : Option Addr} {n c : Nat} {va vl : Value} {F : List (List UInt8)} (h : OpF w0 wr R (.slice p n c) F va vl) {i : Nat} (hi : i < F.length) : ∃ gt ot, p = some ⟨gt, ot, none⟩ ∧ wr.cell? ⟨gt, ot + i, none⟩ = some (.string ⟨(F[i]).toArray⟩) := by
  obtain ⟨p', c', e1, _, _, h4⟩ := Rd.of_sl h.tx
  have hi' : i < (strV F).length := by rw [strV_length]; exact hi
  obtain ⟨gt, ot, rfl, _, e3⟩ := h4 (fun e => by rw [e] at hi'; simp at hi')
  rw [Value.slice.injEq] at e1
  refine ⟨gt, ot, e1.1, ?_⟩
  rw [e3 i hi']
  simp [strV]
def rf0 (n : Nat) (hd : List UInt8) (first : Nat) (F : List (List UInt8)) (i : Nat) : PLog.Rf := ⟨n, hd, first, PLog.endOf first (F.take i), 0, 0, [], 0, PLog.startsOf first (F.take i), F.take i⟩
theorem IsRf.made (w : World) (R : PLog.Rf) (h1 : R.ats = []) (h2 : R.txs = []) : IsRf (w.alloc (.cells (rfV R (.slice none 0 0) (.slice none 0 0)) 88)) w.heap.size R (.slice none 0 0) (.slice none 0 0) :=
  ⟨heap_alloc_new _ _, by rw [h1]; exact Sl.nil _ 0 _ 1, by rw [h2]; exact Sl.nil _ 0 _ 1, by simp [ownsOf, Value.ownBlock], by simp [ownsOf, Value.ownBlock], by simp [ownsOf, Value.ownBlock]⟩
def rf1 (n : Nat) (hd : List UInt8) (first : Nat) (F : List (List UInt8)) (i E0 : Nat) : PLog.Rf := { rf0 n hd first F i with ats := (rf0 n hd first F i).ats ++ [E0] }
def rf2 (n : Nat) (hd : List UInt8) (first : Nat) (F : List (List UInt8)) (i E0 : Nat) (t : List UInt8) : PLog.Rf := { rf1 n hd first F i E0 with txs := (rf1 n hd first F i E0).txs ++ [t] }
def ROpenPost (D : PDsk.Dsk) (pl n life first : Nat) (w : World) (e : Ending) (w' : World) : Prop :=
  ∃ g own, e = .returned (.pointer (some ⟨g, 0, none⟩)) ∧ IsRef w' g (PLog.opened D pl n life first) (PLog.fixOf D pl n life first) (PLog.fixAt D pl n life first) own ∧ Below w.heap.size w w' ∧ ∀ k ∈ own, w.heap.size ≤ k
set_option maxRecDepth 100000 in
set_option maxHeartbeats 8000000 in
theorem ropen_any (w : World) {v : Value} {D : PDsk.Dsk} {pl n life first : Nat} {ring : List (List UInt8)} (ho : PLog.Opens D pl n life first) (hl : ring.length = n) (hv : Rd w v (strV ring)) (hring : ∀ i, i < n → ring[i]? = some (PDsk.now D (pl + i))) (h128 : ∀ i, i < n → (PDsk.now D (pl + i)).length = 128) :
    Calls Try.prog 52 #[v, .int .u64 life, .int .u64 first] w (ROpenPost D pl n life first w) := by
  have hn4 := ho.n4
  have hn5 := ho.n5
  have hlf5 := ho.life5
  have hf1 := ho.first1
  have hf5 := ho.first5
  have hah := ho.ahead
  have hbf := PLog.begin_le first
  obtain ⟨of1, of2, of3⟩ := PLog.opened_facts ho
  have HST := Lib.hid (rstream_any (life := life) w hn4 hn5 hl hv hring h128 (by omega) first hf5)
  have hvl : (strV ring).length = n := by rw [strV_length, hl]
  obtain ⟨p, c, rfl, _, _, _⟩ := hv
  rw [hvl] at HST ⊢
  obtain ⟨B, hB⟩ : ∃ B, PLog.begin first = B := ⟨_, rfl⟩
  have hSl := PLog.stream_le D pl n life n (PLog.begin first) 0
  obtain ⟨S, hS⟩ : ∃ S, PLog.stream D pl n life n (PLog.begin first) 0 = S := ⟨_, rfl⟩
  have hopn : PLog.opened D pl n life first = ⟨n, pl, life, S.take (first - B), PLog.found (S.drop (first - B)) first, first, PLog.endOf first (PLog.found (S.drop (first - B)) first), 0⟩ := by unfold PLog.opened; rw [hS, hB]
  have hstl : PLog.staleB D pl n life first = decide ((PLog.opened D pl n life first).bytes.length < S.length) := by unfold PLog.staleB; rw [hS]
  rw [hS] at hah hSl of2 of3
  rw [hS] at HST
  rw [hB] at hah hbf HST of2 of3
  obtain ⟨A, hA⟩ : ∃ A, first - B = A := ⟨_, rfl⟩
  rw [hA] at hah HST of2 of3 hopn
  rw [show (decide (A ≤ S.length)) = true by simpa using hah] at HST
  obtain ⟨s, hs⟩ : ∃ s : ByteArray, (⟨S.toArray⟩ : ByteArray) = s := ⟨_, rfl⟩
  have hsz : s.size = S.length := by rw [← hs, size_mk]
  have hsd : s.data.toList = S := by rw [← hs]
  rw [hs] at HST
  obtain ⟨F, hF⟩ : ∃ F, PLog.found (S.drop A) first = F := ⟨_, rfl⟩
  rw [hF] at hopn
  have hed : (s.extract A s.size).data.toList = S.drop A := by rw [extract_end, hsd]
  have hez : (s.extract A s.size).size = (S.drop A).length := by
    have : (s.extract A s.size).size = (s.extract A s.size).data.toList.length := rfl
    rw [this, hed]
  have hfx : first + (S.drop A).length < 18446744073709551616 := by rw [List.length_drop]; omega
  have HSC : Hid (∀ W, Calls Try.prog 73 #[.string (s.extract A s.size), .int .u64 first] W fun e w' => ∃ v U err, e = .returned (.tuple #[v, .int .i64 U, .int .i64 err]) ∧ Sl w' W.heap.size 9 1 v F.length (strV F) ∧ Below W.heap.size W w') := Lib.hid (fun W => by
    refine (rscan_any (s.extract A s.size) first (by omega) (by rw [hez, List.length_drop]; omega) W).mono ?_
    rintro e w' ⟨v, he, h1, h2⟩
    have e1 : PFrm.texts (PFrm.items ((s.extract A s.size).size + 1) (s.extract A s.size).data.toList first) = F := by
      rw [hed, hez]; exact hF
    rw [e1] at he h1
    exact ⟨v, _, _, he, h1, h2⟩)
  have hnx : (PLog.opened D pl n life first).next = PLog.endOf first F := by rw [hopn]; rfl
  have hfe := PLog.found_end (S.drop A) first hfx
  rw [hF, List.length_drop] at hfe
  have hFl := PLog.endOf_le F first
  have hFok := of1.texts
  rw [hopn] at hFok
  have q0 : A ≤ s.size := by omega
  have q0' : (A : Int) ≤ s.size := by omega
  have HR0 : Hid (∀ W : World, IsRf (W.alloc (.cells (rfV (rf0 n (s.extract 0 A).data.toList first F 0) (.slice none 0 0) (.slice none 0 0)) 88)) W.heap.size (rf0 n (s.extract 0 A).data.toList first F 0) (.slice none 0 0) (.slice none 0 0)) := Lib.hid (fun W => IsRf.made W _ rfl rfl)
  have hMb : F.length ≤ 1000000 := by omega
  obtain ⟨M, hM⟩ : ∃ M, F.length = M := ⟨_, rfl⟩
  have HFT : Hid (∀ i, i < M → ∃ t, F[i]? = some t ∧ t.length ≤ 4096 ∧ PLog.endOf first (F.take (i + 1)) = PLog.endOf first (F.take i) + (14 + t.length) ∧ PLog.endOf first (F.take i) ≤ 5000000000000000000 ∧
      rf0 n (s.extract 0 A).data.toList first F (i + 1) = { rf0 n (s.extract 0 A).data.toList first F i with next := PLog.endOf first (F.take (i + 1)), ats := PLog.startsOf first (F.take i) ++ [PLog.endOf first (F.take i)], txs := F.take i ++ [t] }) := Lib.hid (fun i h => by
    have h0 : i < F.length := by omega
    have h1 := PLog.endOf_take_succ F first i h0
    have h2 := PLog.endOf_take_le F first i F.length (by omega)
    rw [List.take_length] at h2
    refine ⟨F[i], List.getElem?_eq_getElem h0, (hFok _ (List.getElem_mem _)).2, h1, by omega, ?_⟩
    unfold rf0
    rw [List.take_succ_eq_append_getElem h0, PLog.startsOf_append]
    rfl)
  have HMF := Lib.hid hM
  have HSZ := Lib.hid hsz
  have HSD := Lib.hid hsd
  have HNX := Lib.hid hnx
  have HOPN := Lib.hid hopn
  have HSTL := Lib.hid hstl
  have HOK := Lib.hid of1
  have HOB := Lib.hid (And.intro of2 of3)
  have HAB := Lib.hid (And.intro hA hbf)
  have HSL := Lib.hid (And.intro hSl hfe)
  have HBB := Lib.hid hB
  clear hring h128 hl hvl hsz hsd hnx hopn hstl of1 of2 of3 hA hbf hSl hfe hB hs hed hez hfx hFl hFok hah hM hF hS
  go_enter Try.func52, Try.ntmps52
  go_wp2_with fail
  refine HST.out.mono ?_; rintro e w1 ⟨rfl, rfl⟩
  go_wp2_with fail
  refine (HSC.out _).mono ?_; rintro e w2 ⟨v, U, err, rfl, k1, hb⟩
  obtain ⟨pt, ct, rfl⟩ := Sl.form k1
  have HP0 : Hid (OpF w w2 (rf0 n (s.extract 0 A).data.toList first F 0) (.slice pt F.length ct) F (.slice none 0 0) (.slice none 0 0)) := Lib.hid ⟨(HR0.out w).below hb, ((Below.refl _ _).alloc (Nat.le_refl _) _).trans (hb.mono (by rw [World.size_alloc]; omega)), by simp [rfOwn, ownsOf, Value.ownBlock], k1.base_le (Nat.zero_le _), fun k e => by
    have := (k1.lt k e).1
    rw [World.size_alloc] at this
    simp [rfOwn, ownsOf, Value.ownBlock]
    omega⟩
  rw [HMF.out] at HP0 ⊢
  clear k1 hb
  go_wp2_with fail
  go_loopw [14] (fun iv wr => ∃ i : Nat, i ≤ M ∧ iv = .int .i64 i ∧ Hid (∃ va vl, OpF w wr (rf0 n (s.extract 0 A).data.toList first F i) (.slice pt M ct) F va vl)) (fun iv _ => M - (intOf iv).toNat)
  case atStart => exact ⟨0, Nat.zero_le _, rfl, Lib.hid ⟨_, _, HP0.out⟩⟩
  case round =>
    obtain ⟨i, hi, rfl, HS⟩ := hrel
    obtain ⟨va, vl, hOp⟩ := HS.out
    have HOp := Lib.hid hOp
    have c5 : wr.cell? ⟨w.heap.size, 5, none⟩ = some (.int .u64 (PLog.endOf first (F.take i) : Nat)) := hOp.rf.cell5
    have i0 : (0 : Int) ≤ i := by omega
    by_cases hlt : i < M
    · have i1 : (i : Int) < M := by omega
      obtain ⟨t, t1, t2, t3, t4, t5⟩ := HFT.out i hlt
      obtain ⟨gt, ot, rfl, ct1⟩ := hOp.text (i := i) (by have := HMF.out; omega)
      have ct2 : wr.cell? ⟨gt, ot + i, none⟩ = some (.string ⟨t.toArray⟩) := by
        rw [List.getElem?_eq_getElem (by have := HMF.out; omega)] at t1
        rw [ct1, Option.some.inj t1]
      obtain ⟨x, hx⟩ : ∃ x : ByteArray, (⟨t.toArray⟩ : ByteArray) = x := ⟨_, rfl⟩
      have hxz : x.size = t.length := by rw [← hx, size_mk]
      rw [hx] at ct2
      obtain ⟨E0, hE0⟩ : ∃ E0, PLog.endOf first (F.take i) = E0 := ⟨_, rfl⟩
      obtain ⟨E1, hE1⟩ : ∃ E1, PLog.endOf first (F.take (i + 1)) = E1 := ⟨_, rfl⟩
      rw [hE0] at c5 t3 t4 t5
      rw [hE1] at t3 t5
      have h1e : (rf0 n (s.extract 0 A).data.toList first F i).ats.length = i := by
        show (PLog.startsOf first (F.take i)).length = i
        rw [PLog.startsOf_length, List.length_take]
        have := HMF.out
        omega
      have h2e : (rf0 n (s.extract 0 A).data.toList first F i).txs.length = i := by
        show (F.take i).length = i
        rw [List.length_take]
        have := HMF.out
        omega
      have hrf := hOp.rf
      obtain ⟨pa, ca, rfl⟩ := hrf.aform
      obtain ⟨pl2, cl, rfl⟩ := hrf.lform
      rw [h1e, h2e] at hrf HOp
      have HRF := Lib.hid hrf
      have hsa := hrf.sa
      rw [h1e] at hsa
      have HSA := Lib.hid hsa
      have hsl := hrf.sl
      rw [h2e] at hsl
      have HSLL := Lib.hid hsl
      have HE1 := Lib.hid h1e
      have HE2 := Lib.hid h2e
      have c1 := hrf.cell1
      have c1a : ∀ X, (wr.alloc X).cell? ⟨w.heap.size, 1, none⟩ = some (.slice pa i ca) := fun X => by simp [World.cell?, heap_alloc_oldL hrf.block X, rfV]
      have c1b : ∀ X, (wr.drew.alloc X).cell? ⟨w.heap.size, 1, none⟩ = some (.slice pa i ca) := fun X => by simp [World.cell?, heap_alloc_oldL (w := wr.drew) hrf.block X, rfV]
      have hE0b : E0 ≤ 5000000000000000000 := t4
      have HT3 := Lib.hid t3
      have HT5 := Lib.hid t5
      have HXZ := Lib.hid hxz
      have HXX := Lib.hid hx
      have hxb : x.size ≤ 4096 := by omega
      have hib : i ≤ 1000000 := by have := HMF.out; omega
      have HG := Lib.hid hrf.glt
      have HE0 := Lib.hid hE0
      have HE1' := Lib.hid hE1
      have HFI : Hid (∀ h : i < F.length, (⟨(F[i]'h).toArray⟩ : ByteArray) = x) := Lib.hid (fun h => by
        rw [List.getElem?_eq_getElem h] at t1
        rw [← hx, Option.some.inj t1])
      clear hOp t1 t2 t3 t4 t5 ct1 hx hxz hE0 hE1 h1e h2e hrf hsa hsl
      go_upto_region 9 with fail
      go_cut [14] from 44 to 90 (fun s14 wx => s14 = .int .i64 i ∧ ∃ pa5 ca5, Hid (OpF w wx (rf1 n (s.extract 0 A).data.toList first F i E0) (.slice (some ⟨gt, ot, none⟩) M ct) F (.slice pa5 (i + 1) ca5) (.slice pl2 i cl)))
      case first =>
        go_region_law (first
          | ((refine step_append_sl elem_u64 (by rfl) (by rfl) (by first | exact HSA.out.alloc _ | exact (Sl.drew HSA.out).alloc _ | exact Sl.drew (HSA.out.alloc _) | exact Sl.drew ((Sl.drew HSA.out).alloc _)) (by rfl) [.int .u64 E0] (by rfl) (by rfl) (news_alloc _ [_] _ _) (by intro u hu; simp at hu; subst hu; rfl) (by unfold maxLen; omega) (by omega) (Nat.zero_le _) ?_); intro v' w5 k1 k2 k3; obtain ⟨pa5, ca5, rfl⟩ := Sl.form k1; have HP := Lib.hid (HRF.out.pushA (by first | exact (Below.refl _ _).alloc (Nat.le_refl _) _ | exact (Below.refl _ _).drew.alloc (Nat.le_refl _) _ | exact ((Below.refl _ _).alloc (Nat.le_refl _) _).drew | exact ((Below.refl _ _).drew.alloc (Nat.le_refl _) _).drew) (by rw [HE1.out]; exact k1) k2 k3); have hb5 := heap_grownA HRF.out.block (by first | exact (Below.refl _ _).alloc (Nat.le_refl _) _ | exact (Below.refl _ _).drew.alloc (Nat.le_refl _) _ | exact ((Below.refl _ _).alloc (Nat.le_refl _) _).drew | exact ((Below.refl _ _).drew.alloc (Nat.le_refl _) _).drew) k2 (ns_of HRF.out.da); have c15 : w5.cell? ⟨w.heap.size, 1, none⟩ = some (.slice pa i ca) := (by simp [World.cell?, hb5, rfV]); have f15 : w5.frozen? ⟨w.heap.size, 1, none⟩ = false := (by simp [World.frozen?, hb5]); clear k1 k2 k3 hb5))
        all_goals (
          go_wp2_with fail
          go_meet
          exact ⟨rfl, pa5, ca5, Lib.hid (HOp.out.step HP.out.1 HP.out.2)⟩)
      case rest =>
        obtain ⟨rfl, pa5, ca5, HOp6⟩ := hcut
        have hrf := HOp6.out.rf
        have hsl := hrf.sl
        rw [show (rf1 n (s.extract 0 A).data.toList first F i E0).txs.length = i from HE2.out] at hsl
        have HSL6 := Lib.hid hsl
        have HRF6 := Lib.hid hrf
        have c2 := hrf.cell2
        have c2a : ∀ X, (wc.alloc X).cell? ⟨w.heap.size, 2, none⟩ = some (.slice pl2 i cl) := fun X => by simp [World.cell?, heap_alloc_oldL hrf.block X, rfV]
        have c2b : ∀ X, (wc.drew.alloc X).cell? ⟨w.heap.size, 2, none⟩ = some (.slice pl2 i cl) := fun X => by simp [World.cell?, heap_alloc_oldL (w := wc.drew) hrf.block X, rfV]
        have ct6 : wc.cell? ⟨gt, ot + i, none⟩ = some (.string x) := by
          obtain ⟨gt', ot', e1, e2⟩ := HOp6.out.text (i := i) (by have := HMF.out; omega)
          simp only [Option.some.injEq, Addr.mk.injEq] at e1
          obtain ⟨rfl, rfl, _⟩ := e1
          rw [e2, HFI.out]
        clear c1 c1a c1b hrf hsl c5 ct2 HSA HSLL HRF HOp
        go_upto_region 10 with fail
        go_cut [14] from 44 to 90 (fun s14 wy => s14 = .int .i64 i ∧ ∃ pl7 cl7, Hid (OpF w wy (rf2 n (s.extract 0 A).data.toList first F i E0 t) (.slice (some ⟨gt, ot, none⟩) M ct) F (.slice pa5 (i + 1) ca5) (.slice pl7 (i + 1) cl7)))
        case first =>
          go_region_law (first
            | ((refine step_append_sl elem_str (by rfl) (by rfl) (by first | exact HSL6.out.alloc _ | exact (Sl.drew HSL6.out).alloc _ | exact Sl.drew (HSL6.out.alloc _) | exact Sl.drew ((Sl.drew HSL6.out).alloc _)) (by rfl) [.string x] (by rfl) (by rfl) (news_alloc _ [_] _ _) (by intro u hu; simp at hu; subst hu; rfl) (by unfold maxLen; omega) (by omega) (Nat.zero_le _) ?_); intro v' w7 k1 k2 k3; obtain ⟨pl7, cl7, rfl⟩ := Sl.form k1; have HP7 := Lib.hid (HRF6.out.pushL (x := t) (by first | exact (Below.refl _ _).alloc (Nat.le_refl _) _ | exact (Below.refl _ _).drew.alloc (Nat.le_refl _) _ | exact ((Below.refl _ _).alloc (Nat.le_refl _) _).drew | exact ((Below.refl _ _).drew.alloc (Nat.le_refl _) _).drew) (by rw [HXX.out, show (rf1 n (s.extract 0 A).data.toList first F i E0).txs.length = i from HE2.out]; exact k1) k2 k3); have hb7 := heap_grownA HRF6.out.block (by first | exact (Below.refl _ _).alloc (Nat.le_refl _) _ | exact (Below.refl _ _).drew.alloc (Nat.le_refl _) _ | exact ((Below.refl _ _).alloc (Nat.le_refl _) _).drew | exact ((Below.refl _ _).drew.alloc (Nat.le_refl _) _).drew) k2 (ns_of HRF6.out.dl); have c27 : w7.cell? ⟨w.heap.size, 2, none⟩ = some (.slice pl2 i cl) := (by simp [World.cell?, hb7, rfV]); have f27 : w7.frozen? ⟨w.heap.size, 2, none⟩ = false := (by simp [World.frozen?, hb7]); clear k1 k2 k3 hb7))
          all_goals (
            go_wp2_with fail
            go_meet
            exact ⟨rfl, pl7, cl7, Lib.hid (HOp6.out.step HP7.out.1 HP7.out.2)⟩)
        case rest =>
          obtain ⟨rfl, pl7, cl7, HOp8⟩ := hcut
          have hrf := HOp8.out.rf
          have c58 : wc.cell? ⟨w.heap.size, 5, none⟩ = some (.int .u64 E0) := by have := hrf.cell5; rw [← HE0.out]; exact this
          have f58 := hrf.shut 5
          have ct8 : wc.cell? ⟨gt, ot + i, none⟩ = some (.string x) := by
            obtain ⟨gt', ot', e1, e2⟩ := HOp8.out.text (i := i) (by have := HMF.out; omega)
            simp only [Option.some.injEq, Addr.mk.injEq] at e1
            obtain ⟨rfl, rfl, _⟩ := e1
            rw [e2, HFI.out]
          obtain ⟨Q, hQ⟩ : ∃ Q, 14 + x.size = Q := ⟨_, rfl⟩
          have w1 : IntKind.i64.wrap (14 + (x.size : Int)) = Q := by rw [IntWalk.i64_in _ (by omega)]; omega
          have w2 : IntKind.u64.wrap (Q : Int) = Q := IntWalk.u64_in _ (by omega)
          have w3 : IntKind.u64.wrap ((E0 : Int) + Q) = E1 := by rw [IntWalk.u64_in _ (by omega)]; have := HT3.out; have := HXZ.out; omega
          have HEND : Hid (∀ W, Below wc.heap.size wc W → OpF w (W.setCell ⟨w.heap.size, 5, none⟩ (.int .u64 E1)) (rf0 n (s.extract 0 A).data.toList first F (i + 1)) (.slice (some ⟨gt, ot, none⟩) M ct) F (.slice pa5 (i + 1) ca5) (.slice pl7 (i + 1) cl7)) := Lib.hid (fun W hW => by
            have h8 := HOp8.out.below hW
            obtain ⟨k1, k2⟩ := h8.rf.field (R' := rf0 n (s.extract 0 A).data.toList first F (i + 1)) 5 (.int .u64 E1) (by rw [HT5.out]; rfl) (by rw [HT5.out]; rfl) (by rw [HT5.out]; simp [rfV, rf2, rf1])
            exact h8.step k1 k2)
          clear c2 c2a c2b hrf ct6 HSL6 HRF6 HOp6 hQ
          go_wp2_with fail
          go_region_law (fail)
          all_goals (
            go_wp2
            exact ⟨⟨i + 1, by omega, by go_num, Lib.hid ⟨_, _, (HEND.out _ (Below.refl _ _)).below (Below.refl _ _).drew⟩⟩, by simp [intOf]; omega⟩)
    · have i1 : ¬ (i : Int) < M := by omega
      have hiM : i = M := by omega
      obtain ⟨L, hL⟩ : ∃ L, PLog.opened D pl n life first = L := ⟨_, rfl⟩
      obtain ⟨E, hE⟩ : ∃ E, PLog.endOf first F = E := ⟨_, rfl⟩
      have hFi : F.take i = F := by rw [hiM, ← HMF.out, List.take_length]
      rw [hFi, hE] at c5
      have hLn : L.next = E := by rw [← hL, HNX.out, hE]
      have hk := HOK.out
      rw [hL] at hk
      have hob := HOB.out
      rw [hL, hLn] at hob
      have hop := HOPN.out
      rw [hL] at hop
      have hLf : L.first = first := by rw [hop]
      have hfE : first ≤ E := by have := L.first_next; omega
      have hsz := HSZ.out
      have hAB := HAB.out
      have hSL := HSL.out
      rw [hE] at hSL
      have hbl : L.bytes.length = A + (E - first) := by rw [hob.1, List.length_take]; omega
      obtain ⟨T1, hT1⟩ : ∃ T1, E - first = T1 := ⟨_, rfl⟩
      obtain ⟨TO, hTO⟩ : ∃ TO, A + T1 = TO := ⟨_, rfl⟩
      have w1 : IntKind.u64.wrap ((E : Int) - first) = T1 := by rw [IntWalk.u64_in _ (by omega)]; omega
      have w2 : IntKind.i64.wrap (T1 : Int) = T1 := IntWalk.i64_in _ (by omega)
      have w3 : IntKind.i64.wrap ((A : Int) + T1) = TO := by rw [IntWalk.i64_in _ (by omega)]; omega
      have hhd : (s.extract 0 A).data.toList = L.head := by rw [extract_take, HSD.out, hop]
      -- forced
      have HP6 := Lib.hid (hOp.rf.field (R' := { rf0 n (s.extract 0 A).data.toList first F i with forced := E }) 6 (.int .u64 E) rfl rfl (by simp [rfV, rf0]))
      have HRE : Hid (∀ fx fa, ({ ({ rf0 n (s.extract 0 A).data.toList first F i with forced := E } : PLog.Rf) with fix := fx, fa := fa } : PLog.Rf) = PLog.toRf L fx fa) := Lib.hid (fun fx fa => by
        have h1 : L.starts = PLog.startsOf first F := by rw [hop]; rfl
        have h2 : L.texts = F := by rw [hop]
        have h3 : L.n = n := by rw [hop]
        have h4 : L.forced = E := by rw [hop]; exact hE
        have h5 : L.reserved = 0 := by rw [hop]
        unfold rf0 PLog.toRf
        rw [hFi, hE, hhd, h1, h2, h3, h4, h5, hLf, hLn])
      have hOp6 := hOp.step HP6.out.1 HP6.out.2
      have HOp6 := Lib.hid hOp6
      have f6 := hOp.rf.shut 6
      have c6 : wr.cell? ⟨w.heap.size, 6, none⟩ = some (.int .u64 0) := hOp.rf.cell6
      obtain ⟨W6, hW6⟩ : ∃ W6, wr.setCell ⟨w.heap.size, 6, none⟩ (.int .u64 E) = W6 := ⟨_, rfl⟩
      have HW6 := Lib.hid hW6
      have c56 : (wr.setCell ⟨w.heap.size, 6, none⟩ (.int .u64 E)).cell? ⟨w.heap.size, 5, none⟩ = some (.int .u64 E) := by
        have := hOp6.rf.cell5
        rw [this]
        show some (Value.int .u64 (PLog.endOf first (F.take i) : Nat)) = _
        rw [hFi, hE]
      by_cases hst : TO < s.size
      · have hst' : (TO : Int) < s.size := by omega
        have hbE := PLog.begin_le E
        have hbm := PLog.begin_mono hfE
        have hbB := HBB.out
        rw [hbB] at hbm
        obtain ⟨bE, hbE'⟩ : ∃ bE, PLog.begin E = bE := ⟨_, rfl⟩
        rw [hbE'] at hbE hbm
        obtain ⟨FR, hFR⟩ : ∃ FR, bE - B = FR := ⟨_, rfl⟩
        have HBE : Hid (∀ W, Calls Try.prog 71 #[.int .u64 E] W fun e w' => e = .returned (.int .u64 (bE : Nat)) ∧ W = w') := Lib.hid (fun W => by rw [← hbE']; exact rbegin_any E (by omega) W)
        have HBF : Hid (∀ W, Calls Try.prog 71 #[.int .u64 first] W fun e w' => e = .returned (.int .u64 (B : Nat)) ∧ W = w') := Lib.hid (fun W => by rw [← hbB]; exact rbegin_any first (by omega) W)
        have w4 : IntKind.u64.wrap ((bE : Int) - B) = FR := by rw [IntWalk.u64_in _ (by omega)]; omega
        have w5 : IntKind.i64.wrap (FR : Int) = FR := IntWalk.i64_in _ (by omega)
        have q1 : FR ≤ TO := by omega
        have q2 : TO ≤ s.size := by omega
        have e0 : PLog.staleB D pl n life first = true := by rw [HSTL.out, hL, hbl, hT1, hTO, ← hsz]; simpa using hst
        have hpt : (s.extract FR TO).data.toList = PLog.part L bE := by
          rw [extract_dt, HSD.out]
          unfold PLog.part
          rw [hob.1, hLf, hbB, hFR, hT1, hTO]
          exact (List.take_of_length_le (by rw [List.length_drop, List.length_take]; omega)).symm
        have hfix : PLog.fixOf D pl n life first = PLog.image bE life (PLog.part L bE) := by unfold PLog.fixOf; rw [if_pos e0, hL, hLn, hbE']
        obtain ⟨fx, hfx⟩ : ∃ fx : ByteArray, (⟨(PLog.fixOf D pl n life first).toArray⟩ : ByteArray) = fx := ⟨_, rfl⟩
        have hpl : (PLog.part L bE).length ≤ 110 := PLog.part_le L bE
        have HSE : Hid (∀ W, Calls Try.prog 74 #[.int .u64 E, .int .u64 life, .string (s.extract FR TO)] W fun e w' => e = .returned (.string fx) ∧ Below W.heap.size W w') := Lib.hid (fun W => by
          have := rsector_any E life (PLog.part L bE) (by omega) (by omega) hpl W
          rw [hbE', ← hfix, hfx, ← hpt, show (⟨(s.extract FR TO).data.toList.toArray⟩ : ByteArray) = s.extract FR TO from rfl] at this
          exact this)
        obtain ⟨K, hK⟩ : ∃ K, E / 110 = K := ⟨_, rfl⟩
        obtain ⟨FA, hFA⟩ : ∃ FA, K % n = FA := ⟨_, rfl⟩
        have hfat : PLog.fixAt D pl n life first = FA := by unfold PLog.fixAt; rw [if_pos e0, hL, hLn, hK, hFA]
        have u1 : (E : Int).tdiv 110 = K := by rw [Int.tdiv_eq_ediv_of_nonneg (by omega)]; omega
        have u2 : IntKind.u64.wrap (K : Int) = K := IntWalk.u64_in _ (by omega)
        have u3 : IntKind.u64.wrap (n : Int) = n := IntWalk.u64_in _ (by omega)
        have u4 : (K : Int).tmod n = FA := by rw [Int.tmod_eq_emod_of_nonneg (by omega), ← hFA]; rfl
        have hFAn : FA < n := by rw [← hFA]; exact Nat.mod_lt _ (by omega)
        have u5 : IntKind.i64.wrap (FA : Int) = FA := IntWalk.i64_in _ (by omega)
        have zn : ¬ n = 0 := by omega
        have HFX : Hid (PLog.fixOf D pl n life first = fx.data.toList ∧ PLog.fixAt D pl n life first = FA) := Lib.hid ⟨by rw [← hfx], hfat⟩
        have HLL := Lib.hid hL
        have HKK := Lib.hid hk
        have HE5 : Hid (some (Value.int .u64 (PLog.endOf first (F.take i) : Nat)) = some (Value.int .u64 E)) := Lib.hid (by rw [hFi, hE])
        have h66 := hOp6
        rw [hW6] at h66
        have c56' : W6.cell? ⟨w.heap.size, 5, none⟩ = some (.int .u64 E) := by rw [← hW6]; exact c56
        have c06' : W6.cell? ⟨w.heap.size, 0, none⟩ = some (.int .i64 n) := by simp [World.cell?, h66.rf.block, rfV, rf0]
        have H66 := Lib.hid h66
        clear hOp hOp6 hiM hFi hE hLn hL hk hob hop hLf hfE hsz hAB hSL hbl hT1 hTO hhd hst hbE hbm hbB hbE' hFR e0 hpt hfix hfx hpl hK hFA hfat h66 hW6
        go_upto_region 14 with fail
        rw [HW6.out]
        go_wp2_with fail
        refine (HBE.out _).mono ?_; rintro e w9 ⟨rfl, rfl⟩
        go_wp2_with fail
        refine (HBF.out _).mono ?_; rintro e w9 ⟨rfl, rfl⟩
        go_upto_region 15 with fail
        go_cut [15] from 119 to 139 (fun s15 wx => s15 = .int .i64 FR ∧ Hid (OpF w wx ({ ({ rf0 n (s.extract 0 A).data.toList first F i with forced := E } : PLog.Rf) with fix := fx.data.toList } : PLog.Rf) (.slice pt M ct) F va vl))
        case first =>
          go_region_law ((try go_simp); ((with_reducible refine (HSE.out _).mono ?_); rintro e w8 ⟨rfl, hb⟩; have HO8 := Lib.hid (H66.out.below (show Below W6.heap.size W6 w8 by first | exact hb | exact (Below.refl _ _).drew.trans hb | exact (Below.refl _ _).drew.drew.trans hb)); have c88 : w8.cell? ⟨w.heap.size, 8, none⟩ = some (.string ⟨#[]⟩) := (by simp [World.cell?, HO8.out.rf.block, rfV, rf0]); have f88 := HO8.out.rf.shut 8; clear hb); go_wp2_with fail)
          all_goals (
            have hfld := HO8.out.rf.field (R' := { ({ rf0 n (s.extract 0 A).data.toList first F i with forced := E } : PLog.Rf) with fix := fx.data.toList }) 8 (.string fx) rfl rfl (by simp [rfV, rf0])
            have HO9 := Lib.hid (HO8.out.step hfld.1 hfld.2)
            clear hfld
            go_wp2_with fail
            go_meet
            exact ⟨rfl, HO9⟩)
        case rest =>
          obtain ⟨rfl, HO8⟩ := hcut
          have c59 : wc.cell? ⟨w.heap.size, 5, none⟩ = some (.int .u64 E) := by rw [HO8.out.rf.cell5]; exact HE5.out
          have c09 : wc.cell? ⟨w.heap.size, 0, none⟩ = some (.int .i64 n) := by simp [World.cell?, HO8.out.rf.block, rfV, rf0]
          have c99 : wc.cell? ⟨w.heap.size, 9, none⟩ = some (.int .i64 0) := by simp [World.cell?, HO8.out.rf.block, rfV, rf0]
          have f99 := HO8.out.rf.shut 9
          go_wp2_with fail
          go_region_law (fail)
          all_goals (
            go_wp2
            go_ret
            obtain ⟨k1, k2⟩ := HO8.out.rf.field (R' := { ({ ({ rf0 n (s.extract 0 A).data.toList first F i with forced := E } : PLog.Rf) with fix := fx.data.toList } : PLog.Rf) with fa := FA }) 9 (.int .i64 FA) rfl rfl (by simp [rfV, rf0])
            have hO9 := (HO8.out.step k1 k2).below (Below.refl _ _).drew
            refine ⟨w.heap.size, _, rfl, ?_, hO9.low, hO9.own⟩
            rw [HFX.out.1, HFX.out.2, HLL.out]
            have e2 := hO9.rf
            rw [show ({ ({ ({ rf0 n (s.extract 0 A).data.toList first F i with forced := E } : PLog.Rf) with fix := fx.data.toList } : PLog.Rf) with fa := FA } : PLog.Rf) = PLog.toRf L fx.data.toList FA from HRE.out _ _] at e2
            exact e2.close HKK.out)
      · have hst' : ¬ (TO : Int) < s.size := by omega
        have HFX : Hid (PLog.fixOf D pl n life first = [] ∧ PLog.fixAt D pl n life first = 0) := Lib.hid (by
          have e : PLog.staleB D pl n life first = false := by rw [HSTL.out, hL, hbl, hT1, hTO, ← hsz]; simpa using hst
          unfold PLog.fixOf PLog.fixAt
          rw [e]
          exact ⟨rfl, rfl⟩)
        have HLL := Lib.hid hL
        have HKK := Lib.hid hk
        clear hOp hOp6 hiM hFi hE hLn hL hk hob hop hLf hfE hsz hAB hSL hbl hT1 hTO hhd hW6 hst
        go_wp2
        go_ret
        rw [HW6.out] at HOp6 ⊢
        refine ⟨w.heap.size, _, rfl, ?_, HOp6.out.low, HOp6.out.own⟩
        rw [HFX.out.1, HFX.out.2, HLL.out]
        have hr := HOp6.out.rf
        have e := HRE.out [] 0
        have e2 : IsRf W6 w.heap.size (PLog.toRf L [] 0) va vl := by rw [← e]; exact hr
        exact e2.close HKK.out
end Go.Proofs.Ytjnggldalggfnaa
