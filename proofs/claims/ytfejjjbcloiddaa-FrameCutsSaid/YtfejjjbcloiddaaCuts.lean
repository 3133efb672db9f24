/-
  FrameCuts: what was written, one behind the other, is scanned; of what is cut off anywhere just the whole ones are told. No conditions.
-/
import Derived.Test.YtfejjjbcloiddaaTells
import Derived.Test.YtfejjjbcloiddaaTellsL
import Derived.Test.YtfejjjbcloiddaaPCut
import Derived.Test.YtfejjjbcloiddaaWorks
import Derived.Test.YtfejjjbcloiddaaLaw10
namespace Go.Proofs.Ytfejjjbcloiddaa
open Go.ChangeShapes Go.WideShapes Go.ChangeAt Go.RowKit
open Go.ChangeMaps (open_string shut_string)
theorem elem_int : ElemT Try.prog 43 3 1 8 := ElemT.mk' (z := .int .i64 0) Try.underlying43 (by kernel_rfl) rfl (by decide)
def endsV (L : List (List UInt8)) (k : Nat) : List Value := (List.range k).map fun i => Value.int .i64 (PFrm.pre (L.take (i + 1)))
theorem endsV_succ (L : List (List UInt8)) (k : Nat) : endsV L (k + 1) = endsV L k ++ [.int .i64 (PFrm.pre (L.take (k + 1)))] := by simp [endsV, List.range_succ]
theorem endsV_length (L : List (List UInt8)) (k : Nat) : (endsV L k).length = k := by simp [endsV]
theorem strV_back (ss : List ByteArray) : strV (ss.map (·.data.toList)) = ss.map Value.string := by
  unfold strV; rw [List.map_map]; apply List.map_congr_left; intro s _; simp
theorem take_up {ss : List ByteArray} {k : Nat} (h : k < ss.length) : (ss.map (·.data.toList)).take (k + 1) = (ss.map (·.data.toList)).take k ++ [ss[k].data.toList] := by
  rw [List.take_succ_eq_append_getElem (by simpa using h)]; simp
set_option maxRecDepth 100000 in
set_option maxHeartbeats 4000000 in
theorem frameCuts_ok (ss : List ByteArray) (m : Nat) (cut : Nat) (hm1 : 1 ≤ m) (hm2 : m ≤ 4611686018427387904) (hcut : cut < 65536) (hss : ss.length ≤ 30) (v : Value) (w : World) (hv : Rd w v (ss.map Value.string)) (hsz : ∀ s ∈ ss, s.size ≤ maxLen) :
    Calls Try.prog 6 #[v, .int .u64 m, .int .u16 cut] w fun e w' => e = .returned (.bool true) ∧ Below w.heap.size w w' := by
  have HV := Lib.hid hv
  obtain ⟨p, c, rfl, h2, h3, h4⟩ := hv
  obtain ⟨L, hL⟩ : ∃ L, ss.map (·.data.toList) = L := ⟨_, rfl⟩
  have HL := Lib.hid hL
  have hLl : L.length = ss.length := by rw [← hL]; simp
  have HLl := Lib.hid hLl
  rw [List.length_map] at *
  have H4 := Lib.hid h4
  have HS := Lib.hid hsz
  unfold maxLen at h3
  have hm0 : ((m : Int) == 0) = false := by rw [beq_eq_false_iff_ne]; omega
  clear h4 hsz hL hLl
  go_enter Try.func6, Try.ntmps6
  go_wp2
  go_loopw [7, 8, 9] (fun sv ev iv wr => ∃ (k : Nat) (T : ByteArray), iv = .int .i64 k ∧ k ≤ ss.length ∧ sv = .string T ∧ Hid (T.data.toList = PFrm.catF m (L.take k)) ∧ Hid (T.size = PFrm.pre (L.take k)) ∧ T.size ≤ 314 * k ∧ Hid (PFrm.Fit (L.take k)) ∧ Sl wr w.heap.size 3 1 ev k (endsV L k) ∧ Below w.heap.size w wr) (fun _ _ iv _ => ss.length - (intOf iv).toNat)
  case atStart => exact ⟨0, ⟨#[]⟩, rfl, by omega, rfl, Lib.hid (by simp [PFrm.catF]), Lib.hid (by simp [PFrm.pre]; rfl), by simp; rfl, Lib.hid (by simp [PFrm.Fit]), Sl.nil _ _ _ _, Below.refl _ _⟩
  case round =>
    obtain ⟨k, T, rfl, hk, rfl, hT, hTp, hTs, hfit, hSl, hB⟩ := hrel
    by_cases hlt : k < ss.length
    · have hx := (hB.step (Below.refl _ _))
      obtain ⟨g, off, rfl, hg, hcell⟩ := H4.out (by intro e; have := congrArg List.length e; simp at this; subst this; simp at hlt)
      have hc := (hB.cell (p := ⟨g, off + k, none⟩) hg).trans (hcell k (by simpa using hlt))
      rw [List.getElem_map] at hc
      have htk := take_up hlt
      rw [HL.out] at htk
      have hXs := HS.out ss[k] (List.getElem_mem hlt)
      generalize ss[k] = X at *
      unfold maxLen at hXs
      have htk' := Lib.hid htk
      clear hcell htk hx
      have k0 : (0 : Int) ≤ k := by omega
      have k1 : (k : Int) < ss.length := by omega
      by_cases c1 : 300 < X.size
      · have d1 : (300 : Int) < X.size := by omega
        go_wp2_with fail
        refine (works10_any _).mono ?_; rintro e w3 ⟨rfl, hb⟩
        go_wp2
        go_ret
        exact ⟨rfl, hB.step hb⟩
      have d1 : ¬ (300 : Int) < X.size := by omega
      by_cases c2 : X.size = 0
      · obtain rfl : X = ⟨#[]⟩ := by
          have := list_size X
          rw [c2] at this
          have h0 := List.length_eq_zero_iff.1 this
          cases X with | mk d => simp at h0; rw [h0]
        clear c1 c2
        go_wp2_with fail
        refine (works10_any _).mono ?_; rintro e w3 ⟨rfl, hb⟩
        go_wp2
        go_ret
        exact ⟨rfl, hB.step hb⟩
      have d2 : X.toList.isEmpty = false := by
        rw [bytes_eq]; cases hx : X.data.toList with
        | nil => have := list_size X; rw [hx] at this; simp at this; omega
        | cons a b => rfl
      have hx1 : 1 ≤ X.size := by omega
      have hx2 : X.size ≤ 300 := by omega
      have hwk : IntKind.u64.wrap (T.size : Int) = T.size := by
        have : IntKind.u64.wrap (T.size : Int) = (T.size : Int) % 18446744073709551616 := rfl
        rw [this]; omega
      have hwr : IntKind.u64.wrap ((m : Int) + T.size) = ((m + T.size : Nat) : Int) := by
        have : IntKind.u64.wrap ((m : Int) + T.size) = ((m : Int) + T.size) % 18446744073709551616 := rfl
        rw [this]; omega
      have hen := enc_yes (m + T.size) X.data.toList (by rw [list_size]; omega) (by rw [list_size]; omega) (by omega)
      obtain ⟨S2, hS2⟩ : ∃ S2 : ByteArray, S2.data.toList = PFrm.frame (m + T.size) X.data.toList := ⟨⟨(PFrm.frame (m + T.size) X.data.toList).toArray⟩, by simp⟩
      have hS2l : S2.size = X.size + 14 := by rw [← list_size, hS2, PFrm.frame_length, list_size]
      rw [← hS2] at hen
      have hen' := Lib.hid hen
      have hS2' := Lib.hid hS2
      have hlen : ((S2.size : Int) != (X.size : Int) + 14) = false := by rw [hS2l]; simp
      have hlen' : ((X.size : Int) + 14 == (X.size : Int) + 14) = true := by simp
      have hS2H := Lib.hid hS2l
      have s21 : S2.size ≤ 314 := by omega
      clear c1 c2 hen hS2 hS2l
      go_wp2_with fail
      refine (encode_any (m + T.size) X (by omega) (by unfold maxLen; omega) _).mono ?_; rintro e w1 ⟨rfl, hb⟩
      rw [hen'.out, mk_back]
      have hSl1 := hSl.keep fun j hj => hb.block j (hSl.lt j hj).2
      have hc1 := (hb.cell (p := ⟨g, off + k, none⟩) (Nat.lt_of_lt_of_le hg hB.size)).trans hc
      have hB1 := hB.step hb
      clear hb hSl hB hc
      go_wp2_with (at_builtin; (with_reducible apply wpList_append_sl elem_int (hSl1.alloc _) [_]); (· rfl); (· rfl); (· rfl); (· rfl); (· rfl); (· exact news_alloc _ [_] _ _); (· intro u hu; simp at hu; subst hu; rfl); (· unfold maxLen; omega); (· omega); (· have := hB1.size; simp; omega); intro v' w2 h1 h2 _ h3)
      refine ⟨⟨k + 1, T ++ S2, by go_num, by omega, rfl, Lib.hid ?_, Lib.hid ?_, ?_, Lib.hid ?_, ?_, ?_⟩, by simp [intOf]; omega⟩
      · rw [htk'.out, PFrm.catF_snoc, ← hTp.out, ← hS2'.out, ← hT.out]; simp
      · rw [htk'.out, PFrm.pre_snoc, ← hTp.out, ByteArray.size_append, hS2H.out, list_size]
      · rw [ByteArray.size_append]; omega
      · rw [htk'.out]
        intro t ht
        rcases List.mem_append.1 ht with ht | ht
        · exact hfit.out t ht
        · rw [List.mem_singleton.1 ht, list_size]; omega
      · rw [endsV_succ, htk'.out, PFrm.pre_snoc, ← hTp.out, list_size]
        rw [show (((T.size + (X.size + 14) : Nat)) : Int) = (T.size : Int) + S2.size by rw [hS2H.out]; omega]
        exact h1
      · exact (hB1.alloc hB1.size _).grown h2 (by have := hB1.size; simp; omega) (fun k hk => (hSl1.lt k hk).1)
    · skip
      have hks : k = ss.length := by omega
      have hnl : ¬ (k : Int) < ss.length := by omega
      have htk : L.take k = L := List.take_of_length_le (by rw [HLl.out]; omega)
      rw [htk] at hT hTp hfit
      have hcut1 := PFrm.items_cut L hfit.out m (PFrm.pre L) L.length (T.size + 1) (by omega) (by rw [← hTp.out]; omega) (Nat.le_refl _) (Nat.le_refl _) (by rw [List.take_length]; exact Nat.le_refl _) (.inl rfl) (by rw [← hTp.out]; omega)
      rw [List.take_of_length_le (show (PFrm.catF m L).length ≤ PFrm.pre L by rw [PFrm.catF_length]; exact Nat.le_refl _), ← hT.out] at hcut1
      have ht1 : Hid (PFrm.texts (PFrm.items (T.size + 1) T.data.toList m) = L) := Lib.hid (by rw [hcut1, PFrm.texts_cut, List.take_length])
      have hu1 : Hid (PFrm.used (PFrm.texts (PFrm.items (T.size + 1) T.data.toList m)) = (T.size : Int)) := Lib.hid (by rw [ht1.out, PFrm.used_pre _ hfit.out, hTp.out])
      have he1 : Hid (PFrm.err (PFrm.items (T.size + 1) T.data.toList m) = 0) := Lib.hid (by rw [hcut1, PFrm.err_cut, List.take_length, if_pos rfl])
      have hT2 : T.size ≤ 9420 := by omega
      have hks' := Lib.hid hks
      obtain ⟨pe, ce, hev, he2, he3, he4⟩ := Rd.of_sl hSl
      rw [endsV_length] at hev he2
      subst hev
      unfold maxLen at he3
      have hR0 := (HV.out).below (hB)
      rw [← strV_back, HL.out] at hR0
      have hRe := Rd.of_sl hSl
      have He4 := Lib.hid he4
      clear hcut1 htk hks hlt he4 hSl
      go_wp2_with fail
      refine (scan_any T m (by omega) (by omega) _).mono ?_; rintro e w1 ⟨v1, rfl, hs1, hb⟩
      rw [hu1.out, he1.out]
      rw [ht1.out] at hs1
      have hR1 := hR0.below hb
      have hE1 := hRe.below hb
      have hB1 := hB.step hb
      clear hb hB hR0 hRe
      go_wp2_with fail
      refine (texts_same L v1 _ _ (Rd.of_sl hs1) hR1).mono ?_; rintro e w2 ⟨rfl, hb⟩
      have hR := hR1.below hb
      have hE := hE1.below hb
      have hB := hB1.step hb
      clear hb hB1 hR1 hE1 hs1
      obtain ⟨K, hK⟩ : ∃ K, cut % (T.size + 1) = K := ⟨_, rfl⟩
      have hKl : K ≤ T.size := by rw [← hK]; have := Nat.mod_lt cut (show 0 < T.size + 1 by omega); omega
      have hmod : (cut : Int) % ((T.size : Int) + 1) = K := by rw [← hK]; simp
      have hwc : IntKind.i64.wrap (cut : Int) = cut := IntWalk.i64_in _ (by omega)
      have hK' := Lib.hid hK
      clear hK He4
      go_wp2
      go_loop [16, 17, 18] (fun wv ev iv => ∃ (i q : Nat), i ≤ ss.length ∧ wv = .int .i64 i ∧ ev = .int .i64 q ∧ iv = .int .i64 i ∧ Hid (q = PFrm.pre (L.take i)) ∧ q ≤ K) (fun _ _ iv => ss.length - (intOf iv).toNat)
      case atStart => exact ⟨0, 0, by omega, rfl, rfl, rfl, Lib.hid (by simp [PFrm.pre]), by omega⟩
      case round =>
        obtain ⟨i, q, hi, rfl, rfl, rfl, hq, hqK⟩ := hrel
        by_cases hil : i < ss.length
        · have hik : i < k := by rw [hks'.out]; exact hil
          have hE' := hE
          obtain ⟨pe', ce', e1, e2, e3, e4⟩ := hE'
          rw [endsV_length] at e1 e2
          simp at e1
          obtain ⟨rfl, rfl⟩ := e1
          obtain ⟨g, o, rfl, hg, hcell⟩ := e4 (by intro e; have := congrArg List.length e; rw [endsV_length] at this; simp at this; omega)
          have hc := hcell i (by rw [endsV_length]; exact hik)
          have hval : (endsV L k)[i]'(by rw [endsV_length]; exact hik) = .int .i64 (PFrm.pre (L.take (i + 1))) := by simp [endsV]
          rw [hval] at hc
          obtain ⟨q', hq'⟩ : ∃ q', PFrm.pre (L.take (i + 1)) = q' := ⟨_, rfl⟩
          rw [hq'] at hc
          have HQ := Lib.hid hq'
          clear hval hcell e4 e2 e3 hq'
          have i0 : (0 : Int) ≤ i := by omega
          have i1 : (i : Int) < k := by omega
          by_cases hqq : q' ≤ K
          · have hqq' : (q' : Int) ≤ K := by omega
            go_wp2
            go_round
            case rel => exact ⟨i + 1, q', by omega, by go_num, rfl, by go_num, Lib.hid HQ.out.symm, hqq⟩
            case measure => simp [intOf]; omega
          · have hqq' : ¬ (q' : Int) ≤ K := by omega
            have hend : Hid (i = ss.length ∨ K < PFrm.pre (L.take (i + 1))) := Lib.hid (.inr (by rw [HQ.out]; omega))
            clear HQ
            have hcut2 := PFrm.items_cut L hfit.out m K i (K + 1) (by omega) (by rw [← hTp.out]; omega) (by rw [← hTp.out]; omega) (by rw [HLl.out]; exact hi) (by rw [← hq.out]; exact hqK) (by rw [HLl.out]; exact hend.out) (by omega)
            have hU : Hid ((T.extract 0 K).data.toList = (PFrm.catF m L).take K) := Lib.hid (by rw [extract_take, hT.out])
            have hUs : Hid ((T.extract 0 K).size = K) := Lib.hid (by rw [ByteArray.size_extract]; omega)
            rw [← hU.out] at hcut2
            have hi2 := Lib.hid hcut2
            have ht2 : Hid (PFrm.texts (PFrm.items ((T.extract 0 K).size + 1) (T.extract 0 K).data.toList m) = L.take i) := Lib.hid (by rw [hUs.out, hi2.out]; exact PFrm.texts_cut _ _)
            have hu2 : Hid (PFrm.used (PFrm.texts (PFrm.items ((T.extract 0 K).size + 1) (T.extract 0 K).data.toList m)) = (q : Int)) := Lib.hid (by rw [ht2.out, PFrm.used_pre _ (hfit.out.take i), hq.out])
            have he2 : Hid (PFrm.err (PFrm.items ((T.extract 0 K).size + 1) (T.extract 0 K).data.toList m) = if PFrm.pre (L.take i) = K then 0 else 6) := Lib.hid (by rw [hUs.out, hi2.out]; exact PFrm.err_cut _ _)
            have hsz2 : Hid ((T.extract 0 K).size ≤ 1000000) := Lib.hid (by rw [hUs.out]; omega)
            clear hcut2
            by_cases hqe : q = K
            · have he3 : Hid (PFrm.err (PFrm.items ((T.extract 0 K).size + 1) (T.extract 0 K).data.toList m) = 0) := Lib.hid (by rw [he2.out, if_pos (by rw [← hq.out]; exact hqe)])
              subst hqe
              go_wp2_with fail
              refine (scan_any (T.extract 0 q) m (by omega) hsz2.out _).mono ?_; rintro e w4 ⟨v4, rfl, hs4, hb⟩
              rw [hu2.out, he3.out]
              rw [ht2.out] at hs4
              replace hR := hR.below hb
              replace hB := hB.step hb
              clear hb
              go_wp2_with fail
              have hR3 := Rd.take hR hi
              rw [show (strV L).take i = strV (L.take i) by simp [strV]] at hR3
              refine (texts_same (L.take i) v4 _ _ (Rd.of_sl hs4) hR3).mono ?_; rintro e w5 ⟨rfl, hb⟩
              replace hB := hB.step hb
              clear hb hR3 hs4
              go_wp2_with fail
              refine (works10_any _).mono ?_; rintro e w6 ⟨rfl, hb⟩
              replace hB := hB.step hb
              clear hb
              go_wp2
              go_ret
              exact ⟨rfl, hB⟩
            · have he3 : Hid (PFrm.err (PFrm.items ((T.extract 0 K).size + 1) (T.extract 0 K).data.toList m) = 6) := Lib.hid (by rw [he2.out, if_neg (by rw [← hq.out]; exact hqe)])
              have hqb : ((q : Int) == (K : Int)) = false := by rw [beq_eq_false_iff_ne]; omega
              have hqe' := Lib.hid hqe
              clear hqe
              go_wp2_with fail
              refine (scan_any (T.extract 0 K) m (by omega) hsz2.out _).mono ?_; rintro e w4 ⟨v4, rfl, hs4, hb⟩
              rw [hu2.out, he3.out]
              rw [ht2.out] at hs4
              replace hR := hR.below hb
              replace hB := hB.step hb
              clear hb
              go_wp2_with fail
              have hR3 := Rd.take hR hi
              rw [show (strV L).take i = strV (L.take i) by simp [strV]] at hR3
              refine (texts_same (L.take i) v4 _ _ (Rd.of_sl hs4) hR3).mono ?_; rintro e w5 ⟨rfl, hb⟩
              replace hB := hB.step hb
              clear hb hR3 hs4
              go_wp2_with fail
              refine (works10_any _).mono ?_; rintro e w6 ⟨rfl, hb⟩
              replace hB := hB.step hb
              clear hb
              go_wp2
              go_ret
              exact ⟨rfl, hB⟩
        · have hend : Hid (i = ss.length ∨ K < PFrm.pre (L.take (i + 1))) := Lib.hid (.inl (by omega))
          have i1 : ¬ (i : Int) < k := by rw [hks'.out]; omega
          clear hil
          have hcut2 := PFrm.items_cut L hfit.out m K i (K + 1) (by omega) (by rw [← hTp.out]; omega) (by rw [← hTp.out]; omega) (by rw [HLl.out]; exact hi) (by rw [← hq.out]; exact hqK) (by rw [HLl.out]; exact hend.out) (by omega)
          have hU : Hid ((T.extract 0 K).data.toList = (PFrm.catF m L).take K) := Lib.hid (by rw [extract_take, hT.out])
          have hUs : Hid ((T.extract 0 K).size = K) := Lib.hid (by rw [ByteArray.size_extract]; omega)
          rw [← hU.out] at hcut2
          have hi2 := Lib.hid hcut2
          have ht2 : Hid (PFrm.texts (PFrm.items ((T.extract 0 K).size + 1) (T.extract 0 K).data.toList m) = L.take i) := Lib.hid (by rw [hUs.out, hi2.out]; exact PFrm.texts_cut _ _)
          have hu2 : Hid (PFrm.used (PFrm.texts (PFrm.items ((T.extract 0 K).size + 1) (T.extract 0 K).data.toList m)) = (q : Int)) := Lib.hid (by rw [ht2.out, PFrm.used_pre _ (hfit.out.take i), hq.out])
          have he2 : Hid (PFrm.err (PFrm.items ((T.extract 0 K).size + 1) (T.extract 0 K).data.toList m) = if PFrm.pre (L.take i) = K then 0 else 6) := Lib.hid (by rw [hUs.out, hi2.out]; exact PFrm.err_cut _ _)
          have hsz2 : Hid ((T.extract 0 K).size ≤ 1000000) := Lib.hid (by rw [hUs.out]; omega)
          clear hcut2
          by_cases hqe : q = K
          · have he3 : Hid (PFrm.err (PFrm.items ((T.extract 0 K).size + 1) (T.extract 0 K).data.toList m) = 0) := Lib.hid (by rw [he2.out, if_pos (by rw [← hq.out]; exact hqe)])
            subst hqe
            go_wp2_with fail
            refine (scan_any (T.extract 0 q) m (by omega) hsz2.out _).mono ?_; rintro e w4 ⟨v4, rfl, hs4, hb⟩
            rw [hu2.out, he3.out]
            rw [ht2.out] at hs4
            replace hR := hR.below hb
            replace hB := hB.step hb
            clear hb
            go_wp2_with fail
            have hR3 := Rd.take hR hi
            rw [show (strV L).take i = strV (L.take i) by simp [strV]] at hR3
            refine (texts_same (L.take i) v4 _ _ (Rd.of_sl hs4) hR3).mono ?_; rintro e w5 ⟨rfl, hb⟩
            replace hB := hB.step hb
            clear hb hR3 hs4
            go_wp2_with fail
            refine (works10_any _).mono ?_; rintro e w6 ⟨rfl, hb⟩
            replace hB := hB.step hb
            clear hb
            go_wp2
            go_ret
            exact ⟨rfl, hB⟩
          · have he3 : Hid (PFrm.err (PFrm.items ((T.extract 0 K).size + 1) (T.extract 0 K).data.toList m) = 6) := Lib.hid (by rw [he2.out, if_neg (by rw [← hq.out]; exact hqe)])
            have hqb : ((q : Int) == (K : Int)) = false := by rw [beq_eq_false_iff_ne]; omega
            have hqe' := Lib.hid hqe
            clear hqe
            go_wp2_with fail
            refine (scan_any (T.extract 0 K) m (by omega) hsz2.out _).mono ?_; rintro e w4 ⟨v4, rfl, hs4, hb⟩
            rw [hu2.out, he3.out]
            rw [ht2.out] at hs4
            replace hR := hR.below hb
            replace hB := hB.step hb
            clear hb
            go_wp2_with fail
            have hR3 := Rd.take hR hi
            rw [show (strV L).take i = strV (L.take i) by simp [strV]] at hR3
            refine (texts_same (L.take i) v4 _ _ (Rd.of_sl hs4) hR3).mono ?_; rintro e w5 ⟨rfl, hb⟩
            replace hB := hB.step hb
            clear hb hR3 hs4
            go_wp2_with fail
            refine (works10_any _).mono ?_; rintro e w6 ⟨rfl, hb⟩
            replace hB := hB.step hb
            clear hb
            go_wp2
            go_ret
            exact ⟨rfl, hB⟩
set_option maxRecDepth 100000 in
theorem frameCuts_any (ss : List ByteArray) (m : Nat) (cut : Nat) (hm : m < 18446744073709551616) (hcut : cut < 65536) (v : Value) (w : World) (hv : Rd w v (ss.map Value.string)) (hsz : ∀ s ∈ ss, s.size ≤ maxLen) :
    Calls Try.prog 6 #[v, .int .u64 m, .int .u16 cut] w fun e w' => e = .returned (.bool true) ∧ Below w.heap.size w w' := by
  by_cases hall : ss.length ≤ 30 ∧ 1 ≤ m ∧ m ≤ 4611686018427387904
  · exact frameCuts_ok ss m cut hall.2.1 hall.2.2 hcut hall.1 v w hv hsz
  obtain ⟨p, c, rfl, h2, h3, h4⟩ := hv
  rw [List.length_map] at *
  unfold maxLen at h3
  have hcases : (30 < ss.length) ∨ (¬ 30 < ss.length ∧ m = 0) ∨ (¬ 30 < ss.length ∧ m ≠ 0 ∧ 4611686018427387904 < m) := by omega
  clear h4 hsz hall
  rcases hcases with d1 | ⟨d1, d2⟩ | ⟨d1, d2, d3⟩
  · have f1 : (30 : Int) < ss.length := by omega
    go_enter Try.func6, Try.ntmps6
    go_wp2_with fail
    refine (works10_any _).mono ?_; rintro e w3 ⟨rfl, hb⟩
    go_wp2
    go_ret
    exact ⟨rfl, hb⟩
  · have f1 : ¬ (30 : Int) < ss.length := by omega
    subst d2
    go_enter Try.func6, Try.ntmps6
    go_wp2_with fail
    refine (works10_any _).mono ?_; rintro e w3 ⟨rfl, hb⟩
    go_wp2
    go_ret
    exact ⟨rfl, hb⟩
  · have f1 : ¬ (30 : Int) < ss.length := by omega
    have f2 : ((m : Int) == 0) = false := by rw [beq_eq_false_iff_ne]; omega
    have f3 : (4611686018427387904 : Int) < m := by omega
    have d2' := Lib.hid d2
    clear d2
    go_enter Try.func6, Try.ntmps6
    go_wp2_with fail
    refine (works10_any _).mono ?_; rintro e w3 ⟨rfl, hb⟩
    go_wp2
    go_ret
    exact ⟨rfl, hb⟩
set_option maxRecDepth 100000 in
theorem frameCuts_lifted (os : Os) (started : os.Started) (H : Type) (enc : TypeId × Value → H) :
    ReturnsInHanded {} Try.checked os 6 .any (Rows.frameCutsSpec.pre6 enc Try.prog Try.f6 Rows.frameCutsRow.domain false) (Rows.frameCutsSpec.post enc Try.prog Try.f6 false true false false) := by
  refine returnsInHanded_of_change_sized (C := Try.checked) own started (by kernel_rfl) Try.func6
    (ChangeSpec.witness6 (enc := enc) (C := Try.checked) false ⟨#[], #[.slice none 0 0, .int .u64 0, .int .u16 0], []⟩ 8 (by kernel_rfl) (by kernel_rfl) (by kernel_rfl) (by kernel_rfl)) ?_
  intro W base args ds gs before hval0 hW hcnd hsz0 _
  have hval : ∀ (j : Nat) t v, Try.f6.params[j]? = some t → args[j]? = some v → Value.okWide Try.prog W .any base t v := hval0
  have hsz : (DataW.weightsEach Try.prog (Try.f6.params.toList ++ Rows.frameCutsSpec.plain.varTypes Try.prog) (ds ++ gs)).all (· ≤ reachBytes) = true := hsz0
  have hW' := hW
  obtain ⟨p, q, hA0, hV, rfl, hfz, hnd⟩ := hW
  have hA : DataW.TrodAll enc Try.prog W 0 (fun _ => true) true Try.f6.params.toList args.toList ds p := hA0
  rw [Try.params6] at hA hval hsz
  obtain ⟨v0, vs0, d0, ds0, p0, q0, hargs, rfl, rfl, h0, r0⟩ := trodAll_cons hA
  obtain ⟨v1, vs1, d1, ds1, p1, q1, rfl, rfl, rfl, h1, r1⟩ := trodAll_cons r0
  obtain ⟨v2, vs2, d2, ds2, p2, q2, rfl, rfl, rfl, h2, r2⟩ := trodAll_cons r1
  obtain ⟨rfl, rfl, rfl⟩ := trodAll_nil r2
  obtain rfl : args = #[v0, v1, v2] := by cases args; simp_all
  obtain ⟨rfl, rfl⟩ := trodVars_none hV
  obtain ⟨ss, R0, w0⟩ := rd_strings Try.underlying37 Try.underlying9 (by kernel_rfl) (hval 0 37 v0 rfl rfl) h0
  obtain ⟨m, rfl, rfl, rfl, w1⟩ := open_int Try.underlying22 (hval 1 22 v1 rfl rfl) h1
  have b1 := bounds_u64 w1
  obtain ⟨m, rfl⟩ := Int.eq_ofNat_of_zero_le b1.1
  obtain ⟨cut, rfl, rfl, rfl, w2⟩ := open_int Try.underlying31 (hval 2 31 v2 rfl rfl) h2
  have b2 := bounds_u16 w2
  obtain ⟨cut, rfl⟩ := Int.eq_ofNat_of_zero_le b2.1
  clear hA0 hval0 hsz0
  simp only [List.append_nil] at hW'
  refine ((fun (_ : World) => frameCuts_any ss m cut (by omega) (by omega) v0 W R0 w0) W).mono fun e W' ⟨he, hb⟩ => ?_
  subst he
  exact ⟨_, rfl, law_post 4 Try.underlying4 (of_decide_eq_true (by kernel_rfl)) rfl rfl hW' rfl hb⟩
/-- THE STATEMENT. -/
theorem frameCuts_holds : Rows.FrameCutsSaid :=
  OpenClaim.holds_of_wide 6 Try.f6 rfl rfl rfl rfl rfl rfl rfl ⟨rfl, rfl, rfl, rfl, rfl⟩ rfl rfl rfl rfl rfl (by kernel_rfl) Try.func6 (by kernel_rfl)
    (of_decide_eq_true (by kernel_rfl)) (by unfold Func.isWrapper; first | (rw [if_pos (by decide +kernel)]; kernel_rfl) | (rw [if_neg (by decide +kernel)]; exact ⟨rfl, rfl⟩))
    (fun os started H enc _ => frameCuts_lifted os started H enc)
end Go.Proofs.Ytfejjjbcloiddaa
