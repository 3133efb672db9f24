/-
  Lists of texts: the document's Scan, and whether two lists are the same.
-/
import Derived.Test.YtfejjjbcloiddaaRef10
import Derived.Test.YtfejjjbcloiddaaScan
import Derived.Test.YtfejjjbcloiddaaRd
import Derived.Deep.QuietTactic
import Derived.BigQuiet
namespace Go.Proofs.Ytfejjjbcloiddaa
open Go.RowKit
set_option maxRecDepth 100000 in
set_option maxHeartbeats 1000000 in
theorem texts_same (L : List (List UInt8)) (v v' : Value) (w : World) (h : Rd w v (strV L)) (h' : Rd w v' (strV L)) : Calls Try.prog 14 #[v, v'] w fun e w' => e = .returned (.bool true) ∧ Below w.heap.size w w' := by
  obtain ⟨p, c, rfl, h2, h3, h4⟩ := h
  obtain ⟨p', c', rfl, h2', h3', h4'⟩ := h'
  rw [strV_length] at *
  unfold maxLen at h3 h3'
  by_cases hL : L = []
  · subst hL
    clear h4 h4'
    go_enter Try.func14, Try.ntmps14
    go_wp2
    go_loopw [5] (fun iv wr => iv = .int .i64 0 ∧ wr = w) (fun _ _ => 0)
    case atStart => exact ⟨rfl, rfl⟩
    case round =>
      obtain ⟨rfl, rfl⟩ := hrel
      go_wp2
      go_ret
      exact ⟨rfl, Below.refl _ _⟩
  have hne : strV L ≠ [] := by intro e; apply hL; unfold strV at e; simpa using e
  obtain ⟨g, o, rfl, e2, e3⟩ := h4 hne
  obtain ⟨g', o', rfl, e2', e3'⟩ := h4' hne
  have HL := Lib.hid hL
  clear h4 h4' hL hne
  have E3 := Lib.hid e3
  have E3' := Lib.hid e3'
  clear e3 e3'
  go_enter Try.func14, Try.ntmps14
  go_wp2
  go_loopw [5] (fun iv wr => ∃ k : Nat, k ≤ L.length ∧ iv = .int .i64 k ∧ Below w.heap.size w wr) (fun iv _ => L.length - (intOf iv).toNat)
  case atStart => exact ⟨0, by omega, rfl, Below.refl _ _⟩
  case round =>
    obtain ⟨k, hk, rfl, hB⟩ := hrel
    by_cases hlt : k < L.length
    · have hlt' : k < (strV L).length := by rw [strV_length]; exact hlt
      have c1 := (hB.cell (p := ⟨g, o + k, none⟩) e2).trans (E3.out k hlt')
      have c2 := (hB.cell (p := ⟨g', o' + k, none⟩) e2').trans (E3'.out k hlt')
      have hv : (strV L)[k] = .string ⟨(L[k]).toArray⟩ := by simp [strV]
      rw [hv] at c1 c2
      clear hv hlt'
      generalize L[k] = t at *
      have k0 : (0 : Int) ≤ k := by omega
      have kl : (k : Int) < L.length := by omega
      go_wp2
      go_quiet (fail)
      go_wp2
      go_roundw
      case rel => exact ⟨k + 1, by omega, by go_num, ⟨hB.os, hB.tape, hB.output, hB.size, hB.block⟩⟩
      case measure => simp [intOf]; omega
    · go_wp2
      go_ret
      exact ⟨rfl, hB⟩
def ScanPost (l : List (List UInt8)) (err : Int) (w : World) (e : Ending) (w' : World) : Prop := ∃ v, e = .returned (.tuple #[v, .int .i64 (PFrm.used l), .int .i64 err]) ∧ Sl w' w.heap.size 9 1 v l.length (strV l) ∧ Below w.heap.size w w'
theorem scanPost_mk {pre : List (List UInt8)} {e : Int} {w w' : World} {v : Value} {U : Int} (hu : PFrm.used pre = U) (h : Sl w' w.heap.size 9 1 v pre.length (strV pre)) (hb : Below w.heap.size w w') : ScanPost pre e w (.returned (.tuple #[v, .int .i64 U, .int .i64 e])) w' :=
  ⟨v, by rw [hu], h, hb⟩
theorem map_pair (pre : List (List UInt8)) : (pre.map (fun x => (x, (0 : Int)))).map (·.1) = pre := by
  rw [List.map_map]; exact List.map_id' pre
set_option maxRecDepth 100000 in
set_option maxHeartbeats 2000000 in
theorem rscan_any (s : ByteArray) (m : Nat) (hm : m < 18446744073709551616) (hs : s.size ≤ 1000000) (w : World) : Calls Try.prog 13 #[.string s, .int .u64 m] w (ScanPost (PFrm.texts (PFrm.items (s.size + 1) s.data.toList m)) (PFrm.err (PFrm.items (s.size + 1) s.data.toList m)) w) := by
  have hls := Lib.hid (list_size s)
  go_enter Try.func13, Try.ntmps13
  go_wp2
  go_loopw [7, 8] (fun lv uv wr => ∃ (pre : List (List UInt8)) (k f : Nat), uv = .int .i64 k ∧ Hid (PFrm.used pre = k) ∧ pre.length ≤ k ∧ k ≤ s.size ∧ Hid (PFrm.items (s.size + 1) s.data.toList m = pre.map (·, 0) ++ PFrm.items f (s.data.toList.drop k) ((m + k) % 18446744073709551616)) ∧ s.size - k < f ∧ Sl wr w.heap.size 9 1 lv pre.length (strV pre) ∧ Below w.heap.size w wr) (fun _ uv _ => s.size - (intOf uv).toNat)
  case atStart => exact ⟨[], 0, s.size + 1, rfl, Lib.hid rfl, by simp, by omega, Lib.hid (by simp [Nat.mod_eq_of_lt hm]), by omega, Sl.nil _ _ _ _, Below.refl _ _⟩
  case round =>
    obtain ⟨pre, k, f, rfl, hu, hpl, hk, hit, hf, hSl, hB⟩ := hrel
    by_cases hlt : k < s.size
    · obtain ⟨f, rfl⟩ : ∃ f', f = f' + 1 := ⟨f - 1, by omega⟩
      obtain ⟨q, hq⟩ : ∃ q, q = (m + k) % 18446744073709551616 := ⟨_, rfl⟩
      have hql : q < 18446744073709551616 := by rw [hq]; exact Nat.mod_lt _ (by decide)
      rw [← hq] at hit
      have hwr : IntKind.u64.wrap ((m : Int) + k) = q := by
        have : IntKind.u64.wrap ((m : Int) + k) = ((m : Int) + k) % 18446744073709551616 := rfl
        rw [this, hq]; omega
      have hq' := Lib.hid hq
      clear hq
      have hwk : IntKind.u64.wrap (k : Int) = k := by
        have : IntKind.u64.wrap (k : Int) = (k : Int) % 18446744073709551616 := rfl
        rw [this]; omega
      have hez : (s.extract k s.size).size = s.size - k := by rw [ByteArray.size_extract]; omega
      have hed : (s.extract k s.size).data.toList = s.data.toList.drop k := by rw [extract_end]
      have hdec := rdecode_any (s.extract k s.size) q hql (by rw [hez]; unfold maxLen; omega)
      rw [hed] at hdec
      obtain ⟨t1, n1, c1, hd⟩ : ∃ t1 n1 c1, PFrm.decode (s.data.toList.drop k) q = (t1, n1, c1) := ⟨_, _, _, rfl⟩
      have hdl : (s.data.toList.drop k).length = s.size - k := by rw [List.length_drop, hls.out]
      by_cases hc : c1 = 0
      · subst hc
        obtain ⟨j, hj, hj1, hj2, hj3, hj4, hj5⟩ := PFrm.decode_ok (s.data.toList.drop k) q (by rw [hd])
        have hstep := Lib.hid (PFrm.items_ok f _ _ (by omega) (by rw [hd] : (PFrm.decode (s.data.toList.drop k) q).2.2 = 0))
        rw [hd] at hj hj1 hstep hdec
        dsimp only at hj hj1 hstep hdec
        subst hj
        rw [hdl] at hj4
        have hj1' := Lib.hid hj1
        have hdec' := Lib.hid hdec
        have hez' := Lib.hid hez
        have hed' := Lib.hid hed
        clear hd hdl hj1 hdec hez hed
        go_wp2_with fail
        refine (hdec'.out _).mono ?_; rintro e w1 ⟨rfl, hb⟩
        have hSl1 := hSl.keep fun g hg => hb.block g (hSl.lt g hg).2
        have hB1 := hB.step hb
        clear hb hSl hB
        have hww : IntKind.i64.wrap ((k : Int) + ((14 + j : Nat) : Int)) = ((k + (14 + j) : Nat) : Int) := by rw [IntWalk.i64_in _ (by omega)]; omega
        go_wp2_with (at_builtin; (with_reducible apply wpList_append_sl elem_str (hSl1.alloc _) [_]); (· rfl); (· rfl); (· rfl); (· rfl); (· rfl); (· exact news_alloc _ [_] _ _); (· intro u hu; simp at hu; subst hu; rfl); (· unfold maxLen; omega); (· omega); (· have := hB1.size; simp; omega); intro v' w2 h1 h2 _ h3)
        have hsz : PFrm.size (t1.length : Int) = 14 + j := by rw [hj1'.out]; unfold PFrm.size; rw [if_neg (by omega)]
        refine ⟨⟨pre ++ [t1], k + (14 + j), f, by rw [show ((k : Int) + (14 + (j : Int))) = ((k + (14 + j) : Nat) : Int) by omega], Lib.hid ?_, by simp; omega, by omega, Lib.hid ?_, by omega, ?_, ?_⟩, by simp [intOf]; omega⟩
        · rw [PFrm.used_snoc, hu.out, hsz]; omega
        · rw [hit.out, hstep.out, List.map_append, List.append_assoc, List.drop_drop, Int.toNat_natCast]
          rw [hq'.out, show ((m + k) % 18446744073709551616 + (14 + j)) % 18446744073709551616 = (m + (k + (14 + j))) % 18446744073709551616 by omega]
          rfl
        · rw [List.length_append, List.length_singleton]
          have e2 : strV (pre ++ [t1]) = strV pre ++ [.string ⟨t1.toArray⟩] := by simp [strV]
          rw [e2]
          exact h1
        · exact (hB1.alloc hB1.size _).grown h2 (by have := hB1.size; simp; omega) (fun k hk => (hSl1.lt k hk).1)
      · have hstep := Lib.hid (PFrm.items_bad f _ _ (by omega) (by rw [hd]; exact hc : (PFrm.decode (s.data.toList.drop k) q).2.2 ≠ 0))
        rw [hd] at hstep hdec
        dsimp only at hstep hdec
        have hc' : (c1 != 0) = true := by simpa using hc
        have hcH := Lib.hid hc
        have hdec' := Lib.hid hdec
        have hez' := Lib.hid hez
        have hed' := Lib.hid hed
        clear hd hdl hdec hez hed hc
        go_wp2_with fail
        refine (hdec'.out _).mono ?_; rintro e w1 ⟨rfl, hb⟩
        have hSl1 := hSl.keep fun g hg => hb.block g (hSl.lt g hg).2
        have hB1 := hB.step hb
        clear hb hSl hB
        go_wp2
        go_ret3
        rw [hit.out, hstep.out, PFrm.texts_stop _ _ _ hcH.out (by simp), PFrm.err_stop]
        rw [map_pair]
        exact scanPost_mk hu.out hSl1 hB1
    · have hks : k = s.size := by omega
      have hz := PFrm.items_zero f (s.data.toList.drop k) ((m + k) % 18446744073709551616) (by rw [List.length_drop, hls.out]; omega)
      have hfin : Hid (PFrm.items (s.size + 1) s.data.toList m = pre.map (·, 0)) := Lib.hid (by rw [hit.out, hz, List.append_nil])
      clear hz hit
      have hnl : ¬ (k : Int) < s.size := by omega
      clear hks hlt
      go_wp2
      go_ret3
      rw [hfin.out, PFrm.texts_ok _ (by simp), PFrm.err_ok _ (by simp)]
      rw [map_pair]
      exact scanPost_mk hu.out hSl hB
end Go.Proofs.Ytfejjjbcloiddaa
