/-
  Twin, the law's rows: plays.
-/
import Derived.Test.YtdkhmhlphhammaaTwRj
import Derived.Handy
namespace PTwin
def atOf : Cal → Int
  | .wr k _ => k
  | .sy => -1
def sOf : Cal → List UInt8
  | .wr _ s => s
  | .sy => []
def putC (S : List (List UInt8)) : Cal → List (List UInt8)
  | .wr k s => S.set k s
  | .sy => S
def playsC (S : List (List UInt8)) (cs : List Cal) : List (List UInt8) := cs.foldl putC S
theorem playsC_succ (S : List (List UInt8)) (cs : List Cal) (i : Nat) (h : i < cs.length) : playsC S (cs.take (i + 1)) = putC (playsC S (cs.take i)) cs[i] := by
  unfold playsC
  rw [List.take_succ_eq_append_getElem h, List.foldl_append]
  rfl
theorem putC_length (S : List (List UInt8)) (c : Cal) : (putC S c).length = S.length := by cases c <;> simp [putC]
theorem playsC_length (cs : List Cal) : ∀ S, (playsC S cs).length = S.length := by
  induction cs with
  | nil => intro S; rfl
  | cons c cs ih => intro S; exact (ih (putC S c)).trans (putC_length S c)
theorem playsC_wrs (ws : List (Nat × List UInt8)) : ∀ S, playsC S (wrs ws) = put S ws := by
  induction ws with
  | nil => intro S; rfl
  | cons p ws ih => intro S; exact ih (PDsk.keep S p)
theorem playsC_append (S : List (List UInt8)) (cs ds : List Cal) : playsC S (cs ++ ds) = playsC (playsC S cs) ds := by unfold playsC; rw [List.foldl_append]
end PTwin
namespace Go.Proofs.Ytdkhmhlphhammaa
open Go.RowKit
open PTwin (Hm Cal)
theorem callV_eq (c : Cal) : callV c = [.int .i64 (PTwin.atOf c), .string ⟨(PTwin.sOf c).toArray⟩] := by cases c <;> rfl
theorem callsV_at (cs : List Cal) : ∀ i (h : i < cs.length), (callsV cs)[i * 2]? = some (.int .i64 (PTwin.atOf cs[i])) ∧ (callsV cs)[i * 2 + 1]? = some (.string ⟨(PTwin.sOf cs[i]).toArray⟩) := by
  induction cs with
  | nil => intro i h; simp at h
  | cons c cs ih =>
    intro i h
    have e : callsV (c :: cs) = .int .i64 (PTwin.atOf c) :: .string ⟨(PTwin.sOf c).toArray⟩ :: callsV cs := by
      show callV c ++ callsV cs = _
      rw [callV_eq]
      rfl
    cases i with
    | zero => rw [e]; exact ⟨rfl, rfl⟩
    | succ i =>
      have := ih i (by simpa using h)
      rw [e, show (i + 1) * 2 = i * 2 + 1 + 1 by omega]
      exact this
theorem call_cells {w : World} {p : Option Addr} {n c : Nat} {cs : List Cal} (hn : cs.length = n) (h : RdS w 2 (.slice p n c) n (callsV cs)) {i : Nat} (hi : i < cs.length) :
    ∃ g off, p = some ⟨g, off, none⟩ ∧ g < w.heap.size ∧ w.cell? ⟨g, off + i * 2, none⟩ = some (.int .i64 (PTwin.atOf cs[i])) ∧ w.cell? ⟨g, off + i * 2 + 1, none⟩ = some (.string ⟨(PTwin.sOf cs[i]).toArray⟩) := by
  obtain ⟨g, off, rfl, hg, hc⟩ := RdS.at h (by omega)
  obtain ⟨h0, h1⟩ := callsV_at cs i hi
  obtain ⟨l0, e0⟩ := List.getElem?_eq_some_iff.1 h0
  obtain ⟨l1, e1⟩ := List.getElem?_eq_some_iff.1 h1
  exact ⟨g, off, rfl, hg, by rw [hc _ l0, e0], by rw [Nat.add_assoc, hc _ l1, e1]⟩
theorem secV_set (S : List (List UInt8)) (k : Nat) (s : List UInt8) : secV (S.set k s) = (secV S).set k (.string ⟨s.toArray⟩) := by simp [secV, List.map_set]
theorem RdS.of_rd {w : World} {v : Value} {xs : List Value} (h : Rd w v xs) : RdS w 1 v xs.length xs := by
  obtain ⟨p, c, h1, h2, h3, h4⟩ := h
  exact ⟨by simp, p, c, h1, h2, h3, fun hn => h4 (by intro e; subst e; exact hn rfl)⟩
set_option maxRecDepth 20000 in
set_option maxHeartbeats 4000000 in
theorem plays_any (w : World) (S : List (List UInt8)) (cs : List Cal) (u v : Value) (h1 : 1 ≤ S.length) (hm : S.length ≤ 16384) (hl : cs.length ≤ 1000) (hok : ∀ c ∈ cs, PTwin.atOf c < S.length) (hu : Rd w u (secV S)) (hv : RdS w 2 v cs.length (callsV cs)) :
    Calls Try.prog 16 #[u, v] w fun e w' => ∃ x, e = .returned x ∧ Sl w' w.heap.size 9 1 x S.length (secV (PTwin.playsC S cs)) ∧ Below w.heap.size w w' := by
  have hlv : (secV S).length = S.length := by simp [secV]
  have HU := Lib.hid (RdS.of_rd hu)
  obtain ⟨pu, cu, rfl, hcu, hmu, _⟩ := hu
  have HV := Lib.hid hv
  obtain ⟨pv, cv, rfl, hcv, hmv⟩ := RdS.form hv
  rw [hlv] at HU hcu ⊢
  have HOK := Lib.hid hok
  have HONE : Hid (∀ u ∈ secV S, u.oneCell' = true) := Lib.hid (by
    intro u hu
    obtain ⟨x, _, rfl⟩ := List.mem_map.1 hu
    rfl)
  obtain ⟨N, hN⟩ : ∃ N, S.length = N := ⟨_, rfl⟩
  obtain ⟨C, hC⟩ : ∃ C, cs.length = C := ⟨_, rfl⟩
  have HNL := Lib.hid hN
  have HCL := Lib.hid hC
  rw [hN] at HU hcu h1 hm HOK ⊢
  rw [hC] at HV hcv hl ⊢
  unfold maxLen at hmu hmv
  clear hlv hv hok hN hC
  go_enter Try.func16, Try.ntmps16
  go_wp2_with (at_builtin; (with_reducible refine wpList_append_nils elem_strs14 HU.out rfl rfl rfl rfl HONE.out (by omega) ?_); intro v' w1 g1 g2)
  have HS1 := Lib.hid g1
  have HB1 := Lib.hid g2
  obtain ⟨gq, oq, cq, rfl⟩ := Sl.some g1 (by omega)
  clear g1 g2 HONE
  go_wp2
  go_loopw [6] (fun iv wr => ∃ i : Nat, i ≤ C ∧ iv = .int .i64 i ∧ Hid (Sl wr w.heap.size 9 1 (.slice (some ⟨gq, oq, none⟩) N cq) N (secV (PTwin.playsC S (cs.take i)))) ∧ Hid (Below w.heap.size w wr)) (fun iv _ => C - (intOf iv).toNat)
  case atStart => exact ⟨0, by omega, rfl, HS1, HB1⟩
  case round =>
    clear HS1 HB1
    obtain ⟨i, hi, rfl, HS, HB⟩ := hrel
    by_cases hlt : i < C
    · have q1 : (i : Int) < C := by omega
      have i0 : (0 : Int) ≤ i := by omega
      have hlc : i < cs.length := by rw [HCL.out]; exact hlt
      obtain ⟨gv, ov, hpv, hgv, c0, c1⟩ := call_cells HCL.out (HV.out.step HB.out) hlc
      subst hpv
      have HNX := Lib.hid (PTwin.playsC_succ S cs i hlc)
      have hat := HOK.out _ (List.getElem_mem hlc)
      have HLT := Lib.hid hlt
      cases hc : cs[i] with
      | wr k s =>
        rw [hc] at HNX c0 c1 hat
        have hk : k < N := by
          have : ((k : Nat) : Int) < N := hat
          omega
        have k0 : (0 : Int) ≤ k := by omega
        have k1 : (k : Int) < N := by omega
        have c0' : wr.cell? ⟨gv, ov + i * 2, none⟩ = some (.int .i64 k) := c0
        obtain ⟨y, hy⟩ : ∃ y : ByteArray, (⟨s.toArray⟩ : ByteArray) = y := ⟨_, rfl⟩
        have c1' : wr.cell? ⟨gv, ov + i * 2 + 1, none⟩ = some (.string y) := by rw [← hy]; exact c1
        have hlx : k < (secV (PTwin.playsC S (cs.take i))).length := by
          unfold secV
          rw [List.length_map, PTwin.playsC_length, HNL.out]
          exact hk
        have hcl := HS.out.cell hlx
        have hfz : wr.frozen? ⟨gq, oq + k, none⟩ = false := HS.out.unshut (by omega)
        obtain ⟨z, hz⟩ : ∃ z, (secV (PTwin.playsC S (cs.take i)))[k] = z := ⟨_, rfl⟩
        rw [hz] at hcl
        have HSN : Hid (∀ n, Sl ((wr.drewN n).setCell ⟨gq, oq + k, none⟩ (.string y)) w.heap.size 9 1 (.slice (some ⟨gq, oq, none⟩) N cq) N (secV (PTwin.playsC S (cs.take (i + 1))))) := Lib.hid (fun n => by
          have hS : Sl (wr.drewN n) w.heap.size 9 1 (.slice (some ⟨gq, oq, none⟩) N cq) N (secV (PTwin.playsC S (cs.take i))) := HS.out
          have := hS.set (j := k) (by omega) (.string y)
          rw [HNX.out]
          show Sl _ _ _ _ _ _ (secV ((PTwin.playsC S (cs.take i)).set k s))
          rw [secV_set, hy]
          exact this)
        have hgq := (HS.out.lt gq rfl).1
        have HBN : Hid (∀ n, Below w.heap.size w ((wr.drewN n).setCell ⟨gq, oq + k, none⟩ (.string y))) := Lib.hid (fun n => (below_drewN14 HB.out n).setCell hgq _)
        clear c0 c1 hat hc hy hz hlx HNX HS HB hlt hlc hgv hk
        go_wp2
        go_region_law (fail)
        all_goals (
          go_wp2
          exact ⟨⟨i + 1, by have := HLT.out; omega, by go_num, Lib.hid (HSN.out 1), Lib.hid (HBN.out 1)⟩, by have := HLT.out; simp [intOf]; omega⟩)
      | sy =>
        rw [hc] at HNX c0
        have c0' : wr.cell? ⟨gv, ov + i * 2, none⟩ = some (.int .i64 (-1)) := c0
        have HSN : Hid (Sl wr w.heap.size 9 1 (.slice (some ⟨gq, oq, none⟩) N cq) N (secV (PTwin.playsC S (cs.take (i + 1))))) := Lib.hid (by rw [HNX.out]; exact HS.out)
        have HBN := Lib.hid HB.out
        clear c0 c1 hat hc HNX HS HB hlt hlc hgv
        go_wp2
        exact ⟨⟨i + 1, by have := HLT.out; omega, by go_num, HSN, HBN⟩, by have := HLT.out; simp [intOf]; omega⟩
    · obtain rfl : i = C := by omega
      have q1 : ¬ (i : Int) < i := by omega
      have HSF : Hid (Sl wr w.heap.size 9 1 (.slice (some ⟨gq, oq, none⟩) N cq) N (secV (PTwin.playsC S cs))) := Lib.hid (by
        have := HS.out
        rw [List.take_of_length_le (by rw [HCL.out]; omega)] at this
        exact this)
      clear hlt hi HS
      go_wp2
      go_ret
      exact ⟨_, rfl, HSF.out, HB.out⟩
end Go.Proofs.Ytdkhmhlphhammaa
