/-
  Twin: may: each page of its size, none twice, its home the disk's and apart from the area.
-/
import Derived.Test.YtdkhmhlphhammaaTwM
import Derived.Maps.Own
import Derived.Maps.Views
namespace Go.Proofs.Ytdkhmhlphhammaa
open Go.RowKit
open Go.Maps (Keyed)
open PTwin (Hm)
def seenM (ps : List Nat) : DataW Unit := ps.foldl (fun D (p : Nat) => D.put (.int .u32 p) (.lit (.bool true))) (.map [])
theorem seenM_snoc (ps : List Nat) (p : Nat) : seenM (ps ++ [p]) = (seenM ps).put (.int .u32 p) (.lit (.bool true)) := by simp [seenM]
theorem isMap_fold (ps : List Nat) : ∀ D : DataW Unit, Maps.IsMap D → Maps.IsMap (ps.foldl (fun D (p : Nat) => D.put (.int .u32 p) (.lit (.bool true))) D) := by
  induction ps with
  | nil => intro D h; exact h
  | cons q ps ih => intro D h; exact ih _ (h.put _ _)
theorem seen_fold (p : Nat) (ps : List Nat) : ∀ (D : DataW Unit) (x : Bool), Maps.IsMap D → D.atKey (.int .u32 p) (.lit (.bool false)) = .lit (.bool x) → (ps.foldl (fun D (p : Nat) => D.put (.int .u32 p) (.lit (.bool true))) D).atKey (.int .u32 p) (.lit (.bool false)) = .lit (.bool (x || ps.contains p)) := by
  induction ps with
  | nil => intro D x _ h; simpa using h
  | cons q ps ih =>
    intro D x hm h
    by_cases e : p = q
    · subst e
      have := ih (D.put (.int .u32 p) (.lit (.bool true))) true (hm.put _ _) (Maps.atKey_put_same hm (show WideAt.IsKeyLit (.int .u32 p) from trivial) _ _)
      rw [List.foldl_cons, this]
      simp
    · have h2 : (D.put (.int .u32 q) (.lit (.bool true))).atKey (.int .u32 p) (.lit (.bool false)) = .lit (.bool x) := by
        rw [Maps.atKey_put_other (by intro e2; injection e2 with _ e3; exact e (by omega))]
        exact h
      have := ih _ x (hm.put _ _) h2
      rw [List.foldl_cons, this]
      simp [e]
theorem seenM_at (ps : List Nat) (p : Nat) : (seenM ps).atKey (.int .u32 p) (.lit (.bool false)) = .lit (.bool (ps.contains p)) := by
  have := seen_fold p ps (.map []) false ⟨[], rfl⟩ rfl
  simpa [seenM] using this
theorem wf_u32n {p : Nat} (hp : p < 4294967296) : (Lit.int .u32 p).wf = true := by
  exact WalkArith.wf_u32 (by omega)
theorem seen_look {W : World} {B k : Nat} {ps : List Nat} (h : W.ownsMap Try.prog 32 (plainElem (H := Unit) Try.prog 4) B k (seenM ps)) (p : Nat) (hp : p < 4294967296) : (Instr.lookup 97 (.map (some B)) (.int .u32 p) false).run Try.prog W = .ok (.bool (ps.contains p)) W := by
  obtain ⟨v, q, hrun, hv⟩ := h.lookup (Maps.int_keyed Try.underlying32) Try.underlying97 (e := 4) (z := .bool false) (by kernel_rfl) (plainElem_bool Try.underlying4 false) (Maps.keyOf_int_mk Try.underlying32 (wf_u32n hp))
  rw [seenM_at] at hv
  rw [hrun]
  unfold plainElem at hv
  rw [Try.underlying4] at hv
  cases v <;> simp at hv
  rw [hv.1]
  simp
theorem fit_step (n a base : Nat) (seen : List Nat) (l : List Hm) (k : Nat) (h : k < l.length) : PTwin.fit n a base seen (l.drop k) = if l[k].bytes.length ≠ 512 ∨ seen.contains l[k].page = true ∨ PTwin.inside n a base l[k].page = false then false else PTwin.fit n a base (seen ++ [l[k].page]) (l.drop (k + 1)) := by
  rw [List.drop_eq_getElem_cons h]; rfl
set_option maxRecDepth 20000 in
set_option maxHeartbeats 4000000 in
theorem may_any' {b : Nat} {D : PDsk.Dsk} {own : List Nat} (w : World) (h : IsDisk w b D own) (a base : Nat) (ha : a ≤ 100000) (hb : base ≤ 100000) (l : List Hm) (v : Value) (hl : l.length ≤ 1000) (hp : ∀ h ∈ l, h.page < 4294967296) (hi : HomeIn w v l) :
    Calls Try.prog 37 #[.pointer (some ⟨b, 0, none⟩), .int .i64 a, .int .i64 base, v] w fun e w' => e = .returned (.bool (PTwin.may D.sure.length a base l)) ∧ Below w.heap.size w w' := by
  have hmm := @run_makeMap Try.prog
  obtain ⟨pv, cv, rfl, hcv, hcm⟩ := RdS.form hi
  have HIN := Lib.hid hi
  have HP := Lib.hid hp
  have HD := Lib.hid h
  have HAB : Hid (a ≤ 100000 ∧ base ≤ 100000) := Lib.hid ⟨ha, hb⟩
  obtain ⟨n, hn⟩ : ∃ n, n = D.sure.length := ⟨_, rfl⟩
  have HNN := Lib.hid hn
  rw [← hn]
  have HM0 : Hid ((w.alloc (.map #[] 0)).ownsMap Try.prog 32 (plainElem (H := Unit) Try.prog 4) w.heap.size 0 (seenM [])) := Lib.hid (show World.ownsMap _ _ _ _ _ _ (DataW.map []) from World.ownsMap_made _ _ _ _)
  have HB0 := Lib.hid ((Below.refl w.heap.size w).alloc (Nat.le_refl _) (.map #[] 0))
  unfold maxLen at hcm
  clear hi hp h hn ha hb
  go_enter Try.func37, Try.ntmps37
  go_wp2
  go_loopw [15] (fun iv wr => ∃ (k : Nat) (ps : List Nat), k ≤ l.length ∧ iv = .int .i64 k ∧ Hid (PTwin.fit n a base [] l = PTwin.fit n a base ps (l.drop k)) ∧ Hid (wr.ownsMap Try.prog 32 (plainElem (H := Unit) Try.prog 4) w.heap.size k (seenM ps)) ∧ Hid (Below w.heap.size w wr)) (fun iv _ => l.length - (intOf iv).toNat)
  case atStart => exact ⟨0, [], by omega, rfl, Lib.hid rfl, HM0, HB0⟩
  case round =>
    clear HM0 HB0 hmm
    obtain ⟨k, ps, hk, rfl, HF, HM, HB⟩ := hrel
    by_cases hlt : k < l.length
    · have i1 : (k : Int) < l.length := by omega
      have k0 : (0 : Int) ≤ k := by omega
      obtain ⟨g, off, rfl, hg, c0, c1⟩ := home_cells (l := l) (c := cv) (p := pv) (show HomeIn wr _ l from RdS.step HIN.out HB.out) hlt
      have hp4 := HP.out _ (List.getElem_mem hlt)
      have hfs := fit_step n a base ps l k hlt
      obtain ⟨p, hpp⟩ : ∃ p, l[k].page = p := ⟨_, rfl⟩
      obtain ⟨B, hBB⟩ : ∃ B : ByteArray, (⟨l[k].bytes.toArray⟩ : ByteArray) = B := ⟨_, rfl⟩
      have hBs : B.size = l[k].bytes.length := by rw [← hBB]; rfl
      rw [← hBs, hpp] at hfs
      rw [hpp] at c0 hp4
      rw [hBB] at c1
      have HF2 : Hid (PTwin.fit n a base [] l = if B.size ≠ 512 ∨ ps.contains p = true ∨ PTwin.inside n a base p = false then false else PTwin.fit n a base (ps ++ [p]) (l.drop (k + 1))) := Lib.hid (HF.out.trans hfs)
      have HLT := Lib.hid hlt
      have HBo := Lib.hid (HB.out.alloc HB.out.size (.cells #[.int .u32 p, .string B] 34))
      have HMo := Lib.hid (HM.out.alloc (.cells #[.int .u32 p, .string B] 34))
      have hlk := seen_look HMo.out p hp4
      have HDo : Hid (IsDisk (wr.alloc (.cells #[.int .u32 p, .string B] 34)) b D own) := Lib.hid (HD.out.below HBo.out)
      clear hpp hBB hlt hBs hfs HF HM HB
      by_cases hs : B.size = 512
      · have hs1 : ((B.size : Int) != 512) = false := by simp; omega
        cases hc : ps.contains p
        · rw [hc] at hlk
          have HIS := Lib.hid (inside_any _ HDo.out a base p HAB.out.1 HAB.out.2 hp4)
          cases hin : PTwin.inside D.sure.length a base p
          · rw [hin] at HIS
            have HF3 : Hid (PTwin.fit n a base [] l = false) := Lib.hid (by rw [HF2.out, if_pos (.inr (.inr (by rw [HNN.out]; exact hin)))])
            clear hs hc hin HF2
            go_wp2_with fail
            refine HIS.out.mono ?_
            rintro e w2 ⟨rfl, rfl⟩
            go_wp2
            go_ret
            refine ⟨?_, HBo.out⟩
            unfold PTwin.may
            rw [HF3.out]
            rfl
          · rw [hin] at HIS
            have HF3 : Hid (PTwin.fit n a base [] l = PTwin.fit n a base (ps ++ [p]) (l.drop (k + 1))) := Lib.hid (by rw [HF2.out, if_neg (by rw [hc, HNN.out, hin]; simp [hs])])
            have hkk : k < 1000 := by have := HLT.out; omega
            clear hs hc hin HF2
            go_wp2_with fail
            refine HIS.out.mono ?_
            rintro e w2 ⟨rfl, rfl⟩
            go_wp2_with (at_mapUpdate; refine wpList_mapUpdate_own _ rfl _ _ _ 97 rfl 32 4 (Maps.int_keyed Try.underlying32) Try.underlying97 (plainElem (H := Unit) Try.prog 4) _ k _ rfl HMo.out (by unfold maxLen; omega) _ _ (.int .u32 p) rfl rfl (Maps.keyOf_int_mk Try.underlying32 (wf_u32n hp4)) _ [] (plainElem_bool Try.underlying4 true) ?_; intro w3 hown hgrow; have HMN := Lib.hid hown; have HGN := Lib.hid hgrow; clear hown hgrow)
            have HMN2 : Hid (w3.ownsMap Try.prog 32 (plainElem (H := Unit) Try.prog 4) w.heap.size (k + 1) (seenM (ps ++ [p]))) := Lib.hid (by rw [seenM_snoc]; exact HMN.out)
            have HBN : Hid (Below w.heap.size w w3) := Lib.hid (HBo.out.grown HGN.out HBo.out.size (fun j e => by cases e; exact Nat.le_refl _))
            clear HMN HGN HIS
            go_wp2
            exact ⟨⟨k + 1, _, by have := HLT.out; omega, by go_num, HF3, HMN2, HBN⟩, by have := HLT.out; simp [intOf]; omega⟩
        · rw [hc] at hlk
          have HF3 : Hid (PTwin.fit n a base [] l = false) := Lib.hid (by rw [HF2.out, if_pos (.inr (.inl hc))])
          clear hs hc HF2
          go_wp2
          go_ret
          refine ⟨?_, HBo.out⟩
          unfold PTwin.may
          rw [HF3.out]
          rfl
      · have hs1 : ((B.size : Int) != 512) = true := by simp; omega
        have HF3 : Hid (PTwin.fit n a base [] l = false) := Lib.hid (by rw [HF2.out, if_pos (.inl hs)])
        clear hs HF2
        go_wp2
        go_ret
        refine ⟨?_, HBo.out⟩
        unfold PTwin.may
        rw [HF3.out]
        rfl
    · obtain rfl : k = l.length := by omega
      have i1 : ¬ (l.length : Int) < l.length := by omega
      have HF3 : Hid (PTwin.fit n a base [] l = true) := Lib.hid (by rw [HF.out, List.drop_length]; rfl)
      have HMY : Hid (PTwin.may n a base l = (decide (1 ≤ l.length) && decide (l.length ≤ 8))) := Lib.hid (by unfold PTwin.may; rw [HF3.out]; rfl)
      by_cases h1 : 1 ≤ l.length
      · have j1 : (1 : Int) ≤ l.length := by omega
        by_cases h8 : l.length ≤ 8
        · have j8 : (l.length : Int) ≤ 8 := by omega
          have HE : Hid ((decide (1 ≤ l.length) && decide (l.length ≤ 8)) = true) := Lib.hid (by simp [h1, h8])
          clear h1 h8 hlt hk
          go_wp2
          go_ret
          exact ⟨by rw [HMY.out, HE.out]; rfl, HB.out⟩
        · have j8 : ¬ (l.length : Int) ≤ 8 := by omega
          have HE : Hid ((decide (1 ≤ l.length) && decide (l.length ≤ 8)) = false) := Lib.hid (by simp [h8])
          clear h1 h8 hlt hk
          go_wp2
          go_ret
          exact ⟨by rw [HMY.out, HE.out]; rfl, HB.out⟩
      · have j1 : ¬ (1 : Int) ≤ l.length := by omega
        have HE : Hid ((decide (1 ≤ l.length) && decide (l.length ≤ 8)) = false) := Lib.hid (by simp [h1])
        clear h1 hlt hk
        go_wp2
        go_ret
        exact ⟨by rw [HMY.out, HE.out]; rfl, HB.out⟩
end Go.Proofs.Ytdkhmhlphhammaa
