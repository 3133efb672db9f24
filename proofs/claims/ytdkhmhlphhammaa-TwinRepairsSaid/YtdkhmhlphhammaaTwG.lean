/-
  Twin: the statements' own rows of pages.
-/
import Derived.Test.YtdkhmhlphhammaaTwF
namespace Go.Proofs.Ytdkhmhlphhammaa
open Go.RowKit
open PTwin (Hm Pt)
def putsV (l : List Pt) : List Value := l.flatMap fun p => [.int .u8 p.page, .int .u8 p.c, .int .u8 p.n]
theorem putsV_at : ∀ (l : List Pt) (i : Nat) (h : i < l.length), (putsV l)[i * 3]? = some (.int .u8 l[i].page) ∧ (putsV l)[i * 3 + 1]? = some (.int .u8 l[i].c) ∧ (putsV l)[i * 3 + 2]? = some (.int .u8 l[i].n)
  | x :: l, 0, _ => by simp [putsV]
  | x :: l, i + 1, h => by
    have e : putsV (x :: l) = .int .u8 x.page :: .int .u8 x.c :: .int .u8 x.n :: putsV l := rfl
    rw [e, show (i + 1) * 3 = i * 3 + 1 + 1 + 1 by omega]
    simpa using putsV_at l i (by simpa using h)
def PutIn (w : World) (v : Value) (l : List Pt) : Prop := RdS w 3 v l.length (putsV l)
theorem put_cells {w : World} {p : Option Addr} {c : Nat} {l : List Pt} (h : PutIn w (.slice p l.length c) l) {i : Nat} (hi : i < l.length) :
    ∃ g off, p = some ⟨g, off, none⟩ ∧ g < w.heap.size ∧ w.cell? ⟨g, off + i * 3, none⟩ = some (.int .u8 l[i].page) ∧ w.cell? ⟨g, off + i * 3 + 1, none⟩ = some (.int .u8 l[i].c) ∧ w.cell? ⟨g, off + i * 3 + 2, none⟩ = some (.int .u8 l[i].n) := by
  obtain ⟨g, off, rfl, hg, hc⟩ := RdS.at h (by omega)
  obtain ⟨h0, h1, h2⟩ := putsV_at l i hi
  obtain ⟨l0, e0⟩ := List.getElem?_eq_some_iff.1 h0
  obtain ⟨l1, e1⟩ := List.getElem?_eq_some_iff.1 h1
  obtain ⟨l2, e2⟩ := List.getElem?_eq_some_iff.1 h2
  exact ⟨g, off, rfl, hg, by rw [hc _ l0, e0], by rw [Nat.add_assoc, hc _ l1, e1], by rw [Nat.add_assoc, hc _ l2, e2]⟩
theorem any_take (out : List Hm) (p j y : Nat) (h : j < out.length) (hy : out[j].page = y) : (out.take (j + 1)).any (fun h => decide (h.page = p)) = ((out.take j).any (fun h => decide (h.page = p)) || decide (y = p)) := by
  subst hy
  rw [List.take_succ_eq_append_getElem h, List.any_append]; simp
set_option maxRecDepth 20000 in
set_option maxHeartbeats 8000000 in
theorem pages_any (w : World) (l : List Pt) (v : Value) (hl : l.length ≤ 1000) (hp : ∀ x ∈ l, x.Ok) (h : PutIn w v l) :
    Calls Try.prog 8 #[v] w fun e w' => ∃ u, e = .returned u ∧ Sl w' w.heap.size 34 2 u (PTwin.pagesL l).length (homesV (PTwin.pagesL l)) ∧ Below w.heap.size w w' := by
  obtain ⟨pv, cv, rfl, hcv, hcm⟩ := RdS.form h
  have HIN := Lib.hid h
  have HP := Lib.hid hp
  have HBR := Lib.hid (Below.refl w.heap.size w)
  unfold maxLen at hcm
  clear h hp
  go_enter Try.func8, Try.ntmps8
  go_wp2
  go_loopw [3, 4] (fun uv iv wr => ∃ (k : Nat) (out : List Hm), k ≤ l.length ∧ iv = .int .i64 k ∧ Hid (PTwin.pagesL l = (l.drop k).foldl PTwin.pstep out) ∧ Hid (Sl wr w.heap.size 34 2 uv out.length (homesV out)) ∧ Hid (PTwin.POk out) ∧ Hid (Below w.heap.size w wr)) (fun _ iv _ => l.length - (intOf iv).toNat)
  case atStart => exact ⟨0, [], by omega, rfl, Lib.hid rfl, Lib.hid (Sl.nil _ _ _ _), Lib.hid PTwin.pok_nil, HBR⟩
  case round =>
    clear HBR
    obtain ⟨k, out, hk, rfl, HF, HS, HO, HB⟩ := hrel
    obtain ⟨pu, cu, rfl⟩ := Sl.form HS.out
    have ho8 : out.length ≤ 8 := HO.out.len
    by_cases hlt : k < l.length
    · have i1 : (k : Int) < l.length := by omega
      have k0 : (0 : Int) ≤ k := by omega
      by_cases h8 : out.length < 8
      · have i2 : (out.length : Int) < 8 := by omega
        obtain ⟨g, off, rfl, hg, c0, c1, c2⟩ := put_cells (l := l) (c := cv) (p := pv) (show PutIn wr _ l from RdS.step HIN.out HB.out) hlt
        have hok := HP.out _ (List.getElem_mem hlt)
        obtain ⟨o1, o2, o3⟩ := hok
        have HDR : Hid (PTwin.pagesL l = (l.drop (k + 1)).foldl PTwin.pstep (PTwin.pstep out l[k])) := Lib.hid (by rw [HF.out, List.drop_eq_getElem_cons hlt, List.foldl_cons])
        obtain ⟨P, hP⟩ : ∃ P, l[k] = P := ⟨_, rfl⟩
        rw [hP] at c0 c1 c2 o1 o2 o3 HDR
        obtain ⟨pp, pc, pn⟩ := P
        dsimp only at c0 c1 c2 o1 o2 o3
        obtain ⟨R, hR⟩ : ∃ R : Nat, pp % 10 = R := ⟨_, rfl⟩
        have m1 : (pp : Int) % 10 = R := by omega
        have m2 : (pp : Int).tmod 10 = R := by rw [Int.tmod_eq_emod_of_nonneg (by omega)]; exact m1
        have hR10 : R < 10 := by omega
        have w1 : IntKind.u8.wrap (R : Int) = R := by rw [IntKind.wrap_u8]; omega
        have w2 : IntKind.u32.wrap (R : Int) = R := by rw [IntKind.wrap_u32]; omega
        have w3 : IntKind.i64.wrap (pn : Int) = pn := IntWalk.i64_in _ (by omega)
        have HST : Hid (PTwin.pstep out ⟨pp, pc, pn⟩ = if (out.any fun h => decide (h.page = R)) = false then out ++ [⟨R, PTwin.pageB pc pn⟩] else out) := Lib.hid (by unfold PTwin.pstep; simp only [hR]; simp [h8])
        have HLT := Lib.hid hlt
        have HOI : Hid (HomeIn wr (.slice pu out.length cu) out) := Lib.hid (RdS.of_sl HS.out)
        clear hP hlt h8 hR HF
        go_wp2
        go_loopw [6, 7] (fun bv jv wi => ∃ (j : Nat) (x : Bool), j ≤ out.length ∧ jv = .int .i64 j ∧ bv = .bool x ∧ Hid (x = (out.take j).any (fun h => decide (h.page = R))) ∧ wi = wr) (fun _ jv _ => out.length - (intOf jv).toNat)
        case atStart => exact ⟨0, false, by omega, rfl, rfl, Lib.hid rfl, rfl⟩
        case round =>
          obtain ⟨j, x, hj, rfl, rfl, HX, rfl⟩ := hrel
          by_cases hjl : j < out.length
          · have j1 : (j : Int) < out.length := by omega
            have j0 : (0 : Int) ≤ j := by omega
            have HJL := Lib.hid hjl
            obtain ⟨go, oo, rfl, hgo, d0, d1⟩ := home_cells (l := out) (c := cu) (p := pu) HOI.out hjl
            obtain ⟨y, hy⟩ : ∃ y, (out[j]'hjl).page = y := ⟨_, rfl⟩
            have HXN := any_take out R j y hjl hy
            rw [← HX.out] at HXN
            rw [hy] at d0
            have HXM := Lib.hid HXN
            clear hy HXN d1 hjl
            cases x
            · by_cases hyr : y = R
              · have e1 : ((y : Int) == R) = true := by simp [hyr]
                have HN : Hid (true = (out.take (j + 1)).any (fun h => decide (h.page = R))) := Lib.hid (by rw [HXM.out]; simp [hyr])
                clear hyr HX HXM
                go_wp2
                exact ⟨⟨j + 1, true, by have := HJL.out; omega, by go_num, rfl, HN, trivial⟩, by have := HJL.out; simp [intOf]; omega⟩
              · have e1 : ((y : Int) == R) = false := by simp; omega
                have HN : Hid (false = (out.take (j + 1)).any (fun h => decide (h.page = R))) := Lib.hid (by rw [HXM.out]; simp [hyr])
                clear hyr HX HXM
                go_wp2
                exact ⟨⟨j + 1, false, by have := HJL.out; omega, by go_num, rfl, HN, trivial⟩, by have := HJL.out; simp [intOf]; omega⟩
            · have HN : Hid (true = (out.take (j + 1)).any (fun h => decide (h.page = R))) := Lib.hid (by rw [HXM.out]; simp)
              clear HX HXM
              go_wp2
              exact ⟨⟨j + 1, true, by have := HJL.out; omega, by go_num, rfl, HN, trivial⟩, by have := HJL.out; simp [intOf]; omega⟩
          · obtain rfl : j = out.length := by omega
            have j1 : ¬ (out.length : Int) < out.length := by omega
            have HXA : Hid (x = out.any (fun h => decide (h.page = R))) := Lib.hid (by rw [HX.out, List.take_length])
            clear HX hj hjl
            cases x
            · have HPS : Hid (PTwin.pstep out ⟨pp, pc, pn⟩ = out ++ [⟨R, PTwin.pageB pc pn⟩]) := Lib.hid (by rw [HST.out, if_pos HXA.out.symm])
              have HON : Hid (PTwin.POk (out ++ [⟨R, PTwin.pageB pc pn⟩])) := Lib.hid (by rw [← HPS.out]; exact PTwin.pstep_ok HO.out _)
              have HFN : Hid (PTwin.pagesL l = (l.drop (k + 1)).foldl PTwin.pstep (out ++ [⟨R, PTwin.pageB pc pn⟩])) := Lib.hid (by rw [HDR.out, HPS.out])
              have HPG := Lib.hid (fun W => page_any pc pn o2 o3 W)
              obtain ⟨B, hB⟩ : ∃ B : ByteArray, (⟨(PTwin.pageB pc pn).toArray⟩ : ByteArray) = B := ⟨_, rfl⟩
              have HHV : Hid (homesV (out ++ [⟨R, PTwin.pageB pc pn⟩]) = homesV out ++ [.int .u32 R, .string B]) := Lib.hid (by rw [homesV_snoc, hB])
              rw [hB] at HPG
              clear hB HDR HST HXA HO HOI
              replace HS := Lib.hid HS.out.drew
              replace HB := Lib.hid HB.out.drew
              go_wp2
              go_region_law (first | ((try go_simp); with_reducible refine (HPG.out _).mono ?_; rintro e w8 ⟨rfl, hb⟩; replace HS := Lib.hid (HS.out.keep (fun g e => hb.block g (HS.out.lt g e).2)); replace HB := Lib.hid (HB.out.step hb); clear hb; go_wp2_with fail) | (refine step_append_sl elem_home (by rfl) (by rfl) (HS.out.alloc _) (by rfl) [.int .u32 R, .string B] (by rfl) (by rfl) (news_alloc _ [_, _] _ _) (by intro u hu; simp at hu; rcases hu with rfl | rfl <;> rfl) (by unfold maxLen; omega) (by omega) (by have := HB.out.size; rw [World.size_alloc]; omega) ?_; intro v' w9 hl hg9 hown9; have HSN := Lib.hid hl; have HBN := Lib.hid ((HB.out.alloc HB.out.size (.cells #[.int .u32 R, .string B] 34)).grown hg9 (by have := HB.out.size; rw [World.size_alloc]; omega) (fun j e => (HS.out.lt j e).1)); clear hl hg9 hown9))
              all_goals (
                have HSM : Hid (Sl _ w.heap.size 34 2 v' (out ++ [(⟨R, PTwin.pageB pc pn⟩ : Hm)]).length (homesV (out ++ [(⟨R, PTwin.pageB pc pn⟩ : Hm)]))) := Lib.hid (by rw [HHV.out, List.length_append]; exact HSN.out)
                clear HSN HS HB
                go_wp2
                exact ⟨⟨k + 1, _, by have := HLT.out; omega, by go_num, HFN, HSM, HON, HBN⟩, by have := HLT.out; simp [intOf]; omega⟩)
            · have HFN : Hid (PTwin.pagesL l = (l.drop (k + 1)).foldl PTwin.pstep out) := Lib.hid (by rw [HDR.out, HST.out, if_neg (by rw [← HXA.out]; decide)])
              clear HDR HST HXA HOI
              go_wp2
              exact ⟨⟨k + 1, out, by have := HLT.out; omega, by go_num, HFN, HS, HO, HB⟩, by have := HLT.out; simp [intOf]; omega⟩
      · have i2 : ¬ (out.length : Int) < 8 := by omega
        have HR : Hid (PTwin.pagesL l = out) := Lib.hid (by rw [HF.out]; exact PTwin.pstep_full h8 _)
        clear h8 hlt HF
        go_wp2
        go_ret
        rw [HR.out]
        exact ⟨_, rfl, HS.out, HB.out⟩
    · have i1 : ¬ (k : Int) < l.length := by omega
      have HR : Hid (PTwin.pagesL l = out) := Lib.hid (by rw [HF.out, List.drop_eq_nil_iff.2 (by omega)]; rfl)
      clear hlt HF
      go_wp2
      go_ret
      rw [HR.out]
      exact ⟨_, rfl, HS.out, HB.out⟩
end Go.Proofs.Ytdkhmhlphhammaa
