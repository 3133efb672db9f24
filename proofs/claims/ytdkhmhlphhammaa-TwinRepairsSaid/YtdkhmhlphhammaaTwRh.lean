/-
  Twin, the document's answer: May, homes.
-/
import Derived.Test.YtdkhmhlphhammaaTwRg
import Derived.Deep.RegionLaw
namespace Go.Proofs.Ytdkhmhlphhammaa
open Go.RowKit
open PTwin (Hm Cal)
theorem below_drewN14 {B : Nat} {a w : World} (h : Below B a w) (n : Nat) : Below B a (w.drewN n) := h.trans ⟨rfl, rfl, rfl, Nat.le_refl _, fun _ _ => rfl⟩
theorem pages_take (l : List Hm) (j y : Nat) (h : j < l.length) (hy : l[j].page = y) (p : Nat) : ((l.take (j + 1)).map (·.page)).contains p = (((l.take j).map (·.page)).contains p || decide (p = y)) := by
  subst hy
  rw [List.take_succ_eq_append_getElem h, List.map_append]
  simp
set_option maxRecDepth 20000 in
set_option maxHeartbeats 4000000 in
theorem rmay14_any (w : World) (n a base : Nat) (hn : n ≤ 100000) (ha : a + 33 ≤ n) (hb : base ≤ n) (l : List Hm) (v : Value) (h1 : 1 ≤ l.length) (h8 : l.length ≤ 8) (hp : ∀ h ∈ l, h.page < 4294967296) (hi : HomeIn w v l) :
    Calls Try.prog 31 #[.int .i64 n, .int .i64 a, .int .i64 base, v] w fun e w' => e = .returned (.bool (PTwin.may n a base l)) ∧ Below w.heap.size w w' := by
  obtain ⟨pv, cv, rfl, hcv, hcm⟩ := RdS.form hi
  have HIN := Lib.hid hi
  have HP := Lib.hid hp
  have HB0 := Lib.hid (Below.refl w.heap.size w)
  obtain ⟨m, hm⟩ : ∃ m : Int, (n : Int) - 33 = m := ⟨_, rfl⟩
  have w1 : IntKind.i64.wrap ((n : Int) - 33) = m := by rw [IntWalk.i64_in _ (by omega)]; exact hm
  have t1 : ¬ (l.length : Int) < 1 := by omega
  have t2 : ¬ (8 : Int) < l.length := by omega
  have t3 : ¬ (a : Int) < 0 := by omega
  have t4 : ¬ (base : Int) < 0 := by omega
  have t5 : ¬ m < (a : Int) := by omega
  have t6 : ¬ (n : Int) < base := by omega
  have HIS : Hid (∀ (W : World) (p : Nat), p < 4294967296 → Calls Try.prog 45 #[.int .i64 n, .int .i64 a, .int .i64 base, .int .u32 p] W fun e w' => e = .returned (.bool (PTwin.inside n a base p)) ∧ W = w') := Lib.hid (fun W p hp => rinside_any n a base p hn (by omega) (by omega) hp W)
  have HMAY : Hid (PTwin.may n a base l = PTwin.fit n a base [] l) := Lib.hid (by unfold PTwin.may; simp [h1, h8])
  unfold maxLen at hcm
  clear hi hp hm ha hb hn h1
  go_enter Try.func31, Try.ntmps31
  go_wp2
  go_loopw [9] (fun iv wr => ∃ k : Nat, k ≤ l.length ∧ iv = .int .i64 k ∧ Hid (PTwin.fit n a base [] l = PTwin.fit n a base ((l.take k).map (·.page)) (l.drop k)) ∧ Hid (Below w.heap.size w wr)) (fun iv _ => l.length - (intOf iv).toNat)
  case atStart => exact ⟨0, by omega, rfl, Lib.hid rfl, HB0⟩
  case round =>
    clear HB0
    obtain ⟨k, hk, rfl, HF, HB⟩ := hrel
    by_cases hlt : k < l.length
    · have i1 : (k : Int) < l.length := by omega
      have k0 : (0 : Int) ≤ k := by omega
      have HHI := Lib.hid (show HomeIn wr _ l from RdS.step HIN.out HB.out)
      obtain ⟨g, off, hpv, hg, c0, c1⟩ := home_cells HHI.out hlt
      obtain ⟨p, hpp⟩ : ∃ p, (l[k]'hlt).page = p := ⟨_, rfl⟩
      obtain ⟨B, hBB⟩ : ∃ B : ByteArray, (⟨(l[k]'hlt).bytes.toArray⟩ : ByteArray) = B := ⟨_, rfl⟩
      have hp4 : p < 4294967296 := by rw [← hpp]; exact HP.out _ (List.getElem_mem hlt)
      have hBs : B.size = (l[k]'hlt).bytes.length := by rw [← hBB]; rfl
      have hfs := fit_step n a base ((l.take k).map (·.page)) l k hlt
      rw [← hBs, hpp] at hfs
      have HF2 := Lib.hid (HF.out.trans hfs)
      have HTK : Hid ((l.take (k + 1)).map (·.page) = (l.take k).map (·.page) ++ [p]) := Lib.hid (by rw [List.take_succ_eq_append_getElem hlt, List.map_append, ← hpp]; rfl)
      rw [hpp] at c0
      rw [hBB] at c1
      have HC0 := Lib.hid c0
      have HGW : Hid (g < wr.heap.size) := Lib.hid hg
      have HLT := Lib.hid hlt
      subst hpv
      clear hpp hBB hlt hBs hfs HF hg
      by_cases hs : B.size = 512
      · have hs1 : ((B.size : Int) != 512) = false := by simp; omega
        have HI1 := Lib.hid (fun W => HIS.out W p hp4)
        cases hin : PTwin.inside n a base p
        · rw [hin] at HI1
          have HE : Hid (PTwin.fit n a base [] l = false) := Lib.hid (by rw [HF2.out, if_pos (.inr (.inr hin))])
          clear hin hs HF2
          go_wp2_with fail
          refine (HI1.out _).mono ?_
          rintro e w2 ⟨rfl, rfl⟩
          go_wp2
          go_ret
          exact ⟨by rw [HMAY.out, HE.out]; rfl, HB.out⟩
        · rw [hin] at HI1
          have HIN2 := Lib.hid hin
          have HS := Lib.hid hs
          clear hin hs
          obtain ⟨W0, hW0⟩ : ∃ x, x = wr := ⟨_, rfl⟩
          subst hW0
          go_wp2_with fail
          refine (HI1.out _).mono ?_
          rintro e w2 ⟨rfl, rfl⟩
          go_wp2
          go_loopw [10] (fun jv wi => ∃ j : Nat, j ≤ k ∧ jv = .int .i64 j ∧ Hid (((l.take j).map (·.page)).contains p = false) ∧ Hid (Below W0.heap.size W0 wi)) (fun jv _ => k - (intOf jv).toNat)
          case atStart => exact ⟨0, by omega, rfl, Lib.hid (by simp), Lib.hid (Below.refl _ _)⟩
          case round =>
            obtain ⟨j, hj, rfl, HNC, HBi⟩ := hrel
            by_cases hjl : j < k
            · have j1 : (j : Int) < k := by omega
              have j0 : (0 : Int) ≤ j := by omega
              have hjn : j < l.length := by have := HLT.out; omega
              have j2 : (j : Int) < l.length := by omega
              obtain ⟨g2, o2, he2, hg2, d0, d1⟩ := home_cells HHI.out hjn
              simp only [Option.some.injEq, Addr.mk.injEq, and_true] at he2
              obtain ⟨rfl, rfl⟩ := he2
              obtain ⟨y, hy⟩ : ∃ y, (l[j]'hjn).page = y := ⟨_, rfl⟩
              have HPT := Lib.hid (pages_take l j y hjn hy p)
              rw [hy] at d0
              have d0i : wr.cell? ⟨g, off + j * 2, none⟩ = some (.int .u32 y) := (HBi.out.cell (p := ⟨g, off + j * 2, none⟩) hg2).trans d0
              have c0i : wr.cell? ⟨g, off + k * 2, none⟩ = some (.int .u32 p) := (HBi.out.cell (p := ⟨g, off + k * 2, none⟩) HGW.out).trans HC0.out
              have HIM : Hid (y = p → ((l.take k).map (·.page)).contains p = true) := Lib.hid (fun e => by
                rw [List.contains_iff_mem]
                refine List.mem_map.2 ⟨l[j]'hjn, ?_, by rw [hy, e]⟩
                rw [List.mem_take_iff_getElem]
                exact ⟨j, by omega, rfl⟩)
              have HJL := Lib.hid hjl
              clear hy d0 d1 hg2 c0 c1 hjn hjl
              by_cases hyp : y = p
              · have e1 : ((y : Int) == p) = true := by simp [hyp]
                have HE : Hid (PTwin.fit n a base [] l = false) := Lib.hid (by rw [HF2.out, if_pos (.inr (.inl (HIM.out hyp)))])
                have HBF := Lib.hid (fun n => below_drewN14 (HB.out.step HBi.out) n)
                clear hyp HIM HPT HNC
                go_wp2
                go_quiet (fail)
                go_wp2
                go_ret
                exact ⟨by rw [HMAY.out, HE.out]; rfl, HBF.out _⟩
              · have e1 : ((y : Int) == p) = false := by simp; omega
                have HN2 : Hid (((l.take (j + 1)).map (·.page)).contains p = false) := Lib.hid (by rw [HPT.out, HNC.out]; simp; omega)
                have HBF := Lib.hid (fun n => below_drewN14 HBi.out n)
                clear hyp HIM HPT HNC
                go_wp2
                go_quiet (fail)
                go_wp2
                exact ⟨⟨j + 1, by have := HJL.out; omega, by go_num, HN2, Lib.hid (HBF.out _)⟩, by have := HJL.out; simp [intOf]; omega⟩
            · obtain rfl : j = k := by omega
              have j1 : ¬ (j : Int) < j := by omega
              have HFN : Hid (PTwin.fit n a base [] l = PTwin.fit n a base ((l.take (j + 1)).map (·.page)) (l.drop (j + 1))) := Lib.hid (by
                rw [HF2.out, if_neg (by rw [HNC.out, HIN2.out, HS.out]; simp), HTK.out])
              have HBF := Lib.hid (HB.out.step HBi.out)
              clear hjl hj hk
              go_wp2
              exact ⟨⟨j + 1, by have := HLT.out; omega, by go_num, HFN, HBF⟩, by have := HLT.out; simp [intOf]; omega⟩
      · have hs1 : ((B.size : Int) != 512) = true := by simp; omega
        have HE : Hid (PTwin.fit n a base [] l = false) := Lib.hid (by rw [HF2.out, if_pos (.inl hs)])
        clear hs HF2
        go_wp2
        go_ret
        exact ⟨by rw [HMAY.out, HE.out]; rfl, HB.out⟩
    · obtain rfl : k = l.length := by omega
      have i1 : ¬ (l.length : Int) < l.length := by omega
      have HE : Hid (PTwin.fit n a base [] l = true) := Lib.hid (by rw [HF.out, List.drop_length]; rfl)
      clear hlt hk HF
      go_wp2
      go_ret
      exact ⟨by rw [HMAY.out, HE.out]; rfl, HB.out⟩
def callV : Cal → List Value
  | .wr k s => [.int .i64 k, .string ⟨s.toArray⟩]
  | .sy => [.int .i64 (-1), .string ⟨#[]⟩]
def callsV (cs : List Cal) : List Value := cs.flatMap callV
theorem callsV_length (cs : List Cal) : (callsV cs).length = cs.length * 2 := by
  induction cs with
  | nil => rfl
  | cons c cs ih => unfold callsV at ih ⊢; rw [List.flatMap_cons, List.length_append, ih, List.length_cons]; cases c <;> simp [callV] <;> omega
theorem callsV_append (cs ds : List Cal) : callsV (cs ++ ds) = callsV cs ++ callsV ds := by simp [callsV]
theorem elem_call : ElemT Try.prog 40 79 2 24 := ElemT.mk' (z := .agg #[.int .i64 0, .string ByteArray.empty]) Try.underlying40 (by kernel_rfl) rfl (by decide)
set_option maxRecDepth 20000 in
set_option maxHeartbeats 8000000 in
theorem rhomes14_any (w : World) (base : Nat) (l : List Hm) (v : Value) (hl : l.length ≤ 8) (hb : base ≤ 100000) (hp : ∀ h ∈ l, h.page < 4294967296 ∧ h.bytes.length = 512) (hi : HomeIn w v l) :
    Calls Try.prog 32 #[.int .i64 base, v] w fun e w' => ∃ u, e = .returned u ∧ Sl w' w.heap.size 79 2 u (4 * l.length + 1) (callsV (PTwin.homes base l)) ∧ Below w.heap.size w w' := by
  obtain ⟨pv, cv, rfl, hcv, hcm⟩ := RdS.form hi
  have HIN := Lib.hid hi
  have HP := Lib.hid hp
  have HB0 := Lib.hid (Below.refl w.heap.size w)
  unfold maxLen at hcm
  clear hi hp
  go_enter Try.func32, Try.ntmps32
  go_wp2
  go_loopw [5, 6] (fun uv iv wr => ∃ k : Nat, k ≤ l.length ∧ iv = .int .i64 k ∧ Hid (Sl wr w.heap.size 79 2 uv (4 * k) (callsV ((l.take k).flatMap (PTwin.homeC base)))) ∧ Hid (Below w.heap.size w wr)) (fun _ iv _ => l.length - (intOf iv).toNat)
  case atStart => exact ⟨0, by omega, rfl, Lib.hid (Sl.nil _ _ _ _), HB0⟩
  case round =>
    clear HB0
    obtain ⟨k, hk, rfl, HS, HB⟩ := hrel
    obtain ⟨pu, cu, rfl⟩ := Sl.form HS.out
    by_cases hlt : k < l.length
    · have i1 : (k : Int) < l.length := by omega
      have k0 : (0 : Int) ≤ k := by omega
      obtain ⟨g, off, hpv, hg, c0, c1⟩ := home_cells HIN.out hlt
      obtain ⟨hp4, hp5⟩ := HP.out _ (List.getElem_mem hlt)
      obtain ⟨p, hpp⟩ : ∃ p, (l[k]'hlt).page = p := ⟨_, rfl⟩
      obtain ⟨B, hBB⟩ : ∃ B : ByteArray, (⟨(l[k]'hlt).bytes.toArray⟩ : ByteArray) = B := ⟨_, rfl⟩
      have hBs : B.size = 512 := by rw [← hBB]; exact hp5
      have HHC : Hid (∀ j, j < 4 → (PTwin.homeC base (l[k]'hlt)).take (j + 1) = (PTwin.homeC base (l[k]'hlt)).take j ++ [.wr (base + p * 4 + j) (PTwin.piece B.data.toList j)]) := Lib.hid (fun j hj => by rw [homeC_take base _ j hj, hpp, ← hBB])
      have HTK := Lib.hid (homes_take base l k hlt)
      have HL4 := Lib.hid (PTwin.homeC_length base (l[k]'hlt))
      obtain ⟨C, hC⟩ : ∃ C, PTwin.homeC base (l[k]'hlt) = C := ⟨_, rfl⟩
      rw [hC] at HHC HTK HL4
      obtain ⟨E, hE⟩ : ∃ E, (l.take k).flatMap (PTwin.homeC base) = E := ⟨_, rfl⟩
      rw [hE] at HS HTK
      rw [hpp] at c0 hp4
      rw [hBB] at c1
      have HC0 := Lib.hid c0
      have HC1 := Lib.hid c1
      have HG := Lib.hid hg
      have HS0 : Hid (Sl wr w.heap.size 79 2 (.slice pu (4 * k) cu) (4 * k + 0) (callsV (E ++ C.take 0))) := Lib.hid (by simpa using HS.out)
      subst hpv
      clear hpp hBB hC hE hp5 hlt HS c0 c1 hg
      go_wp2
      go_loopw [5, 7] (fun uv jv wi => ∃ j : Nat, j ≤ 4 ∧ jv = .int .i64 j ∧ Hid (Sl wi w.heap.size 79 2 uv (4 * k + j) (callsV (E ++ C.take j))) ∧ Hid (Below w.heap.size w wi)) (fun _ jv _ => 4 - (intOf jv).toNat)
      case atStart => exact ⟨0, by omega, rfl, HS0, HB⟩
      case round =>
        clear HS0 HB
        obtain ⟨j, hj, rfl, HS, HB⟩ := hrel
        obtain ⟨pu2, cu2, rfl⟩ := Sl.form HS.out
        by_cases hj4 : j < 4
        · have j1 : (j : Int) < 4 := by omega
          obtain ⟨Q, hQ⟩ : ∃ Q : Nat, p * 4 = Q := ⟨_, rfl⟩
          obtain ⟨F, hF⟩ : ∃ F : Nat, base + Q = F := ⟨_, rfl⟩
          obtain ⟨K, hK⟩ : ∃ K : Nat, F + j = K := ⟨_, rfl⟩
          obtain ⟨A, hA⟩ : ∃ A : Nat, j * 128 = A := ⟨_, rfl⟩
          obtain ⟨J, hJ⟩ : ∃ J : Nat, j + 1 = J := ⟨_, rfl⟩
          obtain ⟨Z, hZ⟩ : ∃ Z : Nat, (j + 1) * 128 = Z := ⟨_, rfl⟩
          have w1 : IntKind.i64.wrap (p : Int) = p := IntWalk.i64_in _ (by omega)
          have w2 : IntKind.i64.wrap ((p : Int) * 4) = Q := by rw [IntWalk.i64_in _ (by omega)]; omega
          have w3 : IntKind.i64.wrap ((base : Int) + Q) = F := by rw [IntWalk.i64_in _ (by omega)]; omega
          have w4 : IntKind.i64.wrap ((F : Int) + j) = K := by rw [IntWalk.i64_in _ (by omega)]; omega
          have w5 : IntKind.i64.wrap ((j : Int) * 128) = A := by rw [IntWalk.i64_in _ (by omega)]; omega
          have w6 : IntKind.i64.wrap ((j : Int) + 1) = J := by rw [IntWalk.i64_in _ (by omega)]; omega
          have w7 : IntKind.i64.wrap ((J : Int) * 128) = Z := by rw [IntWalk.i64_in _ (by omega)]; omega
          have s1 : (A : Int) ≤ Z := by omega
          have s2 : (Z : Int) ≤ B.size := by omega
          have s0 : (0 : Int) ≤ A := by omega
          have s3 : (0 : Int) ≤ Z := by omega
          have n1 : A ≤ Z := by omega
          have n2 : Z ≤ B.size := by omega
          have HPC : Hid ((B.extract A Z).data.toList = PTwin.piece B.data.toList j) := Lib.hid (by
            rw [extract_mid, ← hA, show Z - j * 128 = 128 by omega]
            rfl)
          have HKN : Hid (base + p * 4 + j = K) := Lib.hid (by omega)
          have c0 : wr.cell? ⟨g, off + k * 2, none⟩ = some (.int .u32 p) := (HB.out.cell (p := ⟨g, off + k * 2, none⟩) HG.out).trans HC0.out
          have c1 : wr.cell? ⟨g, off + k * 2 + 1, none⟩ = some (.string B) := (HB.out.cell (p := ⟨g, off + k * 2 + 1, none⟩) HG.out).trans HC1.out
          have HVS : Hid (callsV (E ++ C.take (j + 1)) = callsV (E ++ C.take j) ++ [.int .i64 K, .string (B.extract A Z)]) := Lib.hid (by
            have e : (⟨(B.extract A Z).data.toList.toArray⟩ : ByteArray) = B.extract A Z := by generalize B.extract A Z = X; simp
            rw [HHC.out j hj4, ← List.append_assoc, callsV_append, HKN.out, ← HPC.out]
            show _ ++ [Value.int .i64 (K : Nat), Value.string ⟨(B.extract A Z).data.toList.toArray⟩] = _
            rw [e])
          have HJ : Hid (j < 4 ∧ j + 1 = J) := Lib.hid ⟨hj4, hJ⟩
          have hgl : g < wr.heap.size := Nat.lt_of_lt_of_le HG.out HB.out.size
          have c0n : ∀ o, (wr.alloc o).drew.cell? ⟨g, off + k * 2, none⟩ = some (.int .u32 p) := fun o => (World.cell?_alloc_some wr ⟨g, off + k * 2, none⟩ o (by rw [c0]; rfl)).trans c0
          replace HS := Lib.hid HS.out.drew
          replace HB := Lib.hid HB.out.drew
          have hbsz : w.heap.size ≤ wr.heap.size := HB.out.size
          clear hQ hF hK hA hJ hZ hj4 hj hBs
          go_wp2
          go_region_law (first | (refine step_append_sl elem_call (by rfl) (by rfl) (HS.out.alloc _) (by rfl) [.int .i64 K, .string (B.extract A Z)] (by rfl) (by rfl) (news_alloc _ [_, _] _ _) (by intro u hu; simp at hu; rcases hu with rfl | rfl <;> rfl) (by unfold maxLen; omega) (by omega) (by show w.heap.size ≤ (World.alloc wr _).heap.size; rw [World.size_alloc]; omega) ?_; intro v' w9 hl9 hg9 hown9; have HSN := Lib.hid hl9; have HBN := Lib.hid ((HB.out.alloc HB.out.size (.cells #[.int .i64 K, .string (B.extract A Z)] 79)).grown hg9 (by show w.heap.size ≤ (World.alloc wr _).heap.size; rw [World.size_alloc]; omega) (fun j e => (HS.out.lt j e).1)); clear hl9 hg9 hown9))
          all_goals (
            have HSM : Hid (Sl _ w.heap.size 79 2 v' (4 * k + J) (callsV (E ++ C.take J))) := Lib.hid (by rw [← HJ.out.2, HVS.out]; exact HSN.out)
            clear HSN HS HB
            go_wp2
            exact ⟨⟨J, by have := HJ.out; omega, rfl, HSM, HBN⟩, by have := HJ.out; simp [intOf]; omega⟩)
        · have hj44 : j = 4 := by omega
          have j1 : ¬ (j : Int) < 4 := by omega
          have HN : Hid (Sl wr w.heap.size 79 2 (.slice pu2 (4 * k + j) cu2) (4 * (k + 1)) (callsV ((l.take (k + 1)).flatMap (PTwin.homeC base)))) := Lib.hid (by
            have h := HS.out
            rw [List.take_of_length_le (by rw [HL4.out]; omega), ← HTK.out] at h
            rw [show 4 * (k + 1) = 4 * k + j by omega]
            exact h)
          have hkl : k + 1 ≤ l.length := by omega
          have HKL := Lib.hid hkl
          clear HS hj hj4 hj44 hkl
          go_wp2
          exact ⟨⟨k + 1, HKL.out, by go_num, HN, HB⟩, by have := HKL.out; simp [intOf]; omega⟩
    · obtain rfl : k = l.length := by omega
      have i1 : ¬ (l.length : Int) < l.length := by omega
      have hbs := HB.out.size
      have HHV : Hid (callsV (PTwin.homes base l) = callsV ((l.take l.length).flatMap (PTwin.homeC base)) ++ [.int .i64 (-1), .string ⟨#[]⟩]) := Lib.hid (by
        rw [List.take_length]
        unfold PTwin.homes
        rw [callsV_append]
        rfl)
      clear hlt hk
      go_wp2_with (at_builtin; (with_reducible apply wpList_append_sl elem_call (HS.out.alloc _) [.int .i64 (-1), .string ⟨#[]⟩]); (· rfl); (· rfl); (· rfl); (· rfl); (· rfl); (· exact news_at _ [_, _] _ _ rfl); (· intro u hu; simp at hu; rcases hu with rfl | rfl <;> rfl); (· unfold maxLen; omega); (· omega); (· rw [World.size_alloc]; omega); intro v' w6 g1 g2 _ g4)
      go_ret
      rw [HHV.out]
      exact ⟨_, rfl, g1, (HB.out.alloc hbs _).grown g2 (by rw [World.size_alloc]; omega) (fun j e => (HS.out.lt j e).1)⟩
end Go.Proofs.Ytdkhmhlphhammaa
