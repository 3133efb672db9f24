/-
  DiskPicks returns true.
-/
import Derived.Test.YtkmgmfahhidbbaaDs
namespace PDsk
theorem kept_all (l : List (Nat × List UInt8)) (n : Nat) (h : l.length = n) : kept l (List.replicate n true) = l := by
  subst h
  unfold kept
  induction l with
  | nil => rfl
  | cons a l ih => simp [List.replicate_succ] at ih ⊢; exact ih
end PDsk
namespace Go.Proofs.Ytkmgmfahhidbbaa
open Go.RowKit
theorem Ds.cell {w : World} {B : Nat} {oth : List Nat} {l : List DskAt} (h : Ds w B oth l) {g j : Nat} (hg : g ∈ oth) (v : Value) : Ds (w.setCell ⟨g, j, none⟩ v) B oth l :=
  ⟨fun x hx => ⟨(h.1 x hx).1.turns (bs := [g]) ((Turns.refl [g] w).set (by simp) v) (fun k hk hm => (h.1 x hx).2.2 g hg (by rw [List.mem_singleton.1 hm] at hk; exact hk)), (h.1 x hx).2⟩, h.2.1, fun k hk => by simpa using h.2.2 k hk⟩
theorem Rd.below_base {w w' : World} {v : Value} {xs : List Value} (h : Rd w v xs) (hb : Below w.heap.size w w') : Rd w' v xs := h.below hb
def kidx (K : Int) : Nat := (((K.tmod 4) + 4).tmod 4).toNat
theorem kidx_lt (K : Int) : kidx K < 4 := by
  unfold kidx
  have := Int.tmod_lt_of_pos ((K.tmod 4) + 4) (show (0 : Int) < 4 by decide)
  omega
theorem kidx_eq (K : Int) : (((K.tmod 4) + 4).tmod 4) = (kidx K : Int) ∧ -4 < K.tmod 4 ∧ K.tmod 4 < 4 := by
  have h1 : -4 < K.tmod 4 := by
    have := Int.lt_tmod_of_pos K (show (0 : Int) < 4 by decide); omega
  have h2 := Int.tmod_lt_of_pos K (show (0 : Int) < 4 by decide)
  have h3 : 0 ≤ ((K.tmod 4) + 4).tmod 4 := Int.tmod_nonneg 4 (by omega)
  unfold kidx
  exact ⟨by omega, h1, h2⟩
def wOf (x : CallM) : Nat × List UInt8 := (kidx x.k, fullL x.c)
def wsOf (cs : List CallM) : List (Nat × List UInt8) := cs.map wOf
theorem wsOf_step {cs : List CallM} {k : Nat} (h : k < cs.length) : (wsOf cs).take (k + 1) = (wsOf cs).take k ++ [wOf cs[k]] := by
  unfold wsOf
  rw [List.take_succ_eq_append_getElem (by simpa using h)]; simp
def allV (n k : Nat) : List Value := List.replicate k (.bool true) ++ List.replicate (n - k) (.bool false)
theorem allV_set {n k : Nat} (h : k < n) : (allV n k).set k (.bool true) = allV n (k + 1) := by
  unfold allV
  rw [List.set_append_right _ _ (by simp), List.length_replicate, Nat.sub_self, show n - k = (n - (k + 1)) + 1 by omega, List.replicate_succ, List.set_cons_zero, List.replicate_succ', List.append_assoc]
  simp
theorem allV_get {n k : Nat} (h : k < n) : (allV n k)[k]'(by simp [allV]; omega) = .bool false := by simp [allV]
theorem make_bools (n : Nat) (h : n ≤ 1000) (w : World) : (Instr.makeSlice 23 (.int .i64 n) (.int .i64 n)).run Try.prog w = .ok (.slice (some ⟨w.heap.size, 0, none⟩) n n) (w.alloc (.cells (allV n 0).toArray 4)) := by
  have h0 : (Try.prog.info? 4).map (fun i => (i.zero, i.size, i.bytes)) = some (some (.bool false), 1, 1) := by kernel_rfl
  obtain ⟨i, hi, hz, hs, hb⟩ := info_parts h0
  rw [run_make w _ _ i _ Try.underlying23 hi hz .i64 .i64 n n (by omega) (by omega) (by rw [hb]; omega) (by omega), hs]
  have e1 : madeCells (Value.bool false).cells ((n : Int).toNat * 1) = (allV n 0).toArray := by
    unfold madeCells allV
    apply Array.ext
    · simp
    · intro j h1 h2
      simp [Value.cells, Nat.mod_one]
  rw [e1, Int.toNat_natCast]
def pD (cs : List CallM) (k : Nat) : PDsk.Dsk := { PDsk.new 4 with loose := (wsOf cs).take k }
def pS (cs : List CallM) (ks : List Bool) (k : Nat) : PDsk.Dsk := { PDsk.new 4 with loose := PDsk.kept ((wsOf cs).take k) ks }
theorem write_loose (l : List (Nat × List UInt8)) (x : CallM) : PDsk.write { PDsk.new 4 with loose := l } (kidx x.k : Int) (fullL x.c) = ({ PDsk.new 4 with loose := l ++ [wOf x] }, 0) := by
  have := kidx_lt x.k
  unfold PDsk.write
  rw [if_neg (by simp [PDsk.new]), if_neg (by simp [PDsk.new, fullL]; omega)]
  rfl
set_option maxRecDepth 100000 in
set_option maxHeartbeats 8000000 in
theorem diskPicks_ok (w : World) (v vk : Value) (cs : List CallM) (ks : List Bool) (h : RdCalls w v cs) (hok : ∀ x ∈ cs, x.Ok) (hk : Rd w vk (ks.map Value.bool)) (hl : cs.length ≤ 100) (hkl : ks.length ≤ 200) (hhv : heavyB cs = false) :
    Calls Try.prog 4 #[v, vk] w fun e w' => e = .returned (.bool true) ∧ Below w.heap.size w w' := by
  have HC := Lib.hid h
  have HKR := Lib.hid hk
  have HOK := Lib.hid hok
  have HHV := Lib.hid hhv
  obtain ⟨p, c, rfl, h2, h3, h4⟩ := h
  obtain ⟨pk, ck, rfl, k2, k3, k4⟩ := hk
  rw [List.length_map] at *
  unfold maxLen at h3 k3
  have H4 := Lib.hid h4
  clear h4 k4 hok hhv
  have hmk := make_bools cs.length (by omega)
  have f200 : ¬ (200 : Int) < ks.length := by omega
  go_enter Try.func4, Try.ntmps4
  go_wp2_with fail
  refine (heavy_any _ _ cs HC.out HOK.out).mono ?_
  rintro e w1 ⟨rfl, hB⟩
  rw [HHV.out]
  go_wp2_with fail
  refine (new_any 4 (by decide) (by decide) _).mono ?_
  rintro e w2 ⟨hb, (⟨hx, rfl⟩ | ⟨_, _, bd, own0, rfl, hd0, ho0⟩)⟩
  · exact absurd (by decide) hx
  have hw1 := hB.size
  have hDs0 : Ds w1 w.heap.size [] [] := ⟨by simp, by simp, by simp⟩
  have hDs1 := hDs0.add hw1 hb hd0 ho0
  replace hB := hB.step hb
  change Ds w2 w.heap.size [] [⟨bd, PDsk.new 4, own0⟩] at hDs1
  have HD1 := Lib.hid hDs1
  clear hDs0 hDs1 hd0 ho0 hb
  go_wp2_with fail
  refine (copy_any _ (HD1.out.get (l1 := [])) (by simp [PDsk.new])).mono ?_
  rintro e w3 ⟨bn, ownn, rfl, hdn, hon, hb⟩
  have HD2 := Lib.hid (HD1.out.add hB.size hb hdn hon)
  replace hB := hB.step hb
  clear hdn hon hb HD1
  go_wp2_with fail
  refine (copy_any _ (HD2.out.get (l1 := [⟨bn, PDsk.new 4, ownn⟩])) (by simp [PDsk.new])).mono ?_
  rintro e w4 ⟨bs, owns, rfl, hds, hos, hb⟩
  have HD3 := Lib.hid (HD2.out.add hB.size hb hds hos)
  replace hB := hB.step hb
  clear hds hos hb HD2
  go_wp2
  have hsl : Sl (w4.alloc (.cells (allV cs.length 0).toArray 4)) 0 4 1 (.slice (some ⟨w4.heap.size, 0, none⟩) cs.length cs.length) cs.length (allV cs.length 0) := by
    have := Sl.of_block (w := w4.alloc (.cells (allV cs.length 0).toArray 4)) (base := 0) (e := 4) (size := 1) (n := cs.length) (g := w4.heap.size) (off := 0) (cap := cs.length) (cur := (allV cs.length 0).toArray) (fz := (0, 0))
      (Nat.zero_le _) (heap_alloc_new w4 _) (Free.none _) (Nat.le_refl _) (by unfold maxLen; omega) (by simp [allV])
    rw [List.drop_zero, List.take_of_length_le (by simp [allV])] at this
    exact this
  have hbA : Below w4.heap.size w4 (w4.alloc (.cells (allV cs.length 0).toArray 4)) := (Below.refl _ _).alloc (Nat.le_refl _) _
  have hDA := (HD3.out.below hbA).other (g := w4.heap.size) (by simp) (fun x hx hm => by have := (HD3.out.1 x hx).1.lt _ hm; omega)
  have hBA := hB.step hbA
  have hga := hB.size
  have HDA := Lib.hid hDA
  have HBA := Lib.hid hBA
  have HSL := Lib.hid hsl
  clear hDA hBA hsl hbA hB HD3 hmk
  generalize w4.heap.size = ga at *
  go_loopw [10] (fun iv wr => ∃ (k : Nat) (od on os : List Nat), k ≤ cs.length ∧ iv = .int .i64 k ∧ Hid (Ds wr w.heap.size [ga] [⟨bs, pS cs ks k, os⟩, ⟨bn, PDsk.new 4, on⟩, ⟨bd, pD cs k, od⟩]) ∧ Hid (Below w.heap.size w wr) ∧ Hid (Sl wr 0 4 1 (.slice (some ⟨ga, 0, none⟩) cs.length cs.length) cs.length (allV cs.length k))) (fun iv _ => cs.length - (intOf iv).toNat)
  case atStart => exact ⟨0, own0, ownn, owns, by omega, rfl, HDA, HBA, HSL⟩
  case round =>
    obtain ⟨k, od, on, os, hkn, rfl, HD, HB, HS⟩ := hrel
    clear HDA HBA HSL
    by_cases hlt : k < cs.length
    · obtain ⟨g, off, rfl, hg, hca⟩ := callAt_rd H4.out HB.out hlt
      have hgb : g < w.heap.size := by
        obtain ⟨g', off', e1, e2, _⟩ := H4.out (by intro e; rw [e] at hlt; simp at hlt)
        simp at e1; omega
      have hxk := HOK.out cs[k] (List.getElem_mem hlt)
      have hall : ∀ W, Below w.heap.size w W → CallAt W g (off + k * 7) cs[k] := fun W hW => by
        obtain ⟨g', off', e1, e2, e3⟩ := callAt_rd H4.out hW hlt
        simp at e1
        obtain ⟨rfl, rfl⟩ := e1
        exact e3
      have hws := wsOf_step (cs := cs) hlt
      have hkw : k < (wsOf cs).length := by simpa [wsOf] using hlt
      have hwk : (wsOf cs)[k] = wOf cs[k] := by simp [wsOf]
      have hlw : (wsOf cs).length = cs.length := by simp [wsOf]
      have hst : (hk2 : k < ks.length) → PDsk.kept ((wsOf cs).take (k + 1)) ks = PDsk.kept ((wsOf cs).take k) ks ++ (if ks[k] then [wOf cs[k]] else []) := fun hk2 => by
        rw [PDsk.kept_step (wsOf cs) ks k hkw hk2, hwk]
      have hso : ks.length ≤ k → PDsk.kept ((wsOf cs).take (k + 1)) ks = PDsk.kept ((wsOf cs).take k) ks := fun hk2 => by
        rw [PDsk.kept_over _ _ _ (.inl (by omega)), PDsk.kept_over _ _ _ (.inl hk2)]
      have hll : (PDsk.kept ((wsOf cs).take k) ks).length ≤ 1000000 := by
        unfold PDsk.kept
        rw [List.length_map]
        refine Nat.le_trans (List.length_filter_le _ _) ?_
        rw [List.length_zip, List.length_take]
        omega
      have hld : ((wsOf cs).take k).length ≤ 1000000 := by rw [List.length_take]; omega
      obtain ⟨c0, c1, c2, _⟩ := hca
      generalize cs[k] = x at *
      obtain ⟨q1, q2, q3⟩ := kidx_eq x.k
      have q4 : (x.k.tmod 4 + 4) % 4 = (kidx x.k : Int) := by rw [← q1, Int.tmod_eq_emod_of_nonneg (a := x.k.tmod 4 + 4) (b := 4) (by omega)]
      have q5 := kidx_lt x.k
      have hc256 := hxk.2.2.2.1
      have hk64 := hxk.2.1
      have hk64' := hxk.2.2.1
      have HALL := Lib.hid hall
      have HWS := Lib.hid hws
      have HST := Lib.hid hst
      have HSO := Lib.hid hso
      have HLL := Lib.hid hll
      have HLD := Lib.hid hld
      have Q1 := Lib.hid q1
      have Q4 := Lib.hid q4
      clear hall hws hkw hwk hst hso hll hld hxk hlw c0
      have i0 : (0 : Int) ≤ k := by omega
      have i1 : (k : Int) < cs.length := by omega
      go_wp2_with fail
      refine (full_any x.c hc256 _).mono ?_; rintro e wf ⟨rfl, hb⟩
      have HDf := Lib.hid (HD.out.below hb)
      have HBf := Lib.hid (HB.out.step hb)
      have HSf := Lib.hid (HS.out.keep fun j e => hb.block j (HS.out.lt j e).2)
      clear hb HD HB HS
      go_wp2_with fail
      refine (write_any _ (HDf.out.get (l1 := [⟨bs, pS cs ks k, os⟩, ⟨bn, PDsk.new 4, on⟩])) (kidx x.k) _ (full_max x.c) (by omega) (by omega) HLD.out).mono ?_
      rintro e wg ⟨odN, rfl, hd, hs⟩
      rw [show PDsk.write (pD cs k) (kidx x.k) (⟨(fullL x.c).toArray⟩ : ByteArray).data.toList = _ from write_loose _ x] at hd ⊢
      have HD := Lib.hid (HDf.out.step (l1 := [⟨bs, pS cs ks k, os⟩, ⟨bn, PDsk.new 4, on⟩]) (HBf.out.size) hd hs)
      have HB := Lib.hid (HDf.out.below_of (l1 := [⟨bs, pS cs ks k, os⟩, ⟨bn, PDsk.new 4, on⟩]) HBf.out (Nat.le_refl _) hs)
      have HS := Lib.hid (HDf.out.sl (l1 := [⟨bs, pS cs ks k, os⟩, ⟨bn, PDsk.new 4, on⟩]) hs HSf.out (by simp [Value.ownBlock]))
      clear hd hs HDf HBf HSf
      have hcell := HS.out.cell (j := k) (by simp [allV]; omega)
      have hfro := HS.out.unshut (j := k) (by omega)
      rw [Nat.zero_add] at hcell hfro
      rw [allV_get hlt] at hcell
      have hset := HS.out.set (j := k) (by omega) (.bool true)
      rw [Nat.zero_add, allV_set hlt] at hset
      have HSET := Lib.hid hset
      clear hset HS
      by_cases hk2 : k < ks.length
      · obtain ⟨pk', ck', e1, e2, e3, e4⟩ := HKR.out
        rw [List.length_map] at e1
        simp at e1
        obtain ⟨rfl, rfl⟩ := e1
        obtain ⟨gk, ok, rfl, hgk, hck⟩ := e4 (by intro e; have := congrArg List.length e; simp at this; subst this; simp at hk2)
        have hBS := HB.out.setCell (p := ⟨ga, k, none⟩) hga (.bool true)
        have hKc := (hBS.cell (p := ⟨gk, ok + k, none⟩) hgk).trans (hck k (by simpa using hk2))
        rw [List.getElem_map] at hKc
        have HBS := Lib.hid hBS
        have HDS := Lib.hid (HD.out.cell (g := ga) (j := k) (by simp) (.bool true))
        have hcx := (HALL.out _ hBS).2.2.1
        have hstk := HST.out hk2
        clear hBS HB HD e2 e3 e4 hck
        have j2 : (k : Int) < ks.length := by omega
        generalize ks[k] = kb at *
        have HSTK := Lib.hid hstk
        clear hstk
        cases kb
        · go_wp2
          refine ⟨⟨k + 1, odN, on, os, by omega, by go_num, Lib.hid ?_, HBS, HSET⟩, by simp [intOf]; omega⟩
          unfold pS pD
          rw [HSTK.out, HWS.out, if_neg (by decide), List.append_nil]
          exact HDS.out
        · have HD := HDS
          have HB := HBS
          have HS := HSET
          clear HDS HBS HSET
          go_wp2_with fail
          refine (full_any x.c hc256 _).mono ?_; rintro e wf ⟨rfl, hb⟩
          have HDf := Lib.hid (HD.out.below hb)
          have HBf := Lib.hid (HB.out.step hb)
          have HSf := Lib.hid (HS.out.keep fun j e => hb.block j (HS.out.lt j e).2)
          clear hb HD HB HS
          go_wp2_with fail
          refine (write_any _ (HDf.out.get (l1 := [])) (kidx x.k) _ (full_max x.c) (by omega) (by omega) HLL.out).mono ?_
          rintro e wg ⟨osN, rfl, hd, hs⟩
          rw [show PDsk.write (pS cs ks k) (kidx x.k) (⟨(fullL x.c).toArray⟩ : ByteArray).data.toList = _ from write_loose _ x] at hd ⊢
          have HD := Lib.hid (HDf.out.step (l1 := []) (HBf.out.size) hd hs)
          have HB := Lib.hid (HDf.out.below_of (l1 := []) HBf.out (Nat.le_refl _) hs)
          have HS := Lib.hid (HDf.out.sl (l1 := []) hs HSf.out (by simp [Value.ownBlock]))
          clear hd hs HDf HBf HSf
          go_wp2
          refine ⟨⟨k + 1, odN, on, osN, by omega, by go_num, Lib.hid ?_, HB, HS⟩, by simp [intOf]; omega⟩
          unfold pS pD
          rw [HSTK.out, HWS.out, if_pos trivial]
          exact HD.out
      · have j2 : ¬ (k : Int) < ks.length := by omega
        have HBS := Lib.hid (HB.out.setCell (p := ⟨ga, k, none⟩) hga (.bool true))
        have HDS := Lib.hid (HD.out.cell (g := ga) (j := k) (by simp) (.bool true))
        clear HB HD
        go_wp2
        refine ⟨⟨k + 1, odN, on, os, by omega, by go_num, Lib.hid ?_, HBS, HSET⟩, by simp [intOf]; omega⟩
        unfold pS pD
        rw [HSO.out (by omega), HWS.out]
        exact HDS.out
    · have hkn2 : k = cs.length := by omega
      have hnl : ¬ (k : Int) < cs.length := by omega
      have hall : allV cs.length cs.length = (List.replicate cs.length true).map Value.bool := by simp [allV]
      have hlw : (wsOf cs).length = cs.length := by simp [wsOf]
      rw [hkn2] at HD HS
      rw [hall] at HS
      have hld : (pD cs cs.length).loose.length ≤ 1000000 := by simp only [pD]; rw [List.length_take]; omega
      have EA : (PDsk.crash (pD cs cs.length) ks).sure = (PDsk.sync (pS cs ks cs.length)).1.sure := rfl
      have EB : (PDsk.crash (pD cs cs.length) (List.replicate cs.length true)).sure = (PDsk.sync (pD cs cs.length)).1.sure := by
        show (PDsk.kept (pD cs cs.length).loose _).foldl PDsk.keep _ = ((pD cs cs.length).loose).foldl PDsk.keep _
        have : (pD cs cs.length).loose.length = cs.length := by simp only [pD]; rw [List.length_take, hlw, Nat.min_self]
        rw [PDsk.kept_all _ _ this]
      have EC : (PDsk.crash (pD cs cs.length) []).sure = (PDsk.new 4).sure := by
        show (PDsk.kept (pD cs cs.length).loose []).foldl PDsk.keep _ = _
        have : PDsk.kept (pD cs cs.length).loose [] = [] := by simp [PDsk.kept]
        rw [this]; rfl
      have HEA := Lib.hid EA
      have HEB := Lib.hid EB
      have HEC := Lib.hid EC
      have HLD := Lib.hid hld
      have r1 : (PDsk.sync (pS cs ks cs.length)).2 = 0 := rfl
      have r2 : (PDsk.sync (pD cs cs.length)).2 = 0 := rfl
      clear hall hlw hld EA EB EC hkn2 hkn r1 r2
      generalize pD cs cs.length = DD at *
      generalize pS cs ks cs.length = DS at *
      go_wp2_with fail
      refine (copy_any _ (HD.out.get (l1 := [⟨bs, DS, os⟩, ⟨bn, PDsk.new 4, on⟩])) HLD.out).mono ?_
      rintro e wc ⟨ba, oba, rfl, hdn, hon, hb⟩
      have HDc := Lib.hid (HD.out.add HB.out.size hb hdn hon)
      have HBc := Lib.hid (HB.out.step hb)
      have HSc := Lib.hid (HS.out.keep fun j e => hb.block j (HS.out.lt j e).2)
      clear hdn hon hb HD HB HS
      have HD := HDc
      have HB := HBc
      have HS := HSc
      clear HDc HBc HSc
      go_wp2_with fail
      refine (copy_any _ (HD.out.get (l1 := [⟨ba, DD, oba⟩, ⟨bs, DS, os⟩, ⟨bn, PDsk.new 4, on⟩])) HLD.out).mono ?_
      rintro e wc ⟨bb, obb, rfl, hdn, hon, hb⟩
      have HDc := Lib.hid (HD.out.add HB.out.size hb hdn hon)
      have HBc := Lib.hid (HB.out.step hb)
      have HSc := Lib.hid (HS.out.keep fun j e => hb.block j (HS.out.lt j e).2)
      clear hdn hon hb HD HB HS
      have HD := HDc
      have HB := HBc
      have HS := HSc
      clear HDc HBc HSc
      go_wp2_with fail
      refine (copy_any _ (HD.out.get (l1 := [⟨bb, DD, obb⟩, ⟨ba, DD, oba⟩, ⟨bs, DS, os⟩, ⟨bn, PDsk.new 4, on⟩])) HLD.out).mono ?_
      rintro e wc ⟨bc, obc, rfl, hdn, hon, hb⟩
      have HDc := Lib.hid (HD.out.add HB.out.size hb hdn hon)
      have HBc := Lib.hid (HB.out.step hb)
      have HSc := Lib.hid (HS.out.keep fun j e => hb.block j (HS.out.lt j e).2)
      clear hdn hon hb HD HB HS
      have HD := HDc
      have HB := HBc
      have HS := HSc
      clear HDc HBc HSc
      go_wp2_with (at_builtin; (with_reducible refine wpList_append_rd elem_bool (sl_empty _ 4 1) (HKR.out.below_base (HB.out.alloc HB.out.size _)) rfl rfl rfl rfl ?_ ?_ ?_ ?_))
      · intro u hu; simp at hu; rcases hu with ⟨_, rfl⟩ | ⟨_, rfl⟩ <;> rfl
      · omega
      · simp
      intro v' wz hz1 hz2 hz3
      obtain ⟨pz, cz, rfl⟩ := Sl.form hz1
      have hbz : Below _ _ wz := ((Below.refl _ _).alloc (Nat.le_refl _) (.cells #[] 4)).grown hz2 (by simp) (fun k e => by cases e; exact Nat.le_refl _)
      have hdis : ∀ k, (Value.slice pz ks.length cz).ownBlock = some k → k ∉ oba := fun k e hm => by
        have h1 := (hz1.lt k e).1
        have h2 := (HD.out.get (l1 := [⟨bc, DD, obc⟩, ⟨bb, DD, obb⟩])).lt k hm
        omega
      have HRZ := Lib.hid (Rd.of_sl hz1)
      have HDIS := Lib.hid hdis
      have HDc := Lib.hid (HD.out.below hbz)
      have HBc := Lib.hid (HB.out.step hbz)
      have HSc := Lib.hid (HS.out.keep fun j e => hbz.block j (HS.out.lt j e).2)
      clear hbz hdis hz1 hz2 hz3 HD HB HS
      have HD := HDc
      have HB := HBc
      have HS := HSc
      clear HDc HBc HSc
      go_wp2_with fail
      refine (crash_any _ (HD.out.get (l1 := [⟨bc, DD, obc⟩, ⟨bb, DD, obb⟩])) _ ks HRZ.out HDIS.out).mono ?_
      rintro e wd ⟨obaN, rfl, hd, hs⟩
      have HDc := Lib.hid (HD.out.step (l1 := [⟨bc, DD, obc⟩, ⟨bb, DD, obb⟩]) HB.out.size hd hs)
      have HBc := Lib.hid (HD.out.below_of (l1 := [⟨bc, DD, obc⟩, ⟨bb, DD, obb⟩]) HB.out (Nat.le_refl _) hs)
      have HSc := Lib.hid (HD.out.sl (l1 := [⟨bc, DD, obc⟩, ⟨bb, DD, obb⟩]) hs HS.out (by simp [Value.ownBlock]))
      clear hd hs HD HB HS
      have HS := HSc
      clear HSc
      have HD := HDc
      have HB := HBc
      clear HDc HBc
      go_wp2_with fail
      refine (crash_any _ (HD.out.get (l1 := [⟨bc, DD, obc⟩])) _ (List.replicate cs.length true) (Rd.of_sl HS.out) (fun k e hm => by simp [Value.ownBlock] at e; subst e; exact (HD.out.1 ⟨bb, DD, obb⟩ (by simp)).2.2 ga (by simp) hm)).mono ?_
      rintro e wd ⟨obbN, rfl, hd, hs⟩
      have HDc := Lib.hid (HD.out.step (l1 := [⟨bc, DD, obc⟩]) HB.out.size hd hs)
      have HBc := Lib.hid (HD.out.below_of (l1 := [⟨bc, DD, obc⟩]) HB.out (Nat.le_refl _) hs)
      clear hd hs HD HB
      have HD := HDc
      have HB := HBc
      clear HDc HBc
      go_wp2_with fail
      refine (crash_any _ (HD.out.get (l1 := [])) _ [] ⟨none, 0, rfl, Nat.le_refl _, by unfold maxLen; omega, fun h => absurd rfl h⟩ (by simp [Value.ownBlock])).mono ?_
      rintro e wd ⟨obcN, rfl, hd, hs⟩
      have HDc := Lib.hid (HD.out.step (l1 := []) HB.out.size hd hs)
      have HBc := Lib.hid (HD.out.below_of (l1 := []) HB.out (Nat.le_refl _) hs)
      clear hd hs HD HB
      have HD := HDc
      have HB := HBc
      clear HDc HBc
      go_wp2_with fail
      refine (sync_any _ (HD.out.get (l1 := [⟨bc, PDsk.crash DD [], obcN⟩, ⟨bb, PDsk.crash DD (List.replicate cs.length true), obbN⟩, ⟨ba, PDsk.crash DD ks, obaN⟩]))).mono ?_
      rintro e wd ⟨osF, rfl, hd, hs⟩
      have HDc := Lib.hid (HD.out.step (l1 := [⟨bc, PDsk.crash DD [], obcN⟩, ⟨bb, PDsk.crash DD (List.replicate cs.length true), obbN⟩, ⟨ba, PDsk.crash DD ks, obaN⟩]) HB.out.size hd hs)
      have HBc := Lib.hid (HD.out.below_of (l1 := [⟨bc, PDsk.crash DD [], obcN⟩, ⟨bb, PDsk.crash DD (List.replicate cs.length true), obbN⟩, ⟨ba, PDsk.crash DD ks, obaN⟩]) HB.out (Nat.le_refl _) hs)
      clear hd hs HD HB
      have HD := HDc
      have HB := HBc
      clear HDc HBc
      go_wp2_with fail
      refine (sync_any _ (HD.out.get (l1 := [⟨bc, PDsk.crash DD [], obcN⟩, ⟨bb, PDsk.crash DD (List.replicate cs.length true), obbN⟩, ⟨ba, PDsk.crash DD ks, obaN⟩, ⟨bs, (PDsk.sync DS).1, osF⟩, ⟨bn, PDsk.new 4, on⟩]))).mono ?_
      rintro e wd ⟨odF, rfl, hd, hs⟩
      have HDc := Lib.hid (HD.out.step (l1 := [⟨bc, PDsk.crash DD [], obcN⟩, ⟨bb, PDsk.crash DD (List.replicate cs.length true), obbN⟩, ⟨ba, PDsk.crash DD ks, obaN⟩, ⟨bs, (PDsk.sync DS).1, osF⟩, ⟨bn, PDsk.new 4, on⟩]) HB.out.size hd hs)
      have HBc := Lib.hid (HD.out.below_of (l1 := [⟨bc, PDsk.crash DD [], obcN⟩, ⟨bb, PDsk.crash DD (List.replicate cs.length true), obbN⟩, ⟨ba, PDsk.crash DD ks, obaN⟩, ⟨bs, (PDsk.sync DS).1, osF⟩, ⟨bn, PDsk.new 4, on⟩]) HB.out (Nat.le_refl _) hs)
      clear hd hs HD HB
      have HD := HDc
      have HB := HBc
      clear HDc HBc
      go_wp2_with fail
      refine (sure_any _ (HD.out.get (l1 := [⟨bc, PDsk.crash DD [], obcN⟩, ⟨bb, PDsk.crash DD (List.replicate cs.length true), obbN⟩]))).mono ?_; rintro e we ⟨rfl, hb⟩
      rw [HEA.out]
      have HDc := Lib.hid (HD.out.below hb)
      have HBc := Lib.hid (HB.out.step hb)
      clear hb HD HB
      have HD := HDc
      have HB := HBc
      clear HDc HBc
      go_wp2_with fail
      refine (sure_any _ (HD.out.get (l1 := [⟨bc, PDsk.crash DD [], obcN⟩, ⟨bb, PDsk.crash DD (List.replicate cs.length true), obbN⟩, ⟨ba, PDsk.crash DD ks, obaN⟩]))).mono ?_; rintro e we ⟨rfl, hb⟩
      have HDc := Lib.hid (HD.out.below hb)
      have HBc := Lib.hid (HB.out.step hb)
      clear hb HD HB
      have HD := HDc
      have HB := HBc
      clear HDc HBc
      go_wp2_with fail
      refine (sure_any _ (HD.out.get (l1 := [⟨bc, PDsk.crash DD [], obcN⟩]))).mono ?_; rintro e we ⟨rfl, hb⟩
      rw [HEB.out]
      have HDc := Lib.hid (HD.out.below hb)
      have HBc := Lib.hid (HB.out.step hb)
      clear hb HD HB
      have HD := HDc
      have HB := HBc
      clear HDc HBc
      go_wp2_with fail
      refine (sure_any _ (HD.out.get (l1 := [⟨bc, PDsk.crash DD [], obcN⟩, ⟨bb, PDsk.crash DD (List.replicate cs.length true), obbN⟩, ⟨ba, PDsk.crash DD ks, obaN⟩, ⟨bs, (PDsk.sync DS).1, osF⟩, ⟨bn, PDsk.new 4, on⟩]))).mono ?_; rintro e we ⟨rfl, hb⟩
      have HDc := Lib.hid (HD.out.below hb)
      have HBc := Lib.hid (HB.out.step hb)
      clear hb HD HB
      have HD := HDc
      have HB := HBc
      clear HDc HBc
      go_wp2_with fail
      refine (sure_any _ (HD.out.get (l1 := []))).mono ?_; rintro e we ⟨rfl, hb⟩
      rw [HEC.out]
      have HDc := Lib.hid (HD.out.below hb)
      have HBc := Lib.hid (HB.out.step hb)
      clear hb HD HB
      have HD := HDc
      have HB := HBc
      clear HDc HBc
      go_wp2_with fail
      refine (sure_any _ (HD.out.get (l1 := [⟨bc, PDsk.crash DD [], obcN⟩, ⟨bb, PDsk.crash DD (List.replicate cs.length true), obbN⟩, ⟨ba, PDsk.crash DD ks, obaN⟩, ⟨bs, (PDsk.sync DS).1, osF⟩]))).mono ?_; rintro e we ⟨rfl, hb⟩
      have HDc := Lib.hid (HD.out.below hb)
      have HBc := Lib.hid (HB.out.step hb)
      clear hb HD HB
      have HD := HDc
      have HB := HBc
      clear HDc HBc
      go_wp2_with fail
      refine (alive_any _).mono ?_; rintro e w3 ⟨rfl, hb⟩
      have HBF := HB.out.step hb
      clear hb
      go_wp2
      go_ret
      exact ⟨rfl, HBF⟩
end Go.Proofs.Ytkmgmfahhidbbaa
