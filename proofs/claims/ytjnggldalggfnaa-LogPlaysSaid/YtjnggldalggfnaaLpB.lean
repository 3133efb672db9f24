/-
  The document's log: Append, Bytes, Force, Keep.
-/
import Derived.Test.YtjnggldalggfnaaLpA
import Derived.Test.YtjnggldalggfnaaLog7
import Derived.Test.YtjnggldalggfnaaLog9
import Derived.Test.YtjnggldalggfnaaLog12
namespace PLog
structure Rf where
  n : Nat
  head : List UInt8
  first : Nat
  next : Nat
  forced : Nat
  reserved : Nat
  fix : List UInt8
  fa : Nat
  ats : List Nat
  txs : List (List UInt8)
def toRf (L : Lg) (fix : List UInt8) (fa : Nat) : Rf := ⟨L.n, L.head, L.first, L.next, L.forced, L.reserved, fix, fa, L.starts, L.texts⟩
end PLog
namespace Go.Proofs.Ytjnggldalggfnaa
open Go.RowKit
def rfV (R : PLog.Rf) (va vl : Value) : Array Value := #[.int .i64 R.n, va, vl, .string ⟨R.head.toArray⟩, .int .u64 R.first, .int .u64 R.next, .int .u64 R.forced, .int .i64 R.reserved, .string ⟨R.fix.toArray⟩, .int .i64 R.fa]
structure IsRf (w : World) (g : Nat) (R : PLog.Rf) (va vl : Value) : Prop where
  block : w.heap[g]? = some (.cells (rfV R va vl) 88 (0, 0))
  sa : Sl w 0 22 1 va R.ats.length (u64V R.ats)
  sl : Sl w 0 9 1 vl R.txs.length (strV R.txs)
  da : g ∉ ownsOf va
  dl : g ∉ ownsOf vl
  d : ∀ k ∈ ownsOf va, k ∉ ownsOf vl
def rfOwn (g : Nat) (va vl : Value) : List Nat := g :: (ownsOf va ++ ownsOf vl)
theorem IsRef.open_ {w : World} {g fa : Nat} {L : PLog.Lg} {fix : List UInt8} {own : List Nat} (h : IsRef w g L fix fa own) : L.Ok ∧ ∃ va vl, IsRf w g (PLog.toRf L fix fa) va vl ∧ own = rfOwn g va vl := by
  obtain ⟨hk, va, vl, hb, hs, hl, h1, h2, h3, rfl⟩ := h
  exact ⟨hk, va, vl, ⟨hb, hs, hl, h1, h2, h3⟩, rfl⟩
theorem IsRf.close {w : World} {g fa : Nat} {L : PLog.Lg} {fix : List UInt8} {va vl : Value} (h : IsRf w g (PLog.toRf L fix fa) va vl) (hk : L.Ok) : IsRef w g L fix fa (rfOwn g va vl) :=
  ⟨hk, va, vl, h.block, h.sa, h.sl, h.da, h.dl, h.d, rfl⟩
section
variable {w W w' : World} {g : Nat} {R : PLog.Rf} {va vl v' : Value}
theorem own_mem {v : Value} {k : Nat} : k ∈ ownsOf v ↔ v.ownBlock = some k := by simp [ownsOf]
theorem IsRf.glt (h : IsRf w g R va vl) : g < w.heap.size := (Array.getElem?_eq_some_iff.1 h.block).1
theorem IsRf.lt (h : IsRf w g R va vl) : ∀ k ∈ rfOwn g va vl, k < w.heap.size := by
  intro k hk
  simp only [rfOwn, List.mem_cons, List.mem_append] at hk
  rcases hk with rfl | hk | hk
  · exact h.glt
  · exact (h.sa.lt k (own_mem.1 hk)).2
  · exact (h.sl.lt k (own_mem.1 hk)).2
theorem IsRf.turns {bs : List Nat} (h : IsRf w g R va vl) (t : Turns bs w w') (hd : ∀ k ∈ rfOwn g va vl, k ∉ bs) : IsRf w' g R va vl :=
  ⟨(t.block g h.glt (hd g (by simp [rfOwn]))).trans h.block, h.sa.keep fun k e => t.block k (h.sa.lt k e).2 (hd k (by simp [rfOwn, ownsOf, e])), h.sl.keep fun k e => t.block k (h.sl.lt k e).2 (hd k (by simp [rfOwn, ownsOf, e])), h.da, h.dl, h.d⟩
theorem IsRf.below (h : IsRf w g R va vl) (hb : Below w.heap.size w w') : IsRf w' g R va vl := h.turns (bs := []) (Turns.of_below hb) (by simp)
theorem IsRf.cell1 (h : IsRf w g R va vl) : w.cell? ⟨g, 1, none⟩ = some va := by simp [World.cell?, h.block, rfV]
theorem IsRf.cell2 (h : IsRf w g R va vl) : w.cell? ⟨g, 2, none⟩ = some vl := by simp [World.cell?, h.block, rfV]
theorem IsRf.cell3 (h : IsRf w g R va vl) : w.cell? ⟨g, 3, none⟩ = some (.string ⟨R.head.toArray⟩) := by simp [World.cell?, h.block, rfV]
theorem IsRf.cell4 (h : IsRf w g R va vl) : w.cell? ⟨g, 4, none⟩ = some (.int .u64 R.first) := by simp [World.cell?, h.block, rfV]
theorem IsRf.cell5 (h : IsRf w g R va vl) : w.cell? ⟨g, 5, none⟩ = some (.int .u64 R.next) := by simp [World.cell?, h.block, rfV]
theorem IsRf.cell6 (h : IsRf w g R va vl) : w.cell? ⟨g, 6, none⟩ = some (.int .u64 R.forced) := by simp [World.cell?, h.block, rfV]
theorem IsRf.shut (h : IsRf w g R va vl) (j : Nat) : w.frozen? ⟨g, j, none⟩ = false := by simp [World.frozen?, h.block]
theorem IsRf.aform (h : IsRf w g R va vl) : ∃ p c, va = .slice p R.ats.length c := Sl.form h.sa
theorem IsRf.lform (h : IsRf w g R va vl) : ∃ p c, vl = .slice p R.txs.length c := Sl.form h.sl
/-- a one-cell field is written -/
theorem IsRf.field (h : IsRf w g R va vl) {R' : PLog.Rf} (j : Nat) (v : Value) (h1 : R'.ats = R.ats) (h2 : R'.txs = R.txs) (hv : (rfV R va vl).setIfInBounds j v = rfV R' va vl) :
    IsRf (w.setCell ⟨g, j, none⟩ v) g R' va vl ∧ Stepped w (w.setCell ⟨g, j, none⟩ v) (rfOwn g va vl) (rfOwn g va vl) := by
  have hne : ∀ {u : Value}, g ∉ ownsOf u → ∀ k, u.ownBlock = some k → k ≠ g := fun hn k e e2 => hn (own_mem.2 (by rw [← e2]; exact e))
  refine ⟨⟨?_, ?_, ?_, h.da, h.dl, h.d⟩, Turns.cell v (by simp [rfOwn]), fun _ h => .inl h⟩
  · rw [heap_set h.block, hv]
  · rw [h1]
    exact h.sa.keep fun k e => Below.heap_setCell w ⟨g, j, none⟩ v k (hne h.da k e)
  · rw [h2]
    exact h.sl.keep fun k e => Below.heap_setCell w ⟨g, j, none⟩ v k (hne h.dl k e)
/-- a row is replaced: the starts' -/
theorem IsRf.rowA (h : IsRf w g R va vl) {xs : List Nat} (hu : IsRf w' g R va vl ∨ (w'.heap[g]? = some (.cells (rfV R va vl) 88 (0, 0)) ∧ Sl w' 0 9 1 vl R.txs.length (strV R.txs)))
    (t : Turns (ownsOf va) w w') (s : Sl w' 0 22 1 v' xs.length (u64V xs)) (hk : ∀ k, v'.ownBlock = some k → va.ownBlock = some k ∨ w.heap.size ≤ k) :
    IsRf (w'.setCell ⟨g, 1, none⟩ v') g { R with ats := xs } v' vl ∧ Stepped w (w'.setCell ⟨g, 1, none⟩ v') (rfOwn g va vl) (rfOwn g v' vl) := by
  have hb : w'.heap[g]? = some (.cells (rfV R va vl) 88 (0, 0)) := by
    rcases hu with hu | hu
    · exact hu.block
    · exact hu.1
  have hsl : Sl w' 0 9 1 vl R.txs.length (strV R.txs) := by
    rcases hu with hu | hu
    · exact hu.sl
    · exact hu.2
  have hg := h.glt
  have n1 : ∀ k, v'.ownBlock = some k → k ≠ g := fun k e e2 => by
    subst e2
    rcases hk _ e with hh | hh
    · exact h.da (own_mem.2 hh)
    · omega
  have n2 : ∀ k, vl.ownBlock = some k → k ≠ g := fun k e e2 => h.dl (own_mem.2 (by rw [← e2]; exact e))
  refine ⟨⟨?_, s.keep fun k e => Below.heap_setCell _ ⟨g, 1, none⟩ _ k (n1 k e), hsl.keep fun k e => Below.heap_setCell _ ⟨g, 1, none⟩ _ k (n2 k e), fun hm => n1 g (own_mem.1 hm) rfl, h.dl, ?_⟩, ?_, ?_⟩
  · rw [heap_set hb]
    simp [rfV]
  · intro k hm hm2
    rcases hk k (own_mem.1 hm) with hh | hh
    · exact h.d k (own_mem.2 hh) hm2
    · have := (h.sl.lt k (own_mem.1 hm2)).2; omega
  · exact (t.mono (fun k hk => by simp only [rfOwn, List.mem_cons, List.mem_append]; exact .inr (.inl hk))).set (by simp [rfOwn]) _
  · intro k hm
    simp only [rfOwn, List.mem_cons, List.mem_append] at hm ⊢
    rcases hm with rfl | hm | hm
    · exact .inl (.inl rfl)
    · rcases hk k (own_mem.1 hm) with hh | hh
      · exact .inl (.inr (.inl (own_mem.2 hh)))
      · exact .inr hh
    · exact .inl (.inr (.inr hm))
/-- .. the texts' -/
theorem IsRf.rowL (h : IsRf w g R va vl) {xs : List (List UInt8)} (hu : IsRf w' g R va vl ∨ (w'.heap[g]? = some (.cells (rfV R va vl) 88 (0, 0)) ∧ Sl w' 0 22 1 va R.ats.length (u64V R.ats)))
    (t : Turns (ownsOf vl) w w') (s : Sl w' 0 9 1 v' xs.length (strV xs)) (hk : ∀ k, v'.ownBlock = some k → vl.ownBlock = some k ∨ w.heap.size ≤ k) :
    IsRf (w'.setCell ⟨g, 2, none⟩ v') g { R with txs := xs } va v' ∧ Stepped w (w'.setCell ⟨g, 2, none⟩ v') (rfOwn g va vl) (rfOwn g va v') := by
  have hb : w'.heap[g]? = some (.cells (rfV R va vl) 88 (0, 0)) := by
    rcases hu with hu | hu
    · exact hu.block
    · exact hu.1
  have hsa : Sl w' 0 22 1 va R.ats.length (u64V R.ats) := by
    rcases hu with hu | hu
    · exact hu.sa
    · exact hu.2
  have hg := h.glt
  have n1 : ∀ k, v'.ownBlock = some k → k ≠ g := fun k e e2 => by
    subst e2
    rcases hk _ e with hh | hh
    · exact h.dl (own_mem.2 hh)
    · omega
  have n2 : ∀ k, va.ownBlock = some k → k ≠ g := fun k e e2 => h.da (own_mem.2 (by rw [← e2]; exact e))
  refine ⟨⟨?_, hsa.keep fun k e => Below.heap_setCell _ ⟨g, 2, none⟩ _ k (n2 k e), s.keep fun k e => Below.heap_setCell _ ⟨g, 2, none⟩ _ k (n1 k e), h.da, fun hm => n1 g (own_mem.1 hm) rfl, ?_⟩, ?_, ?_⟩
  · rw [heap_set hb]
    simp [rfV]
  · intro k hm hm2
    rcases hk k (own_mem.1 hm2) with hh | hh
    · exact h.d k hm (own_mem.2 hh)
    · have := (h.sa.lt k (own_mem.1 hm)).2; omega
  · exact (t.mono (fun k hk => by simp only [rfOwn, List.mem_cons, List.mem_append]; exact .inr (.inr hk))).set (by simp [rfOwn]) _
  · intro k hm
    simp only [rfOwn, List.mem_cons, List.mem_append] at hm ⊢
    rcases hm with rfl | hm | hm
    · exact .inl (.inl rfl)
    · exact .inl (.inr (.inl hm))
    · rcases hk k (own_mem.1 hm) with hh | hh
      · exact .inl (.inr (.inr (own_mem.2 hh)))
      · exact .inr hh
/-- one is appended to the starts -/
theorem IsRf.pushA (h : IsRf w g R va vl) (hB : Below w.heap.size w W) {x : Nat} (s : Sl w' 0 22 1 v' (R.ats.length + 1) (u64V R.ats ++ [.int .u64 x])) (hg : W.grownBy w' va.ownBlock) (hk : ∀ k, v'.ownBlock = some k → va.ownBlock = some k ∨ W.heap.size ≤ k) :
    IsRf (w'.setCell ⟨g, 1, none⟩ v') g { R with ats := R.ats ++ [x] } v' vl ∧ Stepped w (w'.setCell ⟨g, 1, none⟩ v') (rfOwn g va vl) (rfOwn g v' vl) := by
  refine h.rowA (.inr ⟨heap_grownA h.block hB hg (ns_of h.da), Sl.grownA h.sl hB hg fun k e => ns_of (fun hm => h.d k hm (own_mem.2 e))⟩) (grown_stepped hB hg) ?_ (grown_new hB hk)
  rw [List.length_append, u64V_append]
  exact s
theorem strV_snoc (l : List (List UInt8)) (t : List UInt8) : strV (l ++ [t]) = strV l ++ [.string ⟨t.toArray⟩] := by simp [strV]
/-- .. to the texts -/
theorem IsRf.pushL (h : IsRf w g R va vl) (hB : Below w.heap.size w W) {x : List UInt8} (s : Sl w' 0 9 1 v' (R.txs.length + 1) (strV R.txs ++ [.string ⟨x.toArray⟩])) (hg : W.grownBy w' vl.ownBlock) (hk : ∀ k, v'.ownBlock = some k → vl.ownBlock = some k ∨ W.heap.size ≤ k) :
    IsRf (w'.setCell ⟨g, 2, none⟩ v') g { R with txs := R.txs ++ [x] } va v' ∧ Stepped w (w'.setCell ⟨g, 2, none⟩ v') (rfOwn g va vl) (rfOwn g va v') := by
  refine h.rowL (.inr ⟨heap_grownA h.block hB hg (ns_of h.dl), Sl.grownA h.sa hB hg fun k e => ns_of (h.d k (own_mem.2 e))⟩) (grown_stepped hB hg) ?_ (grown_new hB hk)
  rw [List.length_append, strV_snoc]
  exact s
end
theorem news_at (w : World) (vs : List Value) (e : TypeId) (fz : Nat × Nat) {k : Nat} (hk : k = w.heap.size) : ∀ j u, vs[j]? = some u → (w.alloc (.cells vs.toArray e fz)).cell? ((⟨k, 0, none⟩ : Addr).add j) = some u := by
  subst hk
  exact news_alloc w vs e fz
set_option maxRecDepth 20000 in
set_option maxHeartbeats 2000000 in
theorem rappend_yes {g fa : Nat} {L : PLog.Lg} {fix : List UInt8} {own : List Nat} (w : World) (h : IsRef w g L fix fa own) (s : ByteArray) (hn : L.next ≤ 8900000000000000000) (h1 : 1 ≤ s.size) (h2 : s.size ≤ 4096) (h3 : s.size + 14 ≤ L.room) :
    Calls Try.prog 46 #[.pointer (some ⟨g, 0, none⟩), .string s] w (RAppPost g L s.data.toList fix fa own w) := by
  have hls := list_size s
  have HQ : Hid (PLog.append L s.data.toList = ({ L with texts := L.texts ++ [s.data.toList] }, L.next, 0)) := Lib.hid (by
    unfold PLog.append
    rw [if_neg (by omega), if_neg (by omega)])
  have hok2 := PLog.append_ok h.1 s.data.toList hn
  rw [HQ.out] at hok2
  have HOK2 := Lib.hid hok2
  have H := Lib.hid h
  have HRM := Lib.hid (fun W (hW : IsRef W g L fix fa own) => rroom_any W hW)
  have hMb : L.texts.length ≤ 1000000 := by have := Lg_starts_len h.1; unfold PLog.Lg.starts at this; rwa [PLog.startsOf_length] at this
  have hst : L.starts.length = L.texts.length := by unfold PLog.Lg.starts; rw [PLog.startsOf_length]
  have HEND : Hid (L.starts ++ [L.next] = ({ L with texts := L.texts ++ [s.data.toList] } : PLog.Lg).starts ∧ ({ L with texts := L.texts ++ [s.data.toList] } : PLog.Lg).next = L.next + (14 + s.size)) := Lib.hid (by
    refine ⟨?_, ?_⟩
    · show _ = PLog.startsOf L.first (L.texts ++ [s.data.toList])
      rw [PLog.startsOf_append]
      rfl
    · show PLog.endOf L.first (L.texts ++ [s.data.toList]) = _
      rw [PLog.endOf_append]
      show PLog.endOf L.first L.texts + (14 + s.data.toList.length) = PLog.endOf L.first L.texts + _
      omega)
  obtain ⟨R, hR⟩ : ∃ R, L.room = R := ⟨_, rfl⟩
  rw [hR] at HRM h3
  obtain ⟨y, hy⟩ : ∃ y, L.next = y := ⟨_, rfl⟩
  rw [hy] at hn
  have HY := Lib.hid hy
  obtain ⟨M, hM⟩ : ∃ M, L.texts.length = M := ⟨_, rfl⟩
  rw [hM] at hMb hst
  have HM := Lib.hid hM
  have HM2 := Lib.hid hst
  obtain ⟨S, hS⟩ : ∃ S, S = 14 + s.size := ⟨_, rfl⟩
  have HS := Lib.hid hS
  have w1 : IntKind.i64.wrap ((14 : Int) + s.size) = S := by rw [IntWalk.i64_in _ (by omega)]; omega
  have w2 : IntKind.u64.wrap (S : Int) = S := IntWalk.u64_in _ (by omega)
  have w3 : IntKind.u64.wrap ((y : Int) + S) = (y + S : Nat) := by rw [IntWalk.u64_in _ (by omega)]; omega
  have z1 : ¬ (s.size : Int) < 1 := by omega
  have z2 : ¬ (4096 : Int) < s.size := by omega
  have z3 : ¬ (R : Int) < S := by omega
  clear h hls hok2 hR h3 hy hM hst hS
  go_enter Try.func46, Try.ntmps46
  go_wp2_with fail
  refine (HRM.out _ H.out).mono ?_; rintro e w2 ⟨rfl, hb⟩
  have HB := Lib.hid hb
  obtain ⟨_, va, vl, hf, hown⟩ := (H.out.below hb).open_
  have HF := Lib.hid hf
  have HOWN := Lib.hid hown
  have c1 := hf.cell1
  have c5 : w2.cell? ⟨g, 5, none⟩ = some (.int .u64 y) := by rw [← HY.out]; exact hf.cell5
  obtain ⟨pa, ca, rfl⟩ := hf.aform
  obtain ⟨pl, cl, rfl⟩ := hf.lform
  have e1 : (PLog.toRf L fix fa).ats.length = M := HM2.out
  have e2 : (PLog.toRf L fix fa).txs.length = M := HM.out
  have hsa := hf.sa
  rw [e1, e2] at HF
  rw [e1] at c1 hsa HOWN
  rw [e2] at HOWN
  have HSA := Lib.hid hsa
  have HE1 := Lib.hid e1
  have HE2 := Lib.hid e2
  clear hb hf hown e1 e2 hsa
  go_wp2_with (first
    | (at_builtin; (with_reducible apply wpList_append_sl elem_u64 (HSA.out.alloc _) [.int .u64 y]); (· rfl); (· rfl); (· rfl); (· rfl); (· rfl); (· exact news_alloc _ [_] _ _); (· intro u hu; simp at hu; subst hu; rfl); (· unfold maxLen; omega); (· omega); (· exact Nat.zero_le _); intro v' w3 k1 k2 _ k3; obtain ⟨pa3, ca3, rfl⟩ := Sl.form k1; have HP := Lib.hid (HF.out.pushA ((Below.refl _ _).alloc (Nat.le_refl _) _) (by rw [HE1.out]; exact k1) k2 k3); have hb3 := heap_grownA HF.out.block ((Below.refl _ _).alloc (Nat.le_refl _) _) k2 (ns_of HF.out.da); have c13 : w3.cell? ⟨g, 1, none⟩ = some (.slice pa M ca) := (by simp [World.cell?, hb3, rfV]); have c23 : w3.cell? ⟨g, 2, none⟩ = some (.slice pl M cl) := (by simp [World.cell?, hb3, rfV]); have f13 : w3.frozen? ⟨g, 1, none⟩ = false := (by simp [World.frozen?, hb3]); clear k1 k2 k3 hb3; have HSL := Lib.hid HP.out.1.sl; rw [show ({ PLog.toRf L fix fa with ats := (PLog.toRf L fix fa).ats ++ [y] } : PLog.Rf).txs.length = M from HE2.out] at HSL)
    | (at_builtin; (with_reducible apply wpList_append_sl elem_str (HSL.out.alloc _) [.string s]); (· rfl); (· rfl); (· rfl); (· rfl); (· rfl); (· exact news_at _ [_] _ _ (by simp only [World.size_setCell])); (· intro u hu; simp at hu; subst hu; rfl); (· unfold maxLen; omega); (· omega); (· exact Nat.zero_le _); intro v' w4 k1 k2 _ k3; obtain ⟨pl4, cl4, rfl⟩ := Sl.form k1; have HP2 := Lib.hid (HP.out.1.pushL (x := s.data.toList) ((Below.refl _ _).alloc (Nat.le_refl _) _) (by rw [HE2.out]; exact k1) k2 k3); have hb4 := heap_grownA HP.out.1.block ((Below.refl _ _).alloc (Nat.le_refl _) _) k2 (ns_of HP.out.1.dl); have c24 : w4.cell? ⟨g, 2, none⟩ = some (.slice pl M cl) := (by simp [World.cell?, hb4, rfV]); have f24 : w4.frozen? ⟨g, 2, none⟩ = false := (by simp [World.frozen?, hb4]); have c54 : w4.cell? ⟨g, 5, none⟩ = some (.int .u64 y) := (by rw [← HY.out]; simp [World.cell?, hb4, rfV, PLog.toRf]); have f54 : w4.frozen? ⟨g, 5, none⟩ = false := (by simp [World.frozen?, hb4]); clear k1 k2 k3 hb4))
  go_ret2
  obtain ⟨q1, q2⟩ := HP2.out.1.field (R' := PLog.toRf { L with texts := L.texts ++ [s.data.toList] } fix fa) 5 (.int .u64 ((y : Int) + S)) (by show ({ L with texts := L.texts ++ [s.data.toList] } : PLog.Lg).starts = L.starts ++ [y]; rw [← HEND.out.1, HY.out]) rfl (by
    have e := HEND.out.2
    rw [HY.out, ← HS.out] at e
    simp [rfV, PLog.toRf, e])
  unfold RAppPost
  rw [HQ.out, HY.out]
  refine ⟨_, rfl, q1.close HOK2.out, ?_⟩
  rw [HOWN.out]
  have hst := ((Stepped.of_below HB.out _).trans HP.out.2).trans HP2.out.2
  exact hst.trans q2
theorem rappend_any {g fa : Nat} {L : PLog.Lg} {fix : List UInt8} {own : List Nat} (w : World) (h : IsRef w g L fix fa own) (s : ByteArray) (hn : L.next ≤ 8900000000000000000) :
    Calls Try.prog 46 #[.pointer (some ⟨g, 0, none⟩), .string s] w (RAppPost g L s.data.toList fix fa own w) := by
  by_cases h1 : s.size < 1 ∨ 4096 < s.size
  · exact rappend_no w h s h1
  by_cases h2 : L.room < s.size + 14
  · exact rappend_full w h s (by omega) (by omega) h2
  exact rappend_yes w h s hn (by omega) (by omega) (by omega)
end Go.Proofs.Ytjnggldalggfnaa
namespace Go.Proofs.Ytjnggldalggfnaa
open Go.RowKit
section
variable {w W : World} {g fa : Nat} {L : PLog.Lg} {fix : List UInt8} {va vl : Value}
theorem IsRf.at_ {pa : Option Addr} {n ca : Nat} {R : PLog.Rf} (h : IsRf w g R (.slice pa n ca) vl) (hn : R.ats.length = n) {i : Nat} (hi : i < n) : ∃ ga oa, pa = some ⟨ga, oa, none⟩ ∧ ga < w.heap.size ∧ ∃ x, R.ats[i]? = some x ∧ w.cell? ⟨ga, oa + i, none⟩ = some (.int .u64 (x : Nat)) := by
  obtain ⟨p, c, e1, h2, h3, h4⟩ := Rd.of_sl h.sa
  have hi' : i < (u64V R.ats).length := by rw [u64V_length]; omega
  obtain ⟨ga, oa, rfl, e2, e3⟩ := h4 (fun e => by rw [e] at hi'; simp at hi')
  rw [Value.slice.injEq] at e1
  refine ⟨ga, oa, e1.1, e2, R.ats[i]'(by omega), List.getElem?_eq_getElem (by omega), ?_⟩
  rw [e3 i hi', u64V_at]
theorem IsRf.tx_ {pl : Option Addr} {n cl : Nat} {R : PLog.Rf} (h : IsRf w g R va (.slice pl n cl)) (hn : R.txs.length = n) {i : Nat} (hi : i < n) : ∃ gl ol, pl = some ⟨gl, ol, none⟩ ∧ gl < w.heap.size ∧ ∃ x, R.txs[i]? = some x ∧ w.cell? ⟨gl, ol + i, none⟩ = some (.string ⟨x.toArray⟩) := by
  obtain ⟨p, c, e1, h2, h3, h4⟩ := Rd.of_sl h.sl
  have hi' : i < (strV R.txs).length := by rw [strV_length]; omega
  obtain ⟨ga, oa, rfl, e2, e3⟩ := h4 (fun e => by rw [e] at hi'; simp at hi')
  rw [Value.slice.injEq] at e1
  refine ⟨ga, oa, e1.1, e2, R.txs[i]'(by omega), List.getElem?_eq_getElem (by omega), ?_⟩
  rw [e3 i hi']
  simp [strV]
end
theorem bytes_step {L : PLog.Lg} (_ : L.Ok) {i : Nat} (hi : i < L.texts.length) {x : Nat} {t : List UInt8} (hx : L.starts[i]? = some x) (ht : L.texts[i]? = some t) :
    L.head ++ PLog.framesOf L.first (L.texts.take (i + 1)) = L.head ++ PLog.framesOf L.first (L.texts.take i) ++ PFrm.frame x t := by
  have hx' : x = PLog.endOf L.first (L.texts.take i) := by
    have hl : i < (PLog.startsOf L.first L.texts).length := by rw [PLog.startsOf_length]; exact hi
    have e := PLog.startsOf_at L.texts L.first i hl
    have e2 : (PLog.startsOf L.first L.texts)[i]? = some x := hx
    rw [List.getElem?_eq_getElem hl] at e2
    rw [← e]
    exact (Option.some.inj e2).symm
  have ht' : L.texts[i] = t := by
    rw [List.getElem?_eq_getElem hi] at ht
    exact Option.some.inj ht
  rw [List.take_succ_eq_append_getElem hi, PLog.framesOf_append, ht', hx', List.append_assoc]
  show _ ++ (_ ++ (PFrm.frame _ _ ++ [])) = _
  rw [List.append_nil]
theorem encode_in {x : Nat} {t : List UInt8} (h1 : 1 ≤ t.length) (h2 : t.length ≤ 4096) (h3 : x ≠ 0) : PFrm.encode x t = (PFrm.frame x t, 0) := by
  unfold PFrm.encode
  rw [if_pos ((PFrm.may_iff _ _).2 ⟨h1, by omega, h3⟩)]
set_option maxRecDepth 200000 in
set_option maxHeartbeats 2000000 in
theorem rbytes_any {g fa : Nat} {L : PLog.Lg} {fix : List UInt8} {own : List Nat} (w : World) (h : IsRef w g L fix fa own) :
    Calls Try.prog 70 #[.pointer (some ⟨g, 0, none⟩)] w fun e w' => e = .returned (.string ⟨L.bytes.toArray⟩) ∧ Below w.heap.size w w' := by
  obtain ⟨hk, va, vl, hf, hown⟩ := h.open_
  clear hown
  obtain ⟨pa, ca, rfl⟩ := hf.aform
  obtain ⟨pl, cl, rfl⟩ := hf.lform
  obtain ⟨n, hn⟩ : ∃ n, L.texts.length = n := ⟨_, rfl⟩
  have hst : L.starts.length = n := by unfold PLog.Lg.starts; rw [PLog.startsOf_length, hn]
  have e1 : (PLog.toRf L fix fa).ats.length = n := hst
  have e2 : (PLog.toRf L fix fa).txs.length = n := hn
  have hnb : n ≤ 1000000 := by have := Lg_starts_len hk; omega
  rw [e1, e2] at hf
  have HA := Lib.hid (fun i (hi : i < n) => hf.at_ e1 hi)
  have HT := Lib.hid (fun i (hi : i < n) => hf.tx_ e2 hi)
  have c1 := hf.cell1
  have c2 := hf.cell2
  have c3 : w.cell? ⟨g, 3, none⟩ = some (.string ⟨L.head.toArray⟩) := hf.cell3
  have hg := hf.glt
  have HST : Hid (∀ i (hi : i < n) x t, L.starts[i]? = some x → L.texts[i]? = some t → L.head ++ PLog.framesOf L.first (L.texts.take (i + 1)) = L.head ++ PLog.framesOf L.first (L.texts.take i) ++ PFrm.frame x t) := Lib.hid (fun i hi x t h1 h2 => bytes_step hk (by omega) h1 h2)
  have HEN : Hid (∀ i (hi : i < n) x t, L.starts[i]? = some x → L.texts[i]? = some t → ∀ W, Calls Try.prog 80 #[.int .u64 x, .string ⟨t.toArray⟩] W fun e w' => e = .returned (.string ⟨(PFrm.frame x t).toArray⟩) ∧ Below W.heap.size W w') := Lib.hid (fun i hi x t h1 h2 W => by
    have hl : i < L.starts.length := by omega
    have hx : L.starts[i] = x := by rw [List.getElem?_eq_getElem hl] at h1; exact Option.some.inj h1
    have ht : L.texts[i]'(by omega) = t := by rw [List.getElem?_eq_getElem (by omega)] at h2; exact Option.some.inj h2
    have hm : t ∈ L.texts := by rw [← ht]; exact List.getElem_mem _
    have hto := hk.texts t hm
    have hat := PLog.startsOf_at L.texts L.first i (by rw [PLog.startsOf_length]; omega)
    have hle := PLog.endOf_take_le L.texts L.first i L.texts.length (by omega)
    rw [List.take_length] at hle
    have hnx := hk.next5
    have hxe : x = PLog.endOf L.first (L.texts.take i) := by rw [← hx]; exact hat
    have hge := PLog.endOf_le (L.texts.take i) L.first
    have hf1 := hk.first
    have hxl : x < 18446744073709551616 := by
      have : PLog.endOf L.first L.texts = L.next := rfl
      omega
    have := rencode_any x ⟨t.toArray⟩ hxl (by rw [size_mk]; unfold maxLen; omega) W
    rw [encode_in (t := (⟨t.toArray⟩ : ByteArray).data.toList) (by simp; omega) (by simp; omega) (by omega)] at this
    simpa using this)
  obtain ⟨B, hB⟩ : ∃ B : Nat → List UInt8, B = fun i => L.head ++ PLog.framesOf L.first (L.texts.take i) := ⟨_, rfl⟩
  have HB0 : Hid (B 0 = L.head) := Lib.hid (by rw [hB]; simp [PLog.framesOf])
  have HEND : Hid (B n = L.bytes) := Lib.hid (by rw [hB, ← hn]; simp only [List.take_length]; rfl)
  have HR : Hid (∀ i, i < n → ∃ ga oa gl ol x t f, pa = some ⟨ga, oa, none⟩ ∧ ga < w.heap.size ∧ w.cell? ⟨ga, oa + i, none⟩ = some (.int .u64 (x : Nat)) ∧ pl = some ⟨gl, ol, none⟩ ∧ gl < w.heap.size ∧ w.cell? ⟨gl, ol + i, none⟩ = some (.string t) ∧
      (∀ W, Calls Try.prog 80 #[.int .u64 x, .string t] W fun e w' => e = .returned (.string f) ∧ Below W.heap.size W w') ∧ (⟨(B i).toArray⟩ : ByteArray) ++ f = ⟨(B (i + 1)).toArray⟩ ∧ (⟨(B i).toArray⟩ : ByteArray).size + f.size ≤ 900000) := Lib.hid (fun i hi => by
    obtain ⟨ga, oa, a1, a2, x, a3, a4⟩ := HA.out i hi
    obtain ⟨gl, ol, b1, b2, t, b3, b4⟩ := HT.out i hi
    refine ⟨ga, oa, gl, ol, x, _, _, a1, a2, a4, b1, b2, b4, HEN.out i hi x t a3 b3, ?_, ?_⟩
    · rw [app_mk, hB]
      simp only
      rw [HST.out i hi x t a3 b3]
    · have e := HST.out i hi x t a3 b3
      have hl : (L.head ++ PLog.framesOf L.first (L.texts.take (i + 1))).length = (L.head ++ PLog.framesOf L.first (L.texts.take i)).length + (PFrm.frame x t).length := by rw [e, ← List.length_append]
      have hb2 : (B i).length = (L.head ++ PLog.framesOf L.first (L.texts.take i)).length := by rw [hB]
      rw [size_mk, size_mk, hb2, ← hl, List.length_append]
      have h1 := PLog.framesOf_length (L.texts.take (i + 1)) L.first
      have h2 := PLog.endOf_take_le L.texts L.first (i + 1) L.texts.length (by omega)
      rw [List.take_length] at h2
      have h3 := hk.head
      have h4 := hk.ring
      have h5 := hk.n5
      have h6 := PLog.begin_le L.first
      have h7 : PLog.endOf L.first L.texts = L.next := rfl
      have h8 := L.first_next
      omega)
  obtain ⟨hd, hhd⟩ : ∃ hd, L.head = hd := ⟨_, rfl⟩
  rw [hhd] at HB0 c3
  obtain ⟨bs, hbs⟩ : ∃ bs, L.bytes = bs := ⟨_, rfl⟩
  rw [hbs] at HEND ⊢
  have i9 : (n : Int) < 9223372036854775807 := by omega
  clear h hk hn hst e1 e2 hf HA HT HST HEN hB hhd hbs
  go_enter Try.func70, Try.ntmps70
  go_wp2_with fail
  go_loopw [3, 4] (fun sv iv wr => ∃ i : Nat, i ≤ n ∧ iv = .int .i64 i ∧ sv = .string ⟨(B i).toArray⟩ ∧ Below w.heap.size w wr) (fun _ iv _ => n - (intOf iv).toNat)
  case atStart => exact ⟨0, Nat.zero_le _, rfl, by rw [HB0.out], Below.refl _ _⟩
  case round =>
    obtain ⟨i, hi, rfl, rfl, hB⟩ := hrel
    have HB := Lib.hid hB
    have c1' := (hB.cell (p := ⟨g, 1, none⟩) hg).trans c1
    have c2' := (hB.cell (p := ⟨g, 2, none⟩) hg).trans c2
    have i0 : (0 : Int) ≤ i := by omega
    by_cases hlt : i < n
    · have i1 : (i : Int) < n := by omega
      obtain ⟨ga, oa, gl, ol, x, t, f, rfl, a2, a3, rfl, b2, b3, HC, hap, hsz⟩ := HR.out i hlt
      have a3' := (hB.cell (p := ⟨ga, oa + i, none⟩) a2).trans a3
      have b3' := (hB.cell (p := ⟨gl, ol + i, none⟩) b2).trans b3
      have HAP := Lib.hid hap
      have HCC := Lib.hid HC
      obtain ⟨bi, hbi⟩ : ∃ bi : ByteArray, (⟨(B i).toArray⟩ : ByteArray) = bi := ⟨_, rfl⟩
      rw [hbi] at HAP hsz ⊢
      have hsm : ¬ (9223372036854775807 < bi.size + f.size) := by omega
      clear hsz
      clear hB c1 c2 c3 a3 b3 HC hap hbi
      go_wp2_with fail
      go_region_law ((try go_simp); ((with_reducible refine (HCC.out _).mono ?_); rintro e w4 ⟨rfl, hb⟩; have HB4 := Lib.hid (HB.out.drew.step hb); clear hb); go_wp2_with fail)
      all_goals (
        go_wp2
        exact ⟨⟨i + 1, by omega, by go_num, by rw [← HAP.out], HB4.out⟩, by simp [intOf]; omega⟩)
    · have i1 : ¬ (i : Int) < n := by omega
      have hin : i = n := by omega
      subst hin
      clear hlt
      go_wp2
      go_ret
      exact ⟨by rw [HEND.out]; rfl, HB.out⟩
end Go.Proofs.Ytjnggldalggfnaa
namespace PLog
def place (L : Lg) (i : Nat) : Nat := (begin L.forced + 110 * i) / 110 % L.n
def img (L : Lg) (i : Nat) : List UInt8 := image (begin L.forced + 110 * i) L.life (part L (begin L.forced + 110 * i))
theorem out_eq (L : Lg) (i : Nat) : out L i = (L.pl + place L i, img L i) := rfl
def imgs (L : Lg) (i : Nat) : List (List UInt8) := (List.range i).map (img L)
def places (L : Lg) (i : Nat) : List Nat := (List.range i).map (place L)
theorem imgs_succ (L : Lg) (i : Nat) : imgs L (i + 1) = imgs L i ++ [img L i] := by simp [imgs, List.range_succ]
theorem places_succ (L : Lg) (i : Nat) : places L (i + 1) = places L i ++ [place L i] := by simp [places, List.range_succ]
/-- what the document's Force answers: the log, how many sectors it writes -/
def rforce (L : Lg) (x : Nat) : Lg × Nat × Int :=
  if L.next < x then (L, 0, 2) else if x < L.forced ∨ L.forced = L.next then (L, 0, 0) else ({ L with forced := L.next }, stretches L, 0)
end PLog
namespace Go.Proofs.Ytjnggldalggfnaa
open Go.RowKit
def natV (l : List Nat) : List Value := l.map fun x : Nat => Value.int .i64 (x : Int)
theorem natV_length (l : List Nat) : (natV l).length = l.length := by simp [natV]
theorem natV_snoc (l : List Nat) (x : Nat) : natV (l ++ [x]) = natV l ++ [.int .i64 (x : Int)] := by simp [natV]
theorem elem_int : ElemT Try.prog 106 3 1 8 := ElemT.mk' (z := .int .i64 0) Try.underlying106 (by kernel_rfl) rfl (by decide)
def RFPost (g : Nat) (L : PLog.Lg) (x : Nat) (fix : List UInt8) (fa : Nat) (own : List Nat) (w : World) (e : Ending) (w' : World) : Prop := ∃ vw va own', e = .returned (.tuple #[vw, va, .int .i64 (PLog.rforce L x).2.2]) ∧
  Sl w' w.heap.size 9 1 vw (PLog.rforce L x).2.1 (strV (PLog.imgs L (PLog.rforce L x).2.1)) ∧ Sl w' w.heap.size 3 1 va (PLog.rforce L x).2.1 (natV (PLog.places L (PLog.rforce L x).2.1)) ∧ IsRef w' g (PLog.rforce L x).1 fix fa own' ∧ Stepped w w' own own'
theorem rforce_no {g fa : Nat} {L : PLog.Lg} {fix : List UInt8} {own : List Nat} (w : World) (h : IsRef w g L fix fa own) (x : Nat) (hx : L.next < x ∨ x < L.forced ∨ L.forced = L.next) :
    Calls Try.prog 68 #[.pointer (some ⟨g, 0, none⟩), .int .u64 x, .int .u64 L.life] w (RFPost g L x fix fa own w) := by
  have H := Lib.hid h
  obtain ⟨_, _, _, c5, c6, _⟩ := h.cells
  by_cases h1 : L.next < x
  · have HQ : Hid (PLog.rforce L x = (L, 0, 2)) := Lib.hid (by unfold PLog.rforce; rw [if_pos h1])
    have z1 : (L.next : Int) < x := by omega
    clear h hx h1
    go_enter Try.func68, Try.ntmps68
    go_wp2
    go_ret3
    unfold RFPost
    rw [HQ.out]
    exact ⟨_, _, own, rfl, Sl.nil _ _ _ _, Sl.nil _ _ _ _, H.out.below (Below.refl _ _), Stepped.of_below (Below.refl _ _) own⟩
  have HQ : Hid (PLog.rforce L x = (L, 0, 0)) := Lib.hid (by unfold PLog.rforce; rw [if_neg h1, if_pos (by omega)])
  have z1 : ¬ (L.next : Int) < x := by omega
  by_cases h2 : x < L.forced
  · have z2 : decide (x < L.forced) = true := by simpa using h2
    clear h hx h1 h2
    go_enter Try.func68, Try.ntmps68
    go_wp2_with fail
    go_quiet (fail)
    go_wp2
    go_ret3
    unfold RFPost
    rw [HQ.out]
    exact ⟨_, _, own, rfl, Sl.nil _ _ _ _, Sl.nil _ _ _ _, H.out.below (lowN _ _), Stepped.of_below (lowN _ _) own⟩
  have h3 : L.forced = L.next := by omega
  have z2 : decide (x < L.forced) = false := by simpa using h2
  rw [h3] at c6 z2
  clear h hx h1 h2 h3
  go_enter Try.func68, Try.ntmps68
  go_wp2_with fail
  go_quiet (fail)
  go_wp2
  go_ret3
  unfold RFPost
  rw [HQ.out]
  exact ⟨_, _, own, rfl, Sl.nil _ _ _ _, Sl.nil _ _ _ _, H.out.below (lowN _ _), Stepped.of_below (lowN _ _) own⟩
theorem IsRef.setForced {w : World} {g fa : Nat} {L : PLog.Lg} {fix : List UInt8} {own : List Nat} (h : IsRef w g L fix fa own) (f : Nat) (hr : ({ L with forced := f } : PLog.Lg).Ok) (v : Value) (hv : v = .int .u64 f) :
    IsRef (w.setCell ⟨g, 6, none⟩ v) g { L with forced := f } fix fa own ∧ Stepped w (w.setCell ⟨g, 6, none⟩ v) own own := by
  subst hv
  exact h.field hr rfl rfl 6 _ (fun vb vs => by simp [refV]; rfl)
/-- Force under way: what was appended to its two rows -/
def RfS (w0 wr : World) (vw va : Value) (L : PLog.Lg) (i : Nat) : Prop := Sl wr w0.heap.size 9 1 vw i (strV (PLog.imgs L i)) ∧ Sl wr w0.heap.size 3 1 va i (natV (PLog.places L i)) ∧ (∀ k ∈ ownsOf vw, k ∉ ownsOf va) ∧ Below w0.heap.size w0 wr
set_option maxRecDepth 100000 in
set_option maxHeartbeats 4000000 in
theorem rforce_yes {g fa : Nat} {L : PLog.Lg} {fix : List UInt8} {own : List Nat} (w : World) (h : IsRef w g L fix fa own) (x : Nat) (h1 : x ≤ L.next) (h2 : L.forced ≤ x) (h3 : L.forced ≠ L.next) :
    Calls Try.prog 68 #[.pointer (some ⟨g, 0, none⟩), .int .u64 x, .int .u64 L.life] w (RFPost g L x fix fa own w) := by
  have H := Lib.hid h
  have hk := h.1
  have hst := PLog.stretches_le hk
  have hff := hk.forced
  have hf5 := hk.forced5
  have hnx := hk.next5
  have hrg := hk.ring
  have hn4 := hk.n4
  have hn5 := hk.n5
  have hlf := hk.life5
  have hln := hk.bytes_length
  have HQ : Hid (PLog.rforce L x = ({ L with forced := L.next }, PLog.stretches L, 0)) := Lib.hid (by unfold PLog.rforce; rw [if_neg (by omega), if_neg (by omega)])
  have HOK : Hid ({ L with forced := L.next } : PLog.Lg).Ok := Lib.hid ⟨hk.n4, hk.n5, hk.place, hk.life, hk.life5, hk.first, hk.head, hk.texts, (by show L.first ≤ L.next; omega), (by show L.next ≤ L.next; omega), hk.next5, hk.ring⟩
  obtain ⟨c0, _, c4, c5, c6, _⟩ := h.cells
  have hg := h.lt g h.mem
  have hsh := h.shut 6
  have HBY : Hid (∀ W, IsRef W g L fix fa own → Calls Try.prog 70 #[.pointer (some ⟨g, 0, none⟩)] W fun e w' => e = .returned (.string ⟨L.bytes.toArray⟩) ∧ Below W.heap.size W w') := Lib.hid (fun W hW => rbytes_any W hW)
  obtain ⟨B0, hB0⟩ : ∃ B0, PLog.begin L.forced = B0 := ⟨_, rfl⟩
  obtain ⟨Bg, hBg⟩ : ∃ Bg, PLog.begin L.first = Bg := ⟨_, rfl⟩
  have hB1 := PLog.begin_le L.forced
  have hB2 := PLog.begin_mono hk.forced
  have hB3 := PLog.begin_le L.first
  rw [hB0] at hB1 hB2
  rw [hBg] at hB2 hB3 hrg hln
  have HBG0 : Hid (∀ W, Calls Try.prog 71 #[.int .u64 L.forced] W fun e w' => e = .returned (.int .u64 (B0 : Nat)) ∧ W = w') := Lib.hid (fun W => by rw [← hB0]; exact rbegin_any L.forced (by omega) W)
  have HBG1 : Hid (∀ W, Calls Try.prog 71 #[.int .u64 L.first] W fun e w' => e = .returned (.int .u64 (Bg : Nat)) ∧ W = w') := Lib.hid (fun W => by rw [← hBg]; exact rbegin_any L.first (by omega) W)
  obtain ⟨bs, hbs⟩ : ∃ bs : ByteArray, (⟨L.bytes.toArray⟩ : ByteArray) = bs := ⟨_, rfl⟩
  have hbz : bs.size = L.next - Bg := by rw [← hbs, size_mk, hln]
  have hbd : bs.data.toList = L.bytes := by rw [← hbs]
  rw [hbs] at HBY
  obtain ⟨m, hm⟩ : ∃ m, PLog.stretches L = m := ⟨_, rfl⟩
  rw [hm] at HQ hst
  have HLT : Hid (∀ i, i < m ↔ B0 + 110 * i < L.next) := Lib.hid (fun i => by rw [← hm, ← hB0]; exact PLog.lt_stretches L i)
  -- one stretch: the numbers, and Sector
  have HRD : Hid (∀ i, i < m → ∃ F E Q P : Nat, (B0 + 110 * i) = Bg + F ∧ E = min (F + 110) bs.size ∧ F ≤ E ∧ E ≤ bs.size ∧ E ≤ 900000 ∧ ((B0 + 110 * i : Nat) : Int).tdiv 110 = Q ∧ Q ≤ 9000000000000000000 ∧ (Q : Int).tmod L.n = P ∧ P = PLog.place L i ∧ P ≤ 4096 ∧
      (∀ W, Calls Try.prog 74 #[.int .u64 ((B0 + 110 * i : Nat) : Int), .int .u64 L.life, .string (bs.extract F E)] W fun e w' => e = .returned (.string ⟨(PLog.img L i).toArray⟩) ∧ Below W.heap.size W w')) := Lib.hid (fun i hi => by
    have hlt := (HLT.out i).1 hi
    refine ⟨B0 + 110 * i - Bg, min (B0 + 110 * i - Bg + 110) bs.size, (B0 + 110 * i) / 110, (B0 + 110 * i) / 110 % L.n, by omega, rfl, by omega, by omega, by omega, by rw [Int.tdiv_eq_ediv_of_nonneg (by omega)]; rfl, by omega, by rw [Int.tmod_eq_emod_of_nonneg (by omega)]; rfl, by unfold PLog.place; rw [hB0], ?_, fun W => ?_⟩
    · have := Nat.mod_lt ((B0 + 110 * i) / 110) (show 0 < L.n by omega); omega
    · obtain ⟨F, hF⟩ : ∃ F, B0 + 110 * i - Bg = F := ⟨_, rfl⟩
      rw [hF]
      have hex : bs.extract F (min (F + 110) bs.size) = ⟨(PLog.part L (B0 + 110 * i)).toArray⟩ := by
        rw [extract_mid, hbd]
        unfold PLog.part
        rw [hBg, hF]
        congr 2
        by_cases hc : F + 110 ≤ bs.size
        · rw [Nat.min_eq_left hc, show F + 110 - F = 110 by omega]
        · rw [Nat.min_eq_right (by omega), List.take_of_length_le (by rw [List.length_drop, hln]; omega), List.take_of_length_le (by rw [List.length_drop, hln]; omega)]
      rw [hex]
      have := rsector_any (B0 + 110 * i) L.life (PLog.part L (B0 + 110 * i)) (by omega) (by omega) (PLog.part_le _ _) W
      have hbb : PLog.begin (B0 + 110 * i) = B0 + 110 * i := by unfold PLog.begin; omega
      rw [hbb] at this
      have hi2 : PLog.img L i = PLog.image (B0 + 110 * i) L.life (PLog.part L (B0 + 110 * i)) := by unfold PLog.img; rw [hB0]
      rw [hi2]
      exact this)
  have z1 : ¬ (L.next : Int) < x := by omega
  have z2 : decide (x < L.forced) = false := by simp; omega
  have z3 : ((L.forced : Int) == L.next) = false := by rw [beq_eq_false_iff_ne]; omega
  have hNX : L.next ≤ B0 + 110 * m := by
    rcases Nat.lt_or_ge (B0 + 110 * m) L.next with e | e
    · have := (HLT.out m).2 e; omega
    · exact e
  have hm9 : m ≤ 5000 := hst
  have hBg9 : Bg ≤ 9000000000000000000 := by omega
  have HMM := Lib.hid hm
  clear h hk hB0 hBg hm h1 h2 h3 hB1 hB2 hB3 hff hf5 hbs hbd hbz hln hrg hlf hst
  obtain ⟨n, hn⟩ : ∃ n, L.n = n := ⟨_, rfl⟩
  rw [hn] at c0 HRD hn4 hn5
  clear hn
  go_enter Try.func68, Try.ntmps68
  go_wp2_with fail
  go_quiet (fail)
  obtain ⟨w1, hw1⟩ : ∃ w1, w.drewN nq = w1 := ⟨_, rfl⟩
  rw [hw1]
  have HB := Lib.hid (show Below w.heap.size w w1 by rw [← hw1]; exact lowN w nq)
  clear hw1 z1 z2 z3
  go_wp2_with fail
  refine (HBY.out _ (H.out.below HB.out)).mono ?_; rintro e w2 ⟨rfl, hb⟩
  have HB2 := Lib.hid (HB.out.step hb)
  have c6' := (HB2.out.cell (p := ⟨g, 6, none⟩) hg).trans c6
  clear hb HB
  go_wp2_with fail
  refine (HBG0.out _).mono ?_; rintro e w3 ⟨rfl, rfl⟩
  clear c6'
  go_wp2_with fail
  go_loopw [9, 10, 12, 13] (fun vw va kv _ wr => ∃ i : Nat, i ≤ m ∧ kv = .int .u64 ((B0 + 110 * i : Nat) : Int) ∧ (∃ p c, vw = .slice p i c) ∧ (∃ p c, va = .slice p i c) ∧ Hid (RfS w wr vw va L i)) (fun _ _ kv _ _ => L.next + 1000 - (intOf kv).toNat)
  case atStart => exact ⟨0, Nat.zero_le _, by simp, ⟨none, 0, rfl⟩, ⟨none, 0, rfl⟩, Lib.hid ⟨Sl.nil _ _ _ _, Sl.nil _ _ _ _, by simp [ownsOf, Value.ownBlock], HB2.out⟩⟩
  case round =>
    obtain ⟨i, him, rfl, ⟨pw, cw, rfl⟩, ⟨pa, ca, rfl⟩, HS⟩ := hrel
    obtain ⟨K, hK⟩ : ∃ K, K = B0 + 110 * i := ⟨_, rfl⟩
    have HK := Lib.hid hK
    have hB := HS.out.2.2.2
    have c5' := (hB.cell (p := ⟨g, 5, none⟩) hg).trans c5
    have c4' := (hB.cell (p := ⟨g, 4, none⟩) hg).trans c4
    rw [← hK]
    by_cases hlt : K < L.next
    · have hi : i < m := (HLT.out i).2 (by omega)
      obtain ⟨F, E, Q, P, q1, q2, q3, q4, q4b, q5, q5b, q6, q7, q8, q9⟩ := HRD.out i hi
      rw [← hK] at q1 q5 q9
      have z1 : (K : Int) < L.next := by omega
      have c0' := (hB.cell (p := ⟨g, 0, none⟩) hg).trans c0
      have v1 : IntKind.u64.wrap ((K : Int) - Bg) = F := by rw [IntWalk.u64_in _ (by omega)]; omega
      have v2 : IntKind.i64.wrap (F : Int) = F := IntWalk.i64_in _ (by omega)
      obtain ⟨G, hG⟩ : ∃ G : Nat, G = F + 110 := ⟨_, rfl⟩
      have v3 : IntKind.i64.wrap ((F : Int) + 110) = G := by rw [IntWalk.i64_in _ (by omega)]; omega
      have v4 : IntKind.u64.wrap (n : Int) = n := IntWalk.u64_in _ (by omega)
      have v5 : IntKind.u64.wrap (Q : Int) = Q := IntWalk.u64_in _ (by omega)
      have v6 : IntKind.i64.wrap (P : Int) = P := IntWalk.i64_in _ (by omega)
      have v7 : IntKind.u64.wrap ((K : Int) + 110) = (K + 110 : Nat) := by rw [IntWalk.u64_in _ (by omega)]; omega
      have zn : ¬ (n : Int) = 0 := by omega
      have hsw := HS.out.1
      have hsa := HS.out.2.1
      have HSW := Lib.hid hsw
      have HSA := Lib.hid hsa
      have HDJ := Lib.hid (ns_two HS.out.2.2.1)
      have HBB := Lib.hid hB
      have HQ9 := Lib.hid q9
      have HQ7 := Lib.hid q7
      have HI9 := Lib.hid hi
      have hcase : (E = G ∧ ¬ (bs.size : Int) < G) ∨ (E = bs.size ∧ (bs.size : Int) < G) := by omega
      have q0 : (0 : Int) ≤ F := by omega
      clear hB q9 q7 q1 q2 hsw hsa hi hK hG
      rcases hcase with ⟨rfl, hc⟩ | ⟨rfl, hc⟩
      all_goals (
        go_wp2_with fail
        refine (HBG1.out _).mono ?_; rintro e w3 ⟨rfl, rfl⟩
        go_wp2_with fail
        refine (HQ9.out _).mono ?_; rintro e w3 ⟨rfl, hb⟩
        have HB3 := Lib.hid (HBB.out.step hb)
        have hsw := HSW.out.keep fun k e => hb.block k (HSW.out.lt k e).2
        have HSW3 := Lib.hid hsw
        have hsa := HSA.out.keep fun k e => hb.block k (HSA.out.lt k e).2
        have HSA3 := Lib.hid hsa
        have c03 := (hb.cell (p := ⟨g, 0, none⟩) (Nat.lt_of_lt_of_le hg HBB.out.size)).trans c0'
        have c53 := (hb.cell (p := ⟨g, 5, none⟩) (Nat.lt_of_lt_of_le hg HBB.out.size)).trans c5'
        clear hb hsw hsa c0' c4' c5' HSW HSA HBB q3 q4
        go_wp2_with (first
          | (at_builtin; (with_reducible apply wpList_append_sl elem_str (HSW3.out.alloc _) [.string ⟨(PLog.img L i).toArray⟩]); (· rfl); (· rfl); (· rfl); (· rfl); (· rfl); (· exact news_alloc _ [_] _ _); (· intro u hu; simp at hu; subst hu; rfl); (· unfold maxLen; omega); (· omega); (· have := HB3.out.size; simp; omega); intro v' w4 k1 k2 _ k3; obtain ⟨pw4, cw4, rfl⟩ := Sl.form k1; have HSW4 := Lib.hid k1; have HSA4 := Lib.hid (Sl.grownA HSA3.out ((Below.refl _ _).alloc (Nat.le_refl _) _) k2 (fun k e1 e2 => HDJ.out k e2.symm e1.symm)); have hB4 := (HB3.out.alloc HB3.out.size _).grown k2 (by have := HB3.out.size; simp; omega) (fun k hk => (HSW3.out.lt k hk).1); have HB4 := Lib.hid hB4; have HDJ4 := Lib.hid (disj_new (grown_new ((Below.refl _ w3).alloc (Nat.le_refl _) _) k3) HDJ.out (fun k e => (HSA3.out.lt k e).2)); have c04 := (hB4.cell (p := ⟨g, 0, none⟩) hg).trans c0; have c54 := (hB4.cell (p := ⟨g, 5, none⟩) hg).trans c5; clear k1 k2 k3 hB4)
          | (at_builtin; (with_reducible apply wpList_append_sl elem_int (HSA4.out.alloc _) [.int .i64 P]); (· rfl); (· rfl); (· rfl); (· rfl); (· rfl); (· exact news_alloc _ [_] _ _); (· intro u hu; simp at hu; subst hu; rfl); (· unfold maxLen; omega); (· omega); (· have := HB4.out.size; simp; omega); intro v' w5 k1 k2 _ k3; obtain ⟨pa5, ca5, rfl⟩ := Sl.form k1; have HSA5 := Lib.hid k1; have HSW5 := Lib.hid (Sl.grownA HSW4.out ((Below.refl _ _).alloc (Nat.le_refl _) _) k2 HDJ4.out); have hB5 := (HB4.out.alloc HB4.out.size _).grown k2 (by have := HB4.out.size; simp; omega) (fun k hk => (HSA4.out.lt k hk).1); have HB5 := Lib.hid hB5; have HDJ5 := Lib.hid (disj_new (grown_new ((Below.refl _ w4).alloc (Nat.le_refl _) _) k3) (fun k e1 e2 => HDJ4.out k e2.symm e1.symm) (fun k e => (HSW4.out.lt k e).2)); have c05 := (hB5.cell (p := ⟨g, 0, none⟩) hg).trans c0; have c55 := (hB5.cell (p := ⟨g, 5, none⟩) hg).trans c5; clear k1 k2 k3 hB5))
        go_roundw
        case rel => exact ⟨i + 1, by have := HI9.out; omega, (by rw [show B0 + 110 * (i + 1) = K + 110 by have := HK.out; omega]; simp), ⟨_, _, rfl⟩, ⟨_, _, rfl⟩, Lib.hid ⟨by rw [PLog.imgs_succ, strV_snoc]; exact HSW5.out, by rw [PLog.places_succ, natV_snoc, ← HQ7.out]; exact HSA5.out, fun k h1 h2 => HDJ5.out k (own_mem.1 h2) (own_mem.1 h1).symm, HB5.out⟩⟩
        case measure => simp [intOf]; omega)
    · have hi : i = m := by
        rcases Nat.lt_or_ge i m with e | e
        · have := (HLT.out i).1 e; omega
        · omega
      have z1 : ¬ (K : Int) < L.next := by omega
      have hsh' := (hB.frozen (p := ⟨g, 6, none⟩) hg).trans hsh
      have c6' := (hB.cell (p := ⟨g, 6, none⟩) hg).trans c6
      have HBB := Lib.hid hB
      subst hi
      clear hlt hB hK
      go_wp2
      go_ret3
      unfold RFPost
      rw [HQ.out]
      obtain ⟨k1, k2⟩ := (H.out.below HBB.out).setForced L.next HOK.out _ rfl
      obtain ⟨s1, s2, _, _⟩ := HS.out
      have n1 : ∀ {u : Value} {k : Nat}, (u.ownBlock = some k → w.heap.size ≤ k ∧ k < wr.heap.size) → u.ownBlock = some k → k ≠ g := fun hl e e2 => by have := (hl e).1; omega
      have s1' := s1.keep (w' := wr.setCell ⟨g, 6, none⟩ (.int .u64 L.next)) fun k e => Below.heap_setCell wr ⟨g, 6, none⟩ _ k (n1 (s1.lt k) e)
      have s2' := s2.keep (w' := wr.setCell ⟨g, 6, none⟩ (.int .u64 L.next)) fun k e => Below.heap_setCell wr ⟨g, 6, none⟩ _ k (n1 (s2.lt k) e)
      exact ⟨_, _, own, rfl, (by rw [← HMM.out] at s1' ⊢; exact s1'), (by rw [← HMM.out] at s2' ⊢; exact s2'), k1, (Stepped.of_below HBB.out own).trans k2⟩
theorem rforce_any {g fa : Nat} {L : PLog.Lg} {fix : List UInt8} {own : List Nat} (w : World) (h : IsRef w g L fix fa own) (x : Nat) :
    Calls Try.prog 68 #[.pointer (some ⟨g, 0, none⟩), .int .u64 x, .int .u64 L.life] w (RFPost g L x fix fa own w) := by
  by_cases hx : L.next < x ∨ x < L.forced ∨ L.forced = L.next
  · exact rforce_no w h x hx
  · exact rforce_yes w h x (by omega) (by omega) (by omega)
end Go.Proofs.Ytjnggldalggfnaa
namespace Go.Proofs.Ytjnggldalggfnaa
open Go.RowKit
/-- 's[k:]' of a slice that is owned -/
theorem run_slice_from {P : Program} {t e : TypeId} {bytes : Nat} (E : ElemT P t e 1 bytes) (w : World) {base : Nat} {v : Value} {n : Nat} {xs : List Value} (h : Sl w base e 1 v n xs) {k : Nat} (hk : k ≤ n) :
    ∃ v', (Instr.sliceAt t v (some (.int .i64 k)) none none).run P w = .ok v' w ∧ Sl w base e 1 v' (n - k) (xs.drop k) ∧ (∀ b, v'.ownBlock = some b → v.ownBlock = some b) := by
  obtain ⟨ht, _, i, z, hi, _, hsize, _, _⟩ := E
  have hs0 := h
  obtain ⟨hl, hh⟩ := h
  rcases hh with ⟨rfl, rfl⟩ | ⟨g, off, cap, cur, fz, rfl, hb, hgg, hf, hnc, hcm, hcs, htake⟩
  · have hk0 : k = 0 := by omega
    subst hk0
    refine ⟨.slice none 0 0, ?_, ?_, fun b hb => hb⟩
    · simp [Instr.sliceAt, Instr.slice, run_underlying ht, Instr.sliceBounds, run_sliceBound, sizeOf, typeInfo, hi]
    · exact ⟨by simp [hl], .inl ⟨rfl, rfl⟩⟩
  · refine ⟨.slice (some (if cap = k then ⟨g, off, none⟩ else ⟨g, off + k, none⟩)) (n - k) (cap - k), ?_, ?_, fun b hb => ?_⟩
    · simp [Instr.sliceAt, Instr.slice, run_underlying ht, Instr.sliceBounds, run_sliceBound, sizeOf, typeInfo, hi, hsize, hk, Addr.add_mid]
      split <;> simp_all
    · by_cases hc : cap = k
      · rw [if_pos hc]
        refine ⟨by rw [List.length_drop, hl]; omega, .inr ⟨g, off, cap - k, cur, fz, rfl, hb, hgg, hf, by omega, by unfold maxLen at hcm ⊢; omega, by omega, ?_⟩⟩
        have h0 : xs.drop k = [] := List.drop_eq_nil_of_le (by omega)
        rw [h0, show (n - k) * 1 = 0 by omega, List.take_zero]
      · rw [if_neg hc]
        have := Sl.sub hs0 (lo := k) (hi := n) hk (Nat.le_refl _)
        rw [List.take_of_length_le (by omega)] at this
        exact this
    · split at hb <;> exact hb
theorem wpList_slice_from {P : Program} {t e : TypeId} {bytes : Nat} (E : ElemT P t e 1 bytes) {w : World} {base : Nat} {v : Value} {n : Nat} {xs : List Value} (h : Sl w base e 1 v n xs) {k : Nat} (hk : k ≤ n)
    {ops : Array Oper} {rest : List Oper} {o : Oper} {a : Act} {Q : Exit → Act → World → Prop} {s l : Operand} (hgd : o.guard = none) (ho : o.op = .slice t s (some l) none none) (hs : a.eval s = v) (hl : a.eval l = .int .i64 k)
    (hc : ∀ v', Sl w base e 1 v' (n - k) (xs.drop k) → (∀ b, v'.ownBlock = some b → v.ownBlock = some b) → wpList P ops Q rest (a.put o.dst v') w) : wpList P ops Q (o :: rest) a w := by
  refine wpList_plain hgd fun K hK => ?_
  obtain ⟨v', hr, h2, h3⟩ := run_slice_from E w h hk
  unfold Oper.wp execOp
  simp only [ho, Option.map_some, Option.map_none, Sem.run_bind, Sem.run_pure, Result.andThen_ok, hs, hl, hr]
  exact hK _ _ (hc v' h2 h3)
theorem whereI_at {xs : List Nat} {x : Nat} (h : PLog.has xs x = true) : PLog.whereI xs x = (PLog.rank xs x : Nat) := by unfold PLog.whereI; rw [if_pos h]
theorem whereI_no {xs : List Nat} {x : Nat} (h : PLog.has xs x = false) : PLog.whereI xs x = -1 := by unfold PLog.whereI; rw [h]; rfl
set_option maxHeartbeats 2000000 in
theorem rkeep_no {g fa : Nat} {L : PLog.Lg} {fix : List UInt8} {own : List Nat} (w : World) (h : IsRef w g L fix fa own) (x : Nat) (hx : x < L.first ∨ L.forced < x ∨ (PLog.isAt L x = false ∧ x ≠ L.next)) :
    Calls Try.prog 49 #[.pointer (some ⟨g, 0, none⟩), .int .u64 x] w (RefPost (.int .i64 (PLog.keep L x).2) g (PLog.keep L x).1 fix fa own w) := by
  have HQ : Hid (PLog.keep L x = (L, 2)) := Lib.hid (by unfold PLog.keep; rw [if_pos hx])
  have H := Lib.hid h
  obtain ⟨_, va, vl, hf, _⟩ := h.open_
  obtain ⟨pa, ca, rfl⟩ := hf.aform
  obtain ⟨n, hn⟩ : ∃ n, (PLog.toRf L fix fa).ats.length = n := ⟨_, rfl⟩
  have c1 := hf.cell1
  rw [hn] at c1
  obtain ⟨_, _, c4, c5, c6, _⟩ := h.cells
  have hfn := L.first_next
  obtain ⟨K, hK⟩ : ∃ K, PLog.whereI L.starts x = K := ⟨_, rfl⟩
  have HW : Hid (Calls Try.prog 69 #[.pointer (some ⟨g, 0, none⟩), .int .u64 x] w fun e w' => e = .returned (.int .i64 K) ∧ w = w') := Lib.hid (by have := rwhere_any w h x; rwa [hK] at this)
  by_cases z1 : x < L.first
  · have z1' : decide (x < L.first) = true := by simpa using z1
    have z0 : ((x : Int) == L.next) = false := by rw [beq_eq_false_iff_ne]; omega
    clear h hf hx hn hK z1 hfn
    go_enter Try.func49, Try.ntmps49
    go_wp2_with fail
    refine HW.out.mono ?_; rintro e w1 ⟨rfl, rfl⟩
    go_wp2
    go_ret
    rw [HQ.out]
    exact RefPost.same rfl H.out (Below.refl _ _)
  have z1' : decide (x < L.first) = false := by simpa using z1
  by_cases z2 : L.forced < x
  · have z2' : decide (L.forced < x) = true := by simpa using z2
    have hcase : ((x : Int) == L.next) = true ∨ ((x : Int) == L.next) = false := by cases ((x : Int) == L.next) <;> simp
    clear h hf hx hn hK z1 z2 hfn
    rcases hcase with z0 | z0
    all_goals (
      go_enter Try.func49, Try.ntmps49
      go_wp2_with fail
      refine HW.out.mono ?_; rintro e w1 ⟨rfl, rfl⟩
      go_wp2
      go_ret
      rw [HQ.out]
      exact RefPost.same rfl H.out (Below.refl _ _))
  have z2' : decide (L.forced < x) = false := by simpa using z2
  obtain ⟨e1, e2⟩ : PLog.isAt L x = false ∧ x ≠ L.next := by
    rcases hx with h | h | h
    · exact absurd h z1
    · exact absurd h z2
    · exact h
  have hk1 : K = -1 := by rw [← hK]; exact whereI_no e1
  subst hk1
  have z0 : ((x : Int) == L.next) = false := by rw [beq_eq_false_iff_ne]; omega
  clear h hf hx hn hK z1 z2 e1 e2 hfn
  go_enter Try.func49, Try.ntmps49
  go_wp2_with fail
  refine HW.out.mono ?_; rintro e w1 ⟨rfl, rfl⟩
  go_wp2
  go_ret
  rw [HQ.out]
  exact RefPost.same rfl H.out (Below.refl _ _)
theorem extract_dt (s : ByteArray) (a b : Nat) : s.extract a b = ⟨((s.data.toList.take b).drop a).toArray⟩ := by rw [extract_mid, List.drop_take]
set_option maxRecDepth 20000 in
set_option maxHeartbeats 4000000 in
theorem rkeep_yes {g fa : Nat} {L : PLog.Lg} {fix : List UInt8} {own : List Nat} (w : World) (h : IsRef w g L fix fa own) (x : Nat) (h1 : L.first ≤ x) (h2 : x ≤ L.forced) (h3 : PLog.isAt L x = true ∨ x = L.next) :
    Calls Try.prog 49 #[.pointer (some ⟨g, 0, none⟩), .int .u64 x] w (RefPost (.int .i64 (PLog.keep L x).2) g (PLog.keep L x).1 fix fa own w) := by
  have HQ := Lib.hid (PLog.keep_yes h1 h2 h3)
  have hk := h.1
  obtain ⟨f1, f2, f3, f4, f5, f6, f7⟩ := PLog.kept_facts hk (PLog.keepAt_of h3) h2
  have hf5 := hk.forced5
  have hn5 := hk.next5
  have hbm := PLog.begin_mono h1
  have hbx := PLog.begin_le x
  have hbf := PLog.begin_le L.first
  have hbl := hk.bytes_length
  have hrg := hk.ring
  have hln5 := hk.n5
  have H := Lib.hid h
  have HOK := Lib.hid f7
  have HST := Lib.hid f5
  have HNX := Lib.hid f6
  have HBY := Lib.hid (fun W (hW : IsRef W g L fix fa own) => rbytes_any W hW)
  obtain ⟨bs, hbs⟩ : ∃ bs : ByteArray, (⟨L.bytes.toArray⟩ : ByteArray) = bs := ⟨_, rfl⟩
  have hbz : bs.size = L.bytes.length := by rw [← hbs, size_mk]
  have hbd : bs.data.toList = L.bytes := by rw [← hbs]
  rw [hbs] at HBY
  have HBX := Lib.hid (fun W => rbegin_any x (by omega) W)
  have HBF := Lib.hid (fun W => rbegin_any L.first (by omega) W)
  obtain ⟨j, hj⟩ : ∃ j, PLog.rank L.starts x = j := ⟨_, rfl⟩
  rw [hj] at HST
  have HKE : Hid (PLog.kept L x = { L with head := (bs.extract (PLog.begin x - PLog.begin L.first) (x - PLog.begin L.first)).data.toList, texts := L.texts.drop j, first := x }) := Lib.hid (by
    unfold PLog.kept
    rw [extract_dt, hbd, hj])
  obtain ⟨_, va, vl, hf, hown⟩ := h.open_
  obtain ⟨pa, ca, rfl⟩ := hf.aform
  obtain ⟨pl, cl, rfl⟩ := hf.lform
  obtain ⟨n, hn⟩ : ∃ n, L.texts.length = n := ⟨_, rfl⟩
  have hst : L.starts.length = n := by unfold PLog.Lg.starts; rw [PLog.startsOf_length, hn]
  have e1 : (PLog.toRf L fix fa).ats.length = n := hst
  have e2 : (PLog.toRf L fix fa).txs.length = n := hn
  have hjn : j ≤ n := by rw [← hj, ← hst]; exact PLog.rank_le _ _
  have hnb : n ≤ 1000000 := by have := Lg_starts_len hk; omega
  rw [e1, e2] at hf hown
  have HE1 := Lib.hid e1
  have HE2 := Lib.hid e2
  have c1 := hf.cell1
  obtain ⟨_, _, c4, c5, c6, _⟩ := h.cells
  have hg := hf.glt
  have HOWN := Lib.hid hown
  have HF := Lib.hid hf
  obtain ⟨K, hK⟩ : ∃ K, PLog.whereI L.starts x = K := ⟨_, rfl⟩
  have HW : Hid (Calls Try.prog 69 #[.pointer (some ⟨g, 0, none⟩), .int .u64 x] w fun e w' => e = .returned (.int .i64 K) ∧ w = w') := Lib.hid (by have := rwhere_any w h x; rwa [hK] at this)
  have hcase : (((x : Int) == L.next) = true ∧ j = n) ∨ (((x : Int) == L.next) = false ∧ K = j) := by
    by_cases hx : x = L.next
    · left
      refine ⟨by rw [beq_iff_eq]; omega, ?_⟩
      rw [← hj, hx, show L.next = PLog.endOf L.first (L.texts.take L.texts.length) by rw [List.take_length]; rfl]
      have := PLog.rank_starts L.texts L.first L.texts.length (Nat.le_refl _)
      rw [hn] at this
      rw [hn]
      exact this
    · right
      refine ⟨by rw [beq_eq_false_iff_ne]; omega, ?_⟩
      rcases h3 with h3 | h3
      · rw [← hK, ← hj]; exact whereI_at h3
      · exact absurd h3 hx
  obtain ⟨bx, hbx'⟩ : ∃ bx, PLog.begin x = bx := ⟨_, rfl⟩
  obtain ⟨bf, hbf'⟩ : ∃ bf, PLog.begin L.first = bf := ⟨_, rfl⟩
  rw [hbx'] at HBX hbm hbx HKE f3
  rw [hbf'] at HBF hbm hbf HKE f3 hbl hrg
  obtain ⟨A, hA⟩ : ∃ A, bx - bf = A := ⟨_, rfl⟩
  obtain ⟨B, hB⟩ : ∃ B, x - bf = B := ⟨_, rfl⟩
  rw [hA] at HKE f3
  rw [hB] at HKE
  have w1 : IntKind.u64.wrap ((bx : Int) - bf) = A := by rw [IntWalk.u64_in _ (by omega)]; omega
  have w2 : IntKind.i64.wrap (A : Int) = A := IntWalk.i64_in _ (by omega)
  have w3 : IntKind.u64.wrap ((x : Int) - bf) = B := by rw [IntWalk.u64_in _ (by omega)]; omega
  have w4 : IntKind.i64.wrap (B : Int) = B := IntWalk.i64_in _ (by omega)
  have q1 : A ≤ B := by omega
  have q2 : B ≤ bs.size := by omega
  have z1 : decide (x < L.first) = false := by simp; omega
  have z2 : decide (L.forced < x) = false := by simp; omega
  have z3 : ¬ (j : Int) < 0 := by omega
  clear h hk f1 f2 f3 f4 f5 f6 f7 hf5 hn5 hbm hbx hbf hbl hrg hln5 hbs hbz hbd hj hf hown hn hst e1 e2 hK h1 h2 h3 hbx' hbf' hA hB
  obtain ⟨M, HM⟩ : ∃ M, Hid (n - j = M) := ⟨_, Lib.hid rfl⟩
  have hcase2 : (((x : Int) == L.next) = true ∧ j = n) ∨ (((x : Int) == L.next) = false ∧ K = j) := hcase
  clear hcase
  rcases hcase2 with ⟨z0, hjn2⟩ | ⟨z0, rfl⟩
  · subst hjn2
    go_enter Try.func49, Try.ntmps49
    go_wp2_with fail
    refine HW.out.mono ?_; rintro e w1 ⟨rfl, rfl⟩
    go_wp2_with fail
    refine (HBY.out _ H.out).mono ?_; rintro e w2 ⟨rfl, hb⟩
    have HB2 := Lib.hid hb
    have c4' := (hb.cell (p := ⟨g, 4, none⟩) hg).trans c4
    clear hb c4 c5 c6 c1
    go_wp2_with fail
    go_quiet (first | (go_at_call 71; exact quiet_eq (HBX.out _)) | (go_at_call 71; exact quiet_eq (HBF.out _)))
    obtain ⟨w3, hw3⟩ : ∃ w3, w2.drewN nq = w3 := ⟨_, rfl⟩
    have hb3 : Below w.heap.size w w3 := by rw [← hw3]; exact HB2.out.trans ((lowN _ nq).mono HB2.out.size)
    have HB3 := Lib.hid hb3
    rw [hw3]
    clear hw3 c4' HB2
    have hf3 := HF.out.below hb3
    have c43 : w3.cell? ⟨g, 4, none⟩ = some (.int .u64 L.first) := hf3.cell4
    have c13 := hf3.cell1
    have c23 := hf3.cell2
    have c33 : w3.cell? ⟨g, 3, none⟩ = some (.string ⟨L.head.toArray⟩) := hf3.cell3
    have s13 := hf3.shut 1
    have s23 := hf3.shut 2
    have s33 := hf3.shut 3
    have s43 := hf3.shut 4
    have HP1 := Lib.hid (hf3.field (R' := { PLog.toRf L fix fa with head := (bs.extract A B).data.toList }) 3 (.string (bs.extract A B)) rfl rfl (by simp [rfV, extract_mid]))
    have HSA := Lib.hid HP1.out.1.sa
    rw [show ({ PLog.toRf L fix fa with head := (bs.extract A B).data.toList } : PLog.Rf).ats.length = j from HE1.out] at HSA
    clear hb3 hf3
    go_wp2_with fail
    refine (HBF.out _).mono ?_; rintro e w4 ⟨rfl, rfl⟩
    go_wp2_with (first
      | ((with_reducible apply wpList_slice_from elem_u64 HSA.out hjn); (· rfl); (· rfl); (· rfl); (· rfl); intro v1 k1 k2; rw [HM.out] at k1; obtain ⟨p1, q1, rfl⟩ := Sl.form k1; have HP2 := Lib.hid (HP1.out.1.rowA (xs := L.starts.drop j) (.inl HP1.out.1) (Turns.refl _ _) (by rw [List.length_drop, show L.starts.length = j from HE1.out, HM.out]; unfold u64V at k1 ⊢; rw [List.map_drop]; exact k1) (fun k e => .inl (k2 k e))); have HSL := Lib.hid HP2.out.1.sl; rw [show ({ ({ PLog.toRf L fix fa with head := (bs.extract A B).data.toList } : PLog.Rf) with ats := L.starts.drop j } : PLog.Rf).txs.length = j from HE2.out] at HSL; clear k1 k2)
      | ((with_reducible apply wpList_slice_from elem_str HSL.out hjn); (· rfl); (· rfl); (· rfl); (· rfl); intro v2 k1 k2; rw [HM.out] at k1; obtain ⟨p2, q2, rfl⟩ := Sl.form k1; have HP3 := Lib.hid (HP2.out.1.rowL (xs := L.texts.drop j) (.inl HP2.out.1) (Turns.refl _ _) (by rw [List.length_drop, show L.texts.length = j from HE2.out, HM.out]; unfold strV at k1 ⊢; rw [List.map_drop]; exact k1) (fun k e => .inl (k2 k e))); clear k1 k2))
    go_ret
    rw [HQ.out]
    obtain ⟨k1, k2⟩ := HP3.out.1.field (R' := PLog.toRf (PLog.kept L x) fix fa) 4 (.int .u64 x) (by show (PLog.kept L x).starts = L.starts.drop j; exact HST.out) (by show (PLog.kept L x).texts = L.texts.drop j; rw [HKE.out]) (by
      have e1 := HNX.out
      rw [HKE.out] at e1 ⊢
      simp [rfV, PLog.toRf]
      exact congrArg (fun n : Nat => (n : Int)) e1.symm)
    refine ⟨_, rfl, k1.close HOK.out, ?_⟩
    rw [HOWN.out]
    exact ((((Stepped.of_below HB3.out _).trans HP1.out.2).trans HP2.out.2).trans HP3.out.2).trans k2
  · go_enter Try.func49, Try.ntmps49
    go_wp2_with fail
    refine HW.out.mono ?_; rintro e w1 ⟨rfl, rfl⟩
    go_wp2_with fail
    refine (HBY.out _ H.out).mono ?_; rintro e w2 ⟨rfl, hb⟩
    have HB2 := Lib.hid hb
    have c4' := (hb.cell (p := ⟨g, 4, none⟩) hg).trans c4
    clear hb c4 c5 c6 c1
    go_wp2_with fail
    go_quiet (first | (go_at_call 71; exact quiet_eq (HBX.out _)) | (go_at_call 71; exact quiet_eq (HBF.out _)))
    obtain ⟨w3, hw3⟩ : ∃ w3, w2.drewN nq = w3 := ⟨_, rfl⟩
    have hb3 : Below w.heap.size w w3 := by rw [← hw3]; exact HB2.out.trans ((lowN _ nq).mono HB2.out.size)
    have HB3 := Lib.hid hb3
    rw [hw3]
    clear hw3 c4' HB2
    have hf3 := HF.out.below hb3
    have c43 : w3.cell? ⟨g, 4, none⟩ = some (.int .u64 L.first) := hf3.cell4
    have c13 := hf3.cell1
    have c23 := hf3.cell2
    have c33 : w3.cell? ⟨g, 3, none⟩ = some (.string ⟨L.head.toArray⟩) := hf3.cell3
    have s13 := hf3.shut 1
    have s23 := hf3.shut 2
    have s33 := hf3.shut 3
    have s43 := hf3.shut 4
    have HP1 := Lib.hid (hf3.field (R' := { PLog.toRf L fix fa with head := (bs.extract A B).data.toList }) 3 (.string (bs.extract A B)) rfl rfl (by simp [rfV, extract_mid]))
    have HSA := Lib.hid HP1.out.1.sa
    rw [show ({ PLog.toRf L fix fa with head := (bs.extract A B).data.toList } : PLog.Rf).ats.length = n from HE1.out] at HSA
    clear hb3 hf3
    go_wp2_with fail
    refine (HBF.out _).mono ?_; rintro e w4 ⟨rfl, rfl⟩
    go_wp2_with (first
      | ((with_reducible apply wpList_slice_from elem_u64 HSA.out hjn); (· rfl); (· rfl); (· rfl); (· rfl); intro v1 k1 k2; rw [HM.out] at k1; obtain ⟨p1, q1, rfl⟩ := Sl.form k1; have HP2 := Lib.hid (HP1.out.1.rowA (xs := L.starts.drop j) (.inl HP1.out.1) (Turns.refl _ _) (by rw [List.length_drop, show L.starts.length = n from HE1.out, HM.out]; unfold u64V at k1 ⊢; rw [List.map_drop]; exact k1) (fun k e => .inl (k2 k e))); have HSL := Lib.hid HP2.out.1.sl; rw [show ({ ({ PLog.toRf L fix fa with head := (bs.extract A B).data.toList } : PLog.Rf) with ats := L.starts.drop j } : PLog.Rf).txs.length = n from HE2.out] at HSL; clear k1 k2)
      | ((with_reducible apply wpList_slice_from elem_str HSL.out hjn); (· rfl); (· rfl); (· rfl); (· rfl); intro v2 k1 k2; rw [HM.out] at k1; obtain ⟨p2, q2, rfl⟩ := Sl.form k1; have HP3 := Lib.hid (HP2.out.1.rowL (xs := L.texts.drop j) (.inl HP2.out.1) (Turns.refl _ _) (by rw [List.length_drop, show L.texts.length = n from HE2.out, HM.out]; unfold strV at k1 ⊢; rw [List.map_drop]; exact k1) (fun k e => .inl (k2 k e))); clear k1 k2))
    go_ret
    rw [HQ.out]
    obtain ⟨k1, k2⟩ := HP3.out.1.field (R' := PLog.toRf (PLog.kept L x) fix fa) 4 (.int .u64 x) (by show (PLog.kept L x).starts = L.starts.drop j; exact HST.out) (by show (PLog.kept L x).texts = L.texts.drop j; rw [HKE.out]) (by
      have e1 := HNX.out
      rw [HKE.out] at e1 ⊢
      simp [rfV, PLog.toRf]
      exact congrArg (fun n : Nat => (n : Int)) e1.symm)
    refine ⟨_, rfl, k1.close HOK.out, ?_⟩
    rw [HOWN.out]
    exact ((((Stepped.of_below HB3.out _).trans HP1.out.2).trans HP2.out.2).trans HP3.out.2).trans k2
theorem rkeep_any {g fa : Nat} {L : PLog.Lg} {fix : List UInt8} {own : List Nat} (w : World) (h : IsRef w g L fix fa own) (x : Nat) :
    Calls Try.prog 49 #[.pointer (some ⟨g, 0, none⟩), .int .u64 x] w (RefPost (.int .i64 (PLog.keep L x).2) g (PLog.keep L x).1 fix fa own w) := by
  by_cases hx : x < L.first ∨ L.forced < x ∨ (PLog.isAt L x = false ∧ x ≠ L.next)
  · exact rkeep_no w h x hx
  · simp only [not_or, not_and, Nat.not_lt] at hx
    refine rkeep_yes w h x hx.1 hx.2.1 ?_
    cases hi : PLog.isAt L x with
    | true => exact .inl rfl
    | false => exact .inr (Classical.byContradiction fun hne => by have := hx.2.2; simp [hi] at this; exact hne this)
end Go.Proofs.Ytjnggldalggfnaa
