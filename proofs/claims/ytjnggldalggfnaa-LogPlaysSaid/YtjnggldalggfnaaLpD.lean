/-
  A log beside the document's: the plain law; a play, its ring.
-/
import Derived.Test.YtjnggldalggfnaaPLog4
import Derived.Test.YtjnggldalggfnaaLpC
import Derived.Test.YtjnggldalggfnaaLog15
import Derived.Test.YtjnggldalggfnaaLog16
import Derived.Test.YtjnggldalggfnaaRead2
import Derived.Test.YtjnggldalggfnaaAct
namespace PLog
open PDsk
/-- the ring's sectors -/
def ringL (D : Dsk) (n : Nat) : List (List UInt8) := (List.range n).map (fun i => now D (1 + i))
theorem ringL_length (D : Dsk) (n : Nat) : (ringL D n).length = n := by simp [ringL]
theorem ringL_at (D : Dsk) (n : Nat) {i : Nat} (hi : i < n) : (ringL D n)[i]? = some (now D (1 + i)) := by simp [ringL, hi]
/-- what the document's Force makes of the ring -/
def rsets (L : Lg) (m : Nat) (r : List (List UInt8)) : List (List UInt8) := (List.range m).foldl (fun r i => r.set (place L i) (img L i)) r
theorem rsets_succ (L : Lg) (m : Nat) (r : List (List UInt8)) : rsets L (m + 1) r = (rsets L m r).set (place L m) (img L m) := by simp [rsets, List.range_succ]
theorem rsets_length (L : Lg) (r : List (List UInt8)) : ∀ m, (rsets L m r).length = r.length
  | 0 => rfl
  | m + 1 => by rw [rsets_succ, List.length_set, rsets_length L r m]
theorem now_plain (S : List (List UInt8)) (k : Nat) : now ⟨S, [], -1⟩ k = S.getD k [] := rfl
theorem ring_set (S : List (List UInt8)) {n a : Nat} (v : List UInt8) (ha : a < n) (hS : 1 + n ≤ S.length) : ringL ⟨S.set (1 + a) v, [], -1⟩ n = (ringL ⟨S, [], -1⟩ n).set a v := by
  apply List.ext_getElem?
  intro i
  rcases Nat.lt_or_ge i n with hi | hi
  · rw [ringL_at _ _ hi, now_plain, List.getElem?_set]
    by_cases h : a = i
    · subst h
      rw [if_pos rfl, if_pos (by rw [ringL_length]; exact ha)]
      congr 1
      simp only [List.getD_eq_getElem?_getD, List.getElem?_set, if_true]
      rw [if_pos (by omega)]
      rfl
    · rw [if_neg h, ringL_at _ _ hi, now_plain]
      congr 1
      simp only [List.getD_eq_getElem?_getD]
      rw [List.getElem?_set_ne (by omega)]
  · rw [List.getElem?_eq_none (by rw [ringL_length]; exact hi), List.getElem?_eq_none (by rw [List.length_set, ringL_length]; exact hi)]
theorem place_lt {L : Lg} (h : L.Ok) (i : Nat) : place L i < L.n := Nat.mod_lt _ (by have := h.n4; omega)
theorem ring_outs {L : Lg} (hk : L.Ok) (hp : L.pl = 1) (S : List (List UInt8)) (hS : 1 + L.n ≤ S.length) : ∀ m, ringL ⟨(outs L m).foldl PDsk.keep S, [], -1⟩ L.n = rsets L m (ringL ⟨S, [], -1⟩ L.n)
  | 0 => rfl
  | m + 1 => by
    rw [outs_succ, List.foldl_append, rsets_succ, ← ring_outs hk hp S hS m]
    show ringL ⟨PDsk.keep _ (out L m), [], -1⟩ L.n = _
    rw [out_eq, hp]
    show ringL ⟨((outs L m).foldl PDsk.keep S).set (1 + place L m) (img L m), [], -1⟩ L.n = _
    exact ring_set _ _ (place_lt hk m) (by rw [fold_length]; exact hS)
/-- the state of a play -/
structure Pl (n : Nat) (L : Lg) (D : Dsk) : Prop where
  ok : L.Ok
  plE : L.pl = 1
  nE : L.n = n
  n19 : n ≤ 19
  dok : D.Ok
  fuse : D.fuse = -1
  loose : D.loose = []
  len : D.sure.length = 30
  there : ∀ i, begin L.first + 110 * i < L.forced → ∃ p lf, stretch D 1 n L.life (begin L.first + 110 * i) = (p, lf) ∧ min 110 (L.forced - (begin L.first + 110 * i)) ≤ p.length
section
variable {n : Nat} {L : Lg} {D : Dsk}
theorem Pl.eq (h : Pl n L D) : D = ⟨D.sure, [], -1⟩ := by rw [← h.loose, ← h.fuse]
theorem Pl.start {n : Nat} (h1 : 4 ≤ n) (h2 : n ≤ 19) : Pl n (fresh 1 n 1) (new 30) :=
  ⟨fresh_ok h1 (by omega) (by omega) (Nat.le_refl _) (by decide), rfl, rfl, h2, new_ok _ (by omega) (by omega), rfl, rfl, (by show (List.replicate 30 zero).length = 30; rw [List.length_replicate]), fun i hi => by
    have h : begin 110 + 110 * i < 110 := hi
    have e : begin 110 = 110 := by decide
    omega⟩
theorem Pl.append (h : Pl n L D) (s : List UInt8) (hn : L.next ≤ 8900000000000000000) : Pl n (append L s).1 D ∧ (append L s).1.next ≤ L.next + (s.length + 14) ∧ (append L s).1.life = L.life := by
  have hok := append_ok h.ok s hn
  have hD : (PLog.append L s).1.pl = L.pl ∧ (PLog.append L s).1.n = L.n ∧ (PLog.append L s).1.life = L.life ∧ (PLog.append L s).1.first = L.first ∧ (PLog.append L s).1.forced = L.forced ∧ (PLog.append L s).1.next ≤ L.next + (s.length + 14) := by
    unfold PLog.append
    split
    · exact ⟨rfl, rfl, rfl, rfl, rfl, by show L.next ≤ _; omega⟩
    split
    · exact ⟨rfl, rfl, rfl, rfl, rfl, by show L.next ≤ _; omega⟩
    · refine ⟨rfl, rfl, rfl, rfl, rfl, ?_⟩
      show endOf L.first (L.texts ++ [s]) ≤ endOf L.first L.texts + _
      rw [endOf_append]
      show endOf L.first L.texts + (14 + s.length) ≤ _
      omega
  obtain ⟨d1, d2, d3, d4, d5, d6⟩ := hD
  exact ⟨⟨hok, by rw [d1]; exact h.plE, by rw [d2]; exact h.nE, h.n19, h.dok, h.fuse, h.loose, h.len, by rw [d3, d4, d5]; exact h.there⟩, d6, d3⟩
theorem Pl.reserve (h : Pl n L D) (x : Int) : Pl n (reserve L x).1 D ∧ (reserve L x).1.next = L.next ∧ (reserve L x).1.life = L.life := by
  have hok := reserve_ok h.ok x
  have hD : (PLog.reserve L x).1.pl = L.pl ∧ (PLog.reserve L x).1.n = L.n ∧ (PLog.reserve L x).1.life = L.life ∧ (PLog.reserve L x).1.first = L.first ∧ (PLog.reserve L x).1.forced = L.forced ∧ (PLog.reserve L x).1.next = L.next := by
    unfold PLog.reserve
    split
    · exact ⟨rfl, rfl, rfl, rfl, rfl, rfl⟩
    split
    · exact ⟨rfl, rfl, rfl, rfl, rfl, rfl⟩
    · exact ⟨rfl, rfl, rfl, rfl, rfl, rfl⟩
  obtain ⟨d1, d2, d3, d4, d5, d6⟩ := hD
  exact ⟨⟨hok, by rw [d1]; exact h.plE, by rw [d2]; exact h.nE, h.n19, h.dok, h.fuse, h.loose, h.len, by rw [d3, d4, d5]; exact h.there⟩, d6, d3⟩
theorem Pl.keep (h : Pl n L D) (x : Nat) : Pl n (keep L x).1 D ∧ (keep L x).1.next = L.next ∧ (keep L x).1.life = L.life := by
  by_cases hx : x < L.first ∨ L.forced < x ∨ (isAt L x = false ∧ x ≠ L.next)
  · have e : PLog.keep L x = (L, 2) := by unfold PLog.keep; rw [if_pos hx]
    rw [e]
    exact ⟨h, rfl, rfl⟩
  simp only [not_or, not_and, Nat.not_lt] at hx
  have h3 : isAt L x = true ∨ x = L.next := by
    cases hi : isAt L x with
    | true => exact .inl rfl
    | false => exact .inr (Classical.byContradiction fun hne => by have := hx.2.2; simp [hi] at this; exact hne this)
  rw [keep_yes hx.1 hx.2.1 h3]
  obtain ⟨f1, f2, f3, f4, f5, f6, f7⟩ := kept_facts h.ok (keepAt_of h3) hx.2.1
  refine ⟨⟨f7, h.plE, h.nE, h.n19, h.dok, h.fuse, h.loose, h.len, fun i hi => ?_⟩, f6, rfl⟩
  have hb1 := begin_le x
  have hb2 := begin_le L.first
  have hbm := begin_mono f1
  have hi' : begin x + 110 * i < L.forced := hi
  have e : begin x + 110 * i = begin L.first + 110 * ((begin x - begin L.first) / 110 + i) := by omega
  show ∃ p lf, stretch D 1 n L.life (begin x + 110 * i) = (p, lf) ∧ min 110 (L.forced - (begin x + 110 * i)) ≤ p.length
  rw [e]
  exact h.there _ (by omega)
theorem Pl.forced_all (h : Pl n L D) : ({ L with forced := L.next } : Lg).Ok := PLog.forced_all h.ok
theorem fold_at {l : List (Nat × List UInt8)} {p : Nat × List UInt8} (hp : p ∈ l) (hu : ∀ q ∈ l, q.1 = p.1 → q = p) : ∀ s : List (List UInt8), p.1 < s.length → (l.foldl PDsk.keep s)[p.1]? = some p.2 := by
  induction l with
  | nil => cases hp
  | cons q l ih =>
    intro s hs
    rw [List.foldl_cons]
    by_cases hm : p ∈ l
    · exact ih hm (fun q hq e => hu q (by simp [hq]) e) _ (by rw [keep_length]; exact hs)
    · have hq : q = p := by
        rcases List.mem_cons.1 hp with h | h
        · exact h.symm
        · exact absurd h hm
      subst hq
      rw [fold_out (fun r hr e => hm (by have := hu r (by simp [hr]) e; rw [← this]; exact hr))]
      unfold PDsk.keep
      rw [List.getElem?_set]
      simp [hs]
/-- stretches less than a ring apart -/
theorem sec_apart {pl n a b : Nat} (ha : a % 110 = 0) (hb : b % 110 = 0) (h1 : a < b) (h2 : b < a + 110 * n) : sec pl n a ≠ sec pl n b := by
  intro h
  have e1 : a = a / 110 * 110 := by omega
  have e2 : b = b / 110 * 110 := by omega
  rw [e1, e2] at h
  have := sec_ne h (by omega) (by omega)
  omega
theorem stretch_same {D D' : Dsk} {pl n life x : Nat} (h : now D' (sec pl n x) = now D (sec pl n x)) : stretch D' pl n life x = stretch D pl n life x := by unfold stretch; rw [h]
theorem wsteps_outs (hk : L.Ok) (hp : L.pl + L.n ≤ D.sure.length) (hD : D = ⟨D.sure, [], -1⟩) (m : Nat) : wsteps D (outs L m) = (⟨D.sure, outs L m, -1⟩, 0) := by
  have hin := outs_in (m := m) hk
  rw [hD, wsteps_plain _ _ (fun p hp2 => ⟨by have := hin p hp2; show p.1 < D.sure.length; omega, (hin p hp2).2.2⟩), List.nil_append]
theorem force_yes (hk : L.Ok) (hp : L.pl + L.n ≤ D.sure.length) (hD : D = ⟨D.sure, [], -1⟩) {x : Nat} (h1 : x ≤ L.next) (h2 : L.forced ≤ x) (h3 : L.forced ≠ L.next) :
    force L D x = ({ L with forced := L.next }, ⟨(outs L (stretches L)).foldl PDsk.keep D.sure, [], -1⟩, 0) := by
  have hw := wsteps_outs hk hp hD (stretches L)
  have hs : PDsk.sync ⟨D.sure, outs L (stretches L), -1⟩ = (⟨(outs L (stretches L)).foldl PDsk.keep D.sure, [], -1⟩, 0) := by
    unfold PDsk.sync
    rw [if_neg (by show ¬ ((-1 : Int) = 0); decide)]
    rfl
  unfold force
  rw [if_neg (by omega), if_neg (by omega), hw]
  simp only
  rw [hs]
  simp
/-- Force: of both the same -/
theorem Pl.force (h : Pl n L D) (x : Nat) : (force L D x).2.2 = (rforce L x).2.2 ∧ (force L D x).1 = (rforce L x).1 ∧ ringL (force L D x).2.1 n = rsets L (rforce L x).2.1 (ringL D n) ∧ (rforce L x).2.1 ≤ 5000 ∧ (force L D x).1.next = L.next ∧ (force L D x).1.life = L.life ∧ Pl n (force L D x).1 (force L D x).2.1 := by
  by_cases hx : L.next < x ∨ x < L.forced ∨ L.forced = L.next
  · have e1 : (PLog.force L D x).1 = L ∧ (PLog.force L D x).2.1 = D ∧ ((PLog.force L D x).2.2 = (rforce L x).2.2) ∧ (rforce L x).1 = L ∧ (rforce L x).2.1 = 0 := by
      unfold PLog.force rforce
      by_cases h1 : L.next < x
      · rw [if_pos h1, if_pos h1]; exact ⟨rfl, rfl, rfl, rfl, rfl⟩
      · rw [if_neg h1, if_neg h1, if_pos (by omega), if_pos (by omega)]; exact ⟨rfl, rfl, rfl, rfl, rfl⟩
    obtain ⟨e1, e2, e3, e4, e5⟩ := e1
    rw [e1, e2, e4, e5]
    exact ⟨e3, rfl, rfl, by omega, rfl, rfl, h⟩
  have hk := h.ok
  have hp := h.plE
  have hn := h.nE
  have hlen := h.len
  have h19 := h.n19
  have hF := force_yes hk (by omega) h.eq (x := x) (by omega) (by omega) (by omega)
  have hR : rforce L x = ({ L with forced := L.next }, stretches L, 0) := by unfold rforce; rw [if_neg (by omega), if_neg (by omega)]
  rw [hF, hR]
  have hring := ring_outs hk hp D.sure (by omega) (stretches L)
  rw [hn] at hring
  have hst := stretches_le hk
  have hin := outs_in (m := stretches L) hk
  have hD := h.eq
  refine ⟨rfl, rfl, ?_, hst, rfl, rfl, ⟨PLog.forced_all hk, hp, hn, h19, ?_, rfl, rfl, ?_, ?_⟩⟩
  · show ringL ⟨(outs L (stretches L)).foldl PDsk.keep D.sure, [], -1⟩ n = rsets L (stretches L) (ringL D n)
    rw [hring]
    rw [← hD]
  · obtain ⟨d1, d2, d3, d4, d5, d6⟩ := h.dok
    exact ⟨by show 1 ≤ (List.foldl PDsk.keep D.sure _).length; rw [fold_length]; exact d1, by show (List.foldl PDsk.keep D.sure _).length ≤ _; rw [fold_length]; exact d2, fold_128 _ _ d3 (fun p hp => (hin p hp).2.2), by simp, (by show (-1 : Int) ≤ -1; decide), (by show (-1 : Int) ≤ 9223372036854775807; decide)⟩
  · show (List.foldl PDsk.keep D.sure _).length = 30
    rw [fold_length]; exact hlen
  · intro i hi
    have hi' : begin L.first + 110 * i < L.next := hi
    show ∃ p lf, stretch ⟨(outs L (stretches L)).foldl PDsk.keep D.sure, [], -1⟩ 1 n L.life (begin L.first + 110 * i) = (p, lf) ∧ min 110 (L.next - (begin L.first + 110 * i)) ≤ p.length
    have hb1 := begin_le L.first
    have hb2 := begin_le L.forced
    have hbm := begin_mono hk.forced
    have hrg := hk.ring
    have hnx := hk.next5
    have hlf := hk.life5
    have hln := hk.bytes_length
    have hbs : ∀ j, (begin L.forced + 110 * j) % 110 = 0 := fun j => by omega
    obtain ⟨X, hX⟩ : ∃ X, begin L.first + 110 * i = X := ⟨_, rfl⟩
    rw [hX] at hi' ⊢
    have hX0 : X % 110 = 0 := by omega
    have hsx := sec_lt (pl := 1) (x := X) (show 0 < n by have := hk.n4; omega)
    by_cases hlo : X < begin L.forced
    · -- not written
      have hno : ∀ p ∈ outs L (stretches L), p.1 ≠ sec 1 n X := by
        intro p hp2
        unfold outs at hp2
        obtain ⟨j, hj, rfl⟩ := List.mem_map.1 hp2
        have hj' := (lt_stretches L j).1 (List.mem_range.1 hj)
        show sec L.pl L.n (begin L.forced + 110 * j) ≠ _
        rw [hp, hn]
        exact (sec_apart hX0 (hbs j) (by omega) (by rw [hn] at hrg; omega)).symm
      have hsame : now ⟨(outs L (stretches L)).foldl PDsk.keep D.sure, [], -1⟩ (sec 1 n X) = now D (sec 1 n X) := by
        rw [hD, now_plain, now_plain, List.getD_eq_getElem?_getD, fold_out hno, List.getD_eq_getElem?_getD]
      rw [stretch_same hsame]
      obtain ⟨p, lf, e1, e2⟩ := h.there i (by rw [hX]; omega)
      rw [hX] at e1 e2
      exact ⟨p, lf, e1, by omega⟩
    · -- written
      obtain ⟨j, hj⟩ : ∃ j, X = begin L.forced + 110 * j := ⟨(X - begin L.forced) / 110, by omega⟩
      have hjm : j < stretches L := (lt_stretches L j).2 (by omega)
      have hmem : out L j ∈ outs L (stretches L) := by unfold outs; exact List.mem_map.2 ⟨j, List.mem_range.2 hjm, rfl⟩
      have hu : ∀ q ∈ outs L (stretches L), q.1 = (out L j).1 → q = out L j := by
        intro q hq e
        unfold outs at hq
        obtain ⟨j2, hj2, rfl⟩ := List.mem_map.1 hq
        have hj2' := (lt_stretches L j2).1 (List.mem_range.1 hj2)
        have e' : sec L.pl L.n (begin L.forced + 110 * j2) = sec L.pl L.n (begin L.forced + 110 * j) := e
        rcases Nat.lt_trichotomy j2 j with hlt | rfl | hlt
        · exact absurd e' (sec_apart (hbs j2) (hbs j) (by omega) (by omega))
        · rfl
        · exact absurd e'.symm (sec_apart (hbs j) (hbs j2) (by omega) (by omega))
      have hat := fold_at hmem hu D.sure (by show sec L.pl L.n _ < _; rw [hp, hn, ← hj]; omega)
      have hnow : now ⟨(outs L (stretches L)).foldl PDsk.keep D.sure, [], -1⟩ (sec 1 n X) = image (begin X) L.life (part L X) := by
        rw [now_plain, List.getD_eq_getElem?_getD]
        have e3 : (out L j).1 = sec 1 n X := by show sec L.pl L.n _ = _; rw [hp, hn, ← hj]
        rw [e3] at hat
        rw [hat]
        show img L j = _
        unfold img
        rw [← hj, show begin X = X by unfold begin; omega]
      refine ⟨part L X, L.life, stretch_image hnow (part_le L X) (by omega) (by omega) (Nat.le_refl _), ?_⟩
      unfold part
      rw [List.length_take, List.length_drop, hln]
      omega
theorem stretch_later {D : Dsk} {pl n life x : Nat} {p : List UInt8} {lf : Nat} (h : stretch D pl n life x = (p, lf)) (hp : p ≠ []) : stretch D pl n (life + 1) x = (p, lf) := by
  unfold stretch at h ⊢
  split at h
  · exact absurd (congrArg Prod.fst h).symm hp
  · rename_i hc
    rw [if_neg (by omega)]
    exact h
theorem stream_stretch {D : Dsk} {pl n life : Nat} : ∀ (i k x el : Nat), 110 * i < (stream D pl n life k x el).length → ∃ p lf, stretch D pl n life (x + 110 * i) = (p, lf) ∧ min 110 ((stream D pl n life k x el).length - 110 * i) ≤ p.length
  | i, 0, x, el, h => by simp [stream] at h
  | 0, k + 1, x, el, h => by
    obtain ⟨p, lf, hs⟩ : ∃ p lf, stretch D pl n life x = (p, lf) := ⟨_, _, rfl⟩
    refine ⟨p, lf, hs, ?_⟩
    have hle := stretch_le D pl n life x
    rw [hs] at hle
    by_cases h1 : p = [] ∨ lf < el
    · rw [stream_stop (by rw [hs]; exact h1)] at h
      simp at h
    · have hp : p ≠ [] := fun e => h1 (.inl e)
      have hl : el ≤ lf := Nat.le_of_not_lt fun e => h1 (.inr e)
      by_cases h2 : p.length < 110
      · rw [stream_short hs hp hl h2]
        omega
      · omega
  | i + 1, k + 1, x, el, h => by
    obtain ⟨p, lf, hs⟩ : ∃ p lf, stretch D pl n life x = (p, lf) := ⟨_, _, rfl⟩
    have hle := stretch_le D pl n life x
    rw [hs] at hle
    have hle' : p.length ≤ 110 := hle
    by_cases h1 : p = [] ∨ lf < el
    · rw [stream_stop (by rw [hs]; exact h1)] at h
      simp at h
    · have hp : p ≠ [] := fun e => h1 (.inl e)
      have hl : el ≤ lf := Nat.le_of_not_lt fun e => h1 (.inr e)
      by_cases h2 : p.length < 110
      · rw [stream_short hs hp hl h2] at h
        omega
      · rw [stream_on hs hp hl h2] at h ⊢
        rw [List.length_append] at h ⊢
        obtain ⟨p2, lf2, e1, e2⟩ := stream_stretch (D := D) (pl := pl) (n := n) (life := life) i k (x + 110) lf (by omega)
        refine ⟨p2, lf2, ?_, by omega⟩
        rw [show x + 110 * (i + 1) = x + 110 + 110 * i by omega]
        exact e1
theorem Pl.opens (h : Pl n L D) (hl : L.life ≤ 8000000000000000000) (hf : L.first ≤ 4611686018427387904) : Opens D 1 n (L.life + 1) L.first := by
  have hk := h.ok
  have hlen := h.len
  have h19 := h.n19
  have hn := h.nE
  have hb := begin_le L.first
  refine ⟨by rw [← hn]; exact hk.n4, by omega, by omega, by omega, by omega, by omega, hk.first, hf, ?_⟩
  by_cases h0 : begin L.first < L.first
  · obtain ⟨p, lf, e1, e2⟩ := h.there 0 (by have := hk.forced; omega)
    rw [Nat.mul_zero, Nat.add_zero] at e1 e2
    have hff := hk.forced
    have hpl : L.first - begin L.first ≤ p.length := by omega
    have hp : p ≠ [] := fun e => by rw [e] at hpl; simp at hpl; omega
    have e1' := stretch_later e1 hp
    have h4 := hk.n4
    obtain ⟨m, rfl⟩ : ∃ m, n = m + 1 := ⟨n - 1, by omega⟩
    by_cases h2 : p.length < 110
    · rw [stream_short e1' hp (Nat.zero_le _) h2]; exact hpl
    · rw [stream_on e1' hp (Nat.zero_le _) h2, List.length_append]; omega
  · omega
/-- Open behind a crash -/
theorem Pl.open_ (h : Pl n L D) (hl : L.life ≤ 8000000000000000000) (hf : L.first ≤ 4611686018427387904) :
    Pl n (opened D 1 n (L.life + 1) L.first) (Go.Proofs.Ytjnggldalggfnaa.fixedD D 1 n (L.life + 1) L.first) ∧ (opened D 1 n (L.life + 1) L.first).next ≤ L.next + 2090 ∧
      (∀ i, i < n → (ringL (Go.Proofs.Ytjnggldalggfnaa.fixedD D 1 n (L.life + 1) L.first) n)[i]? = some (if fixOf D 1 n (L.life + 1) L.first ≠ [] ∧ i = fixAt D 1 n (L.life + 1) L.first then fixOf D 1 n (L.life + 1) L.first else now D (1 + i))) := by
  have ho := h.opens hl hf
  obtain ⟨o1, o2, o3⟩ := opened_facts ho
  have hlen := h.len
  have h19 := h.n19
  have hn4 : 4 ≤ n := ho.n4
  have hb := begin_le L.first
  have hfn := L.first_next
  obtain ⟨life, hlf⟩ : ∃ life, L.life + 1 = life := ⟨_, rfl⟩
  rw [hlf] at ho o1 o2 o3 ⊢
  obtain ⟨f, hff⟩ : ∃ f, L.first = f := ⟨_, rfl⟩
  rw [hff] at ho o1 o2 o3 hb hfn ⊢
  have hsl := stream_le D 1 n life n (begin f) 0
  obtain ⟨S, hS⟩ : ∃ S, stream D 1 n life n (begin f) 0 = S := ⟨_, rfl⟩
  have hss := fun i => stream_stretch (D := D) (pl := 1) (n := n) (life := life) i n (begin f) 0
  rw [hS] at o2 o3 hsl hss
  have hstale : staleB D 1 n life f = decide ((opened D 1 n life f).bytes.length < S.length) := by unfold staleB; rw [hS]
  have hfx : Go.Proofs.Ytjnggldalggfnaa.fixedD D 1 n life f = if (opened D 1 n life f).bytes.length < S.length then (PDsk.sync (Go.Proofs.Ytjnggldalggfnaa.writeL (opened D 1 n life f) D (begin (opened D 1 n life f).next)).1).1 else D := by unfold Go.Proofs.Ytjnggldalggfnaa.fixedD; rw [hS]
  have hof : (opened D 1 n life f).forced = (opened D 1 n life f).next := rfl
  have hofi : (opened D 1 n life f).first = f := rfl
  have holi : (opened D 1 n life f).life = life := rfl
  have hopl : (opened D 1 n life f).pl = 1 := rfl
  have hopn : (opened D 1 n life f).n = n := rfl
  obtain ⟨L', hL'⟩ : ∃ L', opened D 1 n life f = L' := ⟨_, rfl⟩
  have hfo : fixOf D 1 n life f = if staleB D 1 n life f = true then image (begin L'.next) life (part L' (begin L'.next)) else [] := by unfold fixOf; rw [hL']
  have hfa : fixAt D 1 n life f = if staleB D 1 n life f = true then L'.next / 110 % n else 0 := by unfold fixAt; rw [hL']
  rw [hL'] at o1 o2 o3 hstale hfx hof hofi holi hopl hopn ⊢
  have hfn' := L'.first_next
  rw [hofi] at hfn'
  have hbl : L'.bytes.length = f - begin f + (L'.next - f) := by rw [o2, List.length_take]; omega
  have hbl2 := o1.bytes_length
  have hne := o1.next5
  have hl5 := ho.life5
  have hthere : ∀ X i, X = begin f + 110 * i → X < L'.next → ∃ p lf, stretch D 1 n life X = (p, lf) ∧ min 110 (L'.next - X) ≤ p.length := fun X i hX hi => by
    obtain ⟨p, lf, e1, e2⟩ := hss i (by omega)
    rw [← hX] at e1
    exact ⟨p, lf, e1, by omega⟩
  by_cases hst : L'.bytes.length < S.length
  · rw [if_pos hst] at hfx
    have hsb : staleB D 1 n life f = true := by rw [hstale]; simpa using hst
    rw [if_pos hsb] at hfo hfa
    have hbn := begin_le L'.next
    have hbm := begin_mono (show f ≤ L'.next by omega)
    obtain ⟨Y, hY⟩ : ∃ Y, begin L'.next = Y := ⟨_, rfl⟩
    rw [hY] at hfx hfo hbn hbm
    have hY0 : Y % 110 = 0 := by omega
    have hdiv : L'.next / 110 = Y / 110 := by omega
    rw [hdiv] at hfa
    obtain ⟨a, ha⟩ : ∃ a, Y / 110 % n = a := ⟨_, rfl⟩
    rw [ha] at hfa
    have han : a < n := by rw [← ha]; exact Nat.mod_lt _ (by omega)
    have hsec : sec 1 n Y = 1 + a := by unfold sec; rw [ha]
    obtain ⟨v, hv⟩ : ∃ v, image Y life (part L' Y) = v := ⟨_, rfl⟩
    have hpl := part_le L' Y
    have hvl : v.length = 128 := by rw [← hv]; exact image_length hpl
    rw [hv] at hfo
    have hD := h.eq
    have hfD : Go.Proofs.Ytjnggldalggfnaa.fixedD D 1 n life f = ⟨D.sure.set (1 + a) v, [], -1⟩ := by
      rw [hfx]
      have hw : Go.Proofs.Ytjnggldalggfnaa.writeL L' D Y = (⟨D.sure, [(1 + a, v)], -1⟩, 0) := by
        unfold Go.Proofs.Ytjnggldalggfnaa.writeL
        rw [hopl, hopn, hsec, holi, hv]
        unfold PDsk.write
        rw [if_neg (by rw [h.fuse]; decide), if_neg (by rw [hvl]; omega), h.loose, h.fuse]
        rfl
      rw [hw]
      rfl
    rw [hfD]
    have hvne : v ≠ [] := fun e => by rw [e] at hvl; simp at hvl
    refine ⟨⟨o1, hopl, hopn, h19, ?_, rfl, rfl, ?_, fun i hi => ?_⟩, ?_, fun i hi => ?_⟩
    · obtain ⟨d1, d2, d3, d4, d5, d6⟩ := h.dok
      exact ⟨by show 1 ≤ (D.sure.set _ _).length; rw [List.length_set]; exact d1, by show (D.sure.set _ _).length ≤ _; rw [List.length_set]; exact d2, fun y hy => by
        rcases List.mem_or_eq_of_mem_set hy with h1 | h1
        · exact d3 y h1
        · rw [h1]; exact hvl, by simp, (by show (-1 : Int) ≤ -1; decide), (by show (-1 : Int) ≤ 9223372036854775807; decide)⟩
    · show (D.sure.set _ _).length = 30
      rw [List.length_set]; exact hlen
    · rw [hof] at hi ⊢
      rw [hofi] at hi ⊢
      rw [holi]
      obtain ⟨X, hX⟩ : ∃ X, begin f + 110 * i = X := ⟨_, rfl⟩
      rw [hX] at hi ⊢
      by_cases hXY : X = Y
      · have hnow : now ⟨D.sure.set (1 + a) v, [], -1⟩ (sec 1 n X) = image (begin X) life (part L' X) := by
          rw [hXY, hsec, now_plain, List.getD_eq_getElem?_getD, List.getElem?_set]
          rw [if_pos rfl, if_pos (by omega), show begin Y = Y by unfold begin; omega, hv]
          rfl
        refine ⟨part L' X, life, stretch_image hnow (part_le L' X) (by omega) (by omega) (Nat.le_refl _), ?_⟩
        unfold part
        rw [List.length_take, List.length_drop, hofi]
        omega
      · have hlt : X < Y := by omega
        have hsame : now ⟨D.sure.set (1 + a) v, [], -1⟩ (sec 1 n X) = now D (sec 1 n X) := by
          have hne := sec_apart (pl := 1) (n := n) (show X % 110 = 0 by omega) hY0 hlt (by omega)
          rw [hsec] at hne
          rw [hD, now_plain, now_plain, List.getD_eq_getElem?_getD, List.getElem?_set_ne (Ne.symm hne), List.getD_eq_getElem?_getD]
        rw [stretch_same hsame]
        exact hthere X i hX.symm hi
    · omega
    · rw [ring_set _ _ han (by omega), List.getElem?_set]
      rw [hfo, hfa, ← hD]
      by_cases hai : a = i
      · rw [if_pos hai, if_pos (by rw [ringL_length]; exact han), if_pos ⟨hvne, hai.symm⟩]
      · rw [if_neg hai, if_neg (fun hh => hai hh.2.symm)]
        exact ringL_at D n hi
  · rw [if_neg hst] at hfx
    have hsb : staleB D 1 n life f = false := by rw [hstale]; simpa using hst
    have hfo' : fixOf D 1 n life f = [] := by rw [hfo, hsb]; rfl
    rw [hfx]
    refine ⟨⟨o1, hopl, hopn, h19, h.dok, h.fuse, h.loose, hlen, fun i hi => ?_⟩, ?_, fun i hi => ?_⟩
    · rw [hof] at hi ⊢
      rw [hofi] at hi ⊢
      rw [holi]
      exact hthere _ i rfl hi
    · omega
    · rw [hfo', if_neg (fun hh => hh.1 rfl)]
      exact ringL_at D n hi
end
end PLog
namespace Go.Proofs.Ytjnggldalggfnaa
open Go.RowKit
def playV (gl b gr life n : Nat) (kv : Value) : Array Value := #[.pointer (some ⟨b, 0, none⟩), .pointer (some ⟨gl, 0, none⟩), .pointer (some ⟨gr, 0, none⟩), .int .u64 life, .int .i64 n, kv]
structure PlayX (w : World) (p gl b gr life n : Nat) (kv : Value) (L1 : PLog.Lg) (D : PDsk.Dsk) (o1 : List Nat) (L2 : PLog.Lg) (fix : List UInt8) (fa : Nat) (o2 : List Nat) : Prop where
  row : w.heap[p]? = some (.cells (playV gl b gr life n kv) 54 (0, 0))
  ld : LD w gl L1 b D o1
  ref : IsRef w gr L2 fix fa o2
  d1 : p ∉ o1
  d2 : p ∉ o2
  d : ∀ k ∈ o1, k ∉ o2
def plOwn (p : Nat) (o1 o2 : List Nat) : List Nat := p :: (o1 ++ o2)
section
variable {w w' : World} {p gl gl' b gr gr' life life' n : Nat} {kv : Value} {L1 L1' : PLog.Lg} {D D' : PDsk.Dsk} {o1 o1' : List Nat} {L2 L2' : PLog.Lg} {fix fix' : List UInt8} {fa fa' : Nat} {o2 o2' : List Nat}
theorem PlayX.plt (h : PlayX w p gl b gr life n kv L1 D o1 L2 fix fa o2) : p < w.heap.size := (Array.getElem?_eq_some_iff.1 h.row).1
theorem PlayX.lt (h : PlayX w p gl b gr life n kv L1 D o1 L2 fix fa o2) : ∀ k ∈ plOwn p o1 o2, k < w.heap.size := by
  intro k hk
  simp only [plOwn, List.mem_cons, List.mem_append] at hk
  rcases hk with rfl | hk | hk
  · exact h.plt
  · exact h.ld.lt k hk
  · exact h.ref.lt k hk
theorem PlayX.below (h : PlayX w p gl b gr life n kv L1 D o1 L2 fix fa o2) (hb : Below w.heap.size w w') : PlayX w' p gl b gr life n kv L1 D o1 L2 fix fa o2 :=
  ⟨(hb.block p h.plt).trans h.row, h.ld.below hb, h.ref.below hb, h.d1, h.d2, h.d⟩
theorem PlayX.cells (h : PlayX w p gl b gr life n kv L1 D o1 L2 fix fa o2) : w.cell? ⟨p, 0, none⟩ = some (.pointer (some ⟨b, 0, none⟩)) ∧ w.cell? ⟨p, 1, none⟩ = some (.pointer (some ⟨gl, 0, none⟩)) ∧ w.cell? ⟨p, 2, none⟩ = some (.pointer (some ⟨gr, 0, none⟩)) ∧ w.cell? ⟨p, 3, none⟩ = some (.int .u64 life) ∧ w.cell? ⟨p, 4, none⟩ = some (.int .i64 n) := by
  simp [World.cell?, h.row, playV]
theorem PlayX.shut (h : PlayX w p gl b gr life n kv L1 D o1 L2 fix fa o2) (j : Nat) : w.frozen? ⟨p, j, none⟩ = false := by simp [World.frozen?, h.row]
/-- a step of the log and its disk -/
theorem PlayX.log (h : PlayX w p gl b gr life n kv L1 D o1 L2 fix fa o2) (hl : LD w' gl' L1' b D' o1') (s : Stepped w w' o1 o1') (hg : gl' = gl) : PlayX w' p gl b gr life n kv L1' D' o1' L2 fix fa o2 ∧ Stepped w w' (plOwn p o1 o2) (plOwn p o1' o2) := by
  subst hg
  refine ⟨⟨(s.1.block p h.plt h.d1).trans h.row, hl, h.ref.turns s.1 (fun k hk hm => h.d k hm hk), fun hm => ?_, h.d2, fun k hk hm => ?_⟩, s.1.mono (fun k hk => by simp [plOwn, hk]), fun k hk => ?_⟩
  · rcases s.2 p hm with h1 | h1
    · exact h.d1 h1
    · have := h.plt; omega
  · rcases s.2 k hk with h1 | h1
    · exact h.d k h1 hm
    · have := h.ref.lt k hm; omega
  · simp only [plOwn, List.mem_cons, List.mem_append] at hk ⊢
    rcases hk with rfl | hk | hk
    · exact .inl (.inl rfl)
    · rcases s.2 k hk with h1 | h1
      · exact .inl (.inr (.inl h1))
      · exact .inr h1
    · exact .inl (.inr (.inr hk))
/-- .. of the document's log -/
theorem PlayX.refs (h : PlayX w p gl b gr life n kv L1 D o1 L2 fix fa o2) (hl : IsRef w' gr L2' fix' fa' o2') (s : Stepped w w' o2 o2') : PlayX w' p gl b gr life n kv L1 D o1 L2' fix' fa' o2' ∧ Stepped w w' (plOwn p o1 o2) (plOwn p o1 o2') := by
  refine ⟨⟨(s.1.block p h.plt h.d2).trans h.row, h.ld.turns s.1 (fun k hk hm => h.d k hk hm), hl, h.d1, fun hm => ?_, fun k hk hm => ?_⟩, s.1.mono (fun k hk => by simp [plOwn, hk]), fun k hk => ?_⟩
  · rcases s.2 p hm with h1 | h1
    · exact h.d2 h1
    · have := h.plt; omega
  · rcases s.2 k hm with h1 | h1
    · exact h.d k hk h1
    · have := h.ld.lt k hk; omega
  · simp only [plOwn, List.mem_cons, List.mem_append] at hk ⊢
    rcases hk with rfl | hk | hk
    · exact .inl (.inl rfl)
    · exact .inl (.inr (.inl hk))
    · rcases s.2 k hk with h1 | h1
      · exact .inl (.inr (.inr h1))
      · exact .inr h1
/-- a cell of the play is written -/
theorem PlayX.field (h : PlayX w p gl b gr life n kv L1 D o1 L2 fix fa o2) (j : Nat) (v : Value) {gl2 gr2 : Nat} (hl : LD w gl2 L1' b D' o1') (hr : IsRef w gr2 L2' fix' fa' o2') (e1 : p ∉ o1') (e2 : p ∉ o2') (e3 : ∀ k ∈ o1', k ∉ o2')
    (hv : (playV gl b gr life n kv).setIfInBounds j v = playV gl2 b gr2 life' n kv) : PlayX (w.setCell ⟨p, j, none⟩ v) p gl2 b gr2 life' n kv L1' D' o1' L2' fix' fa' o2' := by
  have t : Turns [p] w (w.setCell ⟨p, j, none⟩ v) := Turns.cell v (by simp)
  exact ⟨by rw [heap_set h.row, hv], hl.turns t (fun k hk hm => by simp at hm; subst hm; exact e1 hk), hr.turns t (fun k hk hm => by simp at hm; subst hm; exact e2 hk), e1, e2, e3⟩
end
def RingPost (r : List (List UInt8)) (w : World) (e : Ending) (w' : World) : Prop := ∃ v, e = .returned v ∧ Sl w' w.heap.size 9 1 v r.length (strV r) ∧ Below w.heap.size w w'
set_option maxRecDepth 20000 in
set_option maxHeartbeats 2000000 in
theorem pring_any {p gl b gr life n : Nat} {kv : Value} {L1 : PLog.Lg} {D : PDsk.Dsk} {o1 : List Nat} {L2 : PLog.Lg} {fix : List UInt8} {fa : Nat} {o2 : List Nat} (w : World) (h : PlayX w p gl b gr life n kv L1 D o1 L2 fix fa o2) (hf : D.fuse = -1) (hn : n ≤ 100) (hs : 1 + n ≤ D.sure.length) :
    Calls Try.prog 51 #[.pointer (some ⟨p, 0, none⟩)] w (RingPost (PLog.ringL D n) w) := by
  have H := Lib.hid h
  have hp := h.plt
  obtain ⟨c0, _, _, _, c4⟩ := h.cells
  have HRD : Hid (∀ W i K, i < n → K = 1 + i → Below w.heap.size w W → Calls Try.prog 23 #[.pointer (some ⟨b, 0, none⟩), .int .i64 (K : Nat)] W fun e w' => e = .returned (.tuple #[.string ⟨(PDsk.now D K).toArray⟩, .int .i64 0]) ∧ Below W.heap.size W w') := Lib.hid (fun W i K hi hK hb => by
    obtain ⟨o, hd⟩ := (h.ld.below hb).disk
    have := read_any W hd (K : Nat) (by omega)
    rw [PDsk.read_now (by rw [hf]; decide) (by omega)] at this
    exact this)
  have HRL : Hid (∀ i, i < n → (PLog.ringL D n).take (i + 1) = (PLog.ringL D n).take i ++ [PDsk.now D (1 + i)]) := Lib.hid (fun i hi => by
    have hl : i < (PLog.ringL D n).length := by rw [PLog.ringL_length]; exact hi
    rw [List.take_succ_eq_append_getElem hl]
    have := PLog.ringL_at D n hi
    rw [List.getElem?_eq_getElem hl] at this
    rw [Option.some.inj this])
  have HRN : Hid ((PLog.ringL D n).take n = PLog.ringL D n ∧ (PLog.ringL D n).length = n) := Lib.hid ⟨by rw [List.take_of_length_le (by rw [PLog.ringL_length]; exact Nat.le_refl _)], PLog.ringL_length D n⟩
  clear h
  go_enter Try.func51, Try.ntmps51
  go_wp2_with fail
  go_loopw [3, 4, 5, 6] (fun vv iv _ _ wr => ∃ i : Nat, i ≤ n ∧ iv = .int .i64 i ∧ (∃ q c, vv = .slice q i c) ∧ Hid (Sl wr w.heap.size 9 1 vv i (strV ((PLog.ringL D n).take i)) ∧ Below w.heap.size w wr)) (fun _ iv _ _ _ => n - (intOf iv).toNat)
  case atStart => exact ⟨0, Nat.zero_le _, rfl, ⟨none, 0, rfl⟩, Lib.hid ⟨by simpa [strV] using Sl.nil _ _ _ _, Below.refl _ _⟩⟩
  case round =>
    obtain ⟨i, hi, rfl, ⟨q, c, rfl⟩, HS⟩ := hrel
    have hB := HS.out.2
    have c0' := (hB.cell (p := ⟨p, 0, none⟩) hp).trans c0
    have c4' := (hB.cell (p := ⟨p, 4, none⟩) hp).trans c4
    have HB := Lib.hid hB
    by_cases hlt : i < n
    · have i1 : (i : Int) < n := by omega
      obtain ⟨K, hK⟩ : ∃ K, K = 1 + i := ⟨_, rfl⟩
      have w1 : IntKind.i64.wrap (1 + (i : Int)) = K := by rw [IntWalk.i64_in _ (by omega)]; omega
      have HK := Lib.hid hK
      have HRC := Lib.hid (HRD.out wr i K hlt hK hB)
      have HSL := Lib.hid HS.out.1
      clear hB hK HS
      go_wp2_with fail
      refine HRC.out.mono ?_; rintro e w2 ⟨rfl, hb⟩
      have HB2 := Lib.hid (HB.out.step hb)
      have HSL2 := Lib.hid (HSL.out.keep fun k e => hb.block k (HSL.out.lt k e).2)
      have c42 := (HB2.out.cell (p := ⟨p, 4, none⟩) hp).trans c4
      clear hb HSL c0' c4' HB
      go_wp2_with (at_builtin; (with_reducible apply wpList_append_sl elem_str (HSL2.out.alloc _) [.string ⟨(PDsk.now D K).toArray⟩]); (· rfl); (· rfl); (· rfl); (· rfl); (· rfl); (· exact news_alloc _ [_] _ _); (· intro u hu; simp at hu; subst hu; rfl); (· unfold maxLen; omega); (· omega); (· have := HB2.out.size; simp; omega); intro v' w3 k1 k2 _ k3; obtain ⟨q3, c3, rfl⟩ := Sl.form k1; have HS3 := Lib.hid (And.intro k1 ((HB2.out.alloc HB2.out.size _).grown k2 (by have := HB2.out.size; simp; omega) (fun k hk => (HSL2.out.lt k hk).1))); clear k1 k2 k3)
      go_roundw
      case rel => exact ⟨i + 1, by omega, by go_num, ⟨_, _, rfl⟩, Lib.hid ⟨by rw [HRL.out i hlt, strV_snoc, ← HK.out]; exact HS3.out.1, HS3.out.2⟩⟩
      case measure => simp [intOf]; omega
    · have i1 : ¬ (i : Int) < n := by omega
      have hin : i = n := by omega
      subst hin
      clear hlt hB
      go_wp2
      go_ret
      refine ⟨_, rfl, ?_, HB.out⟩
      rw [HRN.out.2]
      have := HS.out.1
      rwa [HRN.out.1] at this
end Go.Proofs.Ytjnggldalggfnaa
namespace PLog
def lsnOf (L : Lg) (which lsn : Nat) : Nat := if which = 0 ∨ L.texts.length = 0 then lsn else if (which - 1) % (L.texts.length + 1) = L.texts.length then L.next else L.starts.getD ((which - 1) % (L.texts.length + 1)) 0
end PLog
namespace Go.Proofs.Ytjnggldalggfnaa
open Go.RowKit
def ActM.row (x : ActM) : Array Value := #[.int .u8 x.dO, .string x.s, .int .u64 x.lsn, .int .u8 x.which, .int .i64 x.n, x.kv]
set_option maxRecDepth 20000 in
set_option maxHeartbeats 2000000 in
theorem plsn_any {p gl b gr life n : Nat} {kv : Value} {L1 : PLog.Lg} {D : PDsk.Dsk} {o1 : List Nat} {L2 : PLog.Lg} {fix : List UInt8} {fa : Nat} {o2 : List Nat} (w : World) (h : PlayX w p gl b gr life n kv L1 D o1 L2 fix fa o2) (x : ActM) (hx : x.Ok) :
    Calls Try.prog 48 #[.pointer (some ⟨p, 0, none⟩), .agg x.row] w fun e w' => e = .returned (.int .u64 (PLog.lsnOf L2 x.which x.lsn : Nat)) ∧ Below w.heap.size w w' := by
  obtain ⟨xd, xs, xl, xw, xn, xk, xkeep⟩ := x
  unfold ActM.row
  obtain ⟨hx1, hx2, hx3, hx4, hx5, hx6, hx7⟩ := hx
  dsimp only at hx1 hx2 hx3 hx4 hx5 hx6 hx7 ⊢
  obtain ⟨W, hW⟩ : ∃ W, w.alloc (.cells #[.int .u8 xd, .string xs, .int .u64 xl, .int .u8 xw, .int .i64 xn, xk] 46) = W := ⟨_, rfl⟩
  have hB : Below w.heap.size w W := by rw [← hW]; exact (Below.refl _ _).alloc (Nat.le_refl _) _
  have HB := Lib.hid hB
  have hW' := h.below hB
  have hrow : W.heap[w.heap.size]? = some (.cells #[.int .u8 xd, .string xs, .int .u64 xl, .int .u8 xw, .int .i64 xn, xk] 46 (0, 0)) := by rw [← hW]; exact heap_alloc_new _ _
  have a2 : W.cell? ⟨w.heap.size, 2, none⟩ = some (.int .u64 xl) := by simp [World.cell?, hrow]
  have a3 : W.cell? ⟨w.heap.size, 3, none⟩ = some (.int .u8 xw) := by simp [World.cell?, hrow]
  obtain ⟨_, _, c2, _, _⟩ := hW'.cells
  obtain ⟨hk, va, vl, hf, _⟩ := hW'.ref.open_
  obtain ⟨pa, ca, rfl⟩ := hf.aform
  obtain ⟨m, hm⟩ : ∃ m, L2.texts.length = m := ⟨_, rfl⟩
  have hst : (PLog.toRf L2 fix fa).ats.length = m := by show (PLog.startsOf L2.first L2.texts).length = m; rw [PLog.startsOf_length, hm]
  have hmb : m ≤ 1000000 := by have := Lg_starts_len hk; unfold PLog.Lg.starts at this; rw [PLog.startsOf_length] at this; omega
  rw [hst] at hf
  have c1 := hf.cell1
  have c5 : W.cell? ⟨gr, 5, none⟩ = some (.int .u64 L2.next) := hf.cell5
  have HAT := Lib.hid (fun i (hi : i < m) => hf.at_ hst hi)
  have HLS : Hid (PLog.lsnOf L2 xw xl = if xw = 0 ∨ m = 0 then xl else if (xw - 1) % (m + 1) = m then L2.next else L2.starts.getD ((xw - 1) % (m + 1)) 0) := Lib.hid (by unfold PLog.lsnOf; rw [hm])
  have HWW := Lib.hid hW
  clear h hB hW' hrow hk hf hst hm hW
  by_cases h0 : xw = 0
  · have HQ : Hid (PLog.lsnOf L2 xw xl = xl) := Lib.hid (by rw [HLS.out, if_pos (.inl h0)])
    rw [h0] at a3
    clear h0
    go_enter Try.func48, Try.ntmps48
    go_upto_region 1 with fail
    rw [HWW.out]
    go_wp2
    go_ret
    exact ⟨by rw [HQ.out]; rfl, HB.out⟩
  have z0 : ((xw : Int) == 0) = false := by rw [beq_eq_false_iff_ne]; omega
  by_cases h1 : m = 0
  · have HQ : Hid (PLog.lsnOf L2 xw xl = xl) := Lib.hid (by rw [HLS.out, if_pos (.inr h1)])
    subst h1
    clear h0
    go_enter Try.func48, Try.ntmps48
    go_upto_region 1 with fail
    rw [HWW.out]
    go_wp2
    go_ret
    exact ⟨by rw [HQ.out]; rfl, HB.out⟩
  have z1 : ((m : Int) == 0) = false := by rw [beq_eq_false_iff_ne]; omega
  obtain ⟨X, hX⟩ : ∃ X, xw - 1 = X := ⟨_, rfl⟩
  obtain ⟨M, hM⟩ : ∃ M, m + 1 = M := ⟨_, rfl⟩
  obtain ⟨k, hk⟩ : ∃ k, X % M = k := ⟨_, rfl⟩
  rw [if_neg (by omega), hX, hM, hk] at HLS
  have hkM : k < M := by rw [← hk]; exact Nat.mod_lt _ (by omega)
  have w1 : IntKind.u8.wrap ((xw : Int) - 1) = X := by rw [IntWalk.u8_in _ (by omega)]; omega
  have w2 : IntKind.i64.wrap (X : Int) = X := IntWalk.i64_in _ (by omega)
  have w3 : IntKind.i64.wrap ((m : Int) + 1) = M := by rw [IntWalk.i64_in _ (by omega)]; omega
  have w4 : (X : Int).tmod M = k := by rw [Int.tmod_eq_emod_of_nonneg (by omega), ← hk]; rfl
  have w5 : IntKind.i64.wrap (k : Int) = k := IntWalk.i64_in _ (by omega)
  have zM : ¬ (M : Int) = 0 := by omega
  have zM2 : ¬ M = 0 := by omega
  by_cases h2 : k = m
  · have HQ : Hid (PLog.lsnOf L2 xw xl = L2.next) := Lib.hid (by rw [HLS.out, if_pos h2])
    have z2 : ((k : Int) == m) = true := by simp [h2]
    clear h0 h1 h2 hX hM hk
    go_enter Try.func48, Try.ntmps48
    go_upto_region 1 with fail
    rw [HWW.out]
    go_wp2_with fail
    go_quiet (fail)
    go_wp2
    go_ret
    exact ⟨by rw [HQ.out]; rfl, HB.out.trans ((lowN _ _).mono HB.out.size)⟩
  · have hkm : k < m := by omega
    have z2 : ((k : Int) == m) = false := by rw [beq_eq_false_iff_ne]; omega
    obtain ⟨ga, oa, rfl, ha1, y, ha2, ha3⟩ := HAT.out k hkm
    have HQ : Hid (PLog.lsnOf L2 xw xl = y) := Lib.hid (by
      rw [HLS.out, if_neg h2, List.getD_eq_getElem?_getD, show L2.starts[k]? = some y from ha2]
      rfl)
    have y0 : (0 : Int) ≤ k := by omega
    have y1 : (k : Int) < m := by omega
    clear h0 h1 h2 hX hM hk ha2
    go_enter Try.func48, Try.ntmps48
    go_upto_region 1 with fail
    rw [HWW.out]
    go_wp2_with fail
    go_quiet (fail)
    go_wp2
    go_ret
    exact ⟨by rw [HQ.out]; rfl, HB.out.trans ((lowN _ _).mono HB.out.size)⟩
end Go.Proofs.Ytjnggldalggfnaa
namespace Go.Proofs.Ytjnggldalggfnaa
open Go.RowKit
theorem rd_str {w : World} {v : Value} {l : List (List UInt8)} {n : Nat} (h : Rd w v (strV l)) (hn : l.length = n) : ∃ p c, v = .slice p n c ∧ ∀ i, i < n → ∃ g o y, p = some ⟨g, o, none⟩ ∧ g < w.heap.size ∧ l[i]? = some y ∧ w.cell? ⟨g, o + i, none⟩ = some (.string ⟨y.toArray⟩) := by
  obtain ⟨p, c, rfl, _, _, h4⟩ := h
  refine ⟨p, c, by rw [strV_length, hn], fun i hi => ?_⟩
  have hi' : i < (strV l).length := by rw [strV_length, hn]; exact hi
  obtain ⟨g, o, rfl, e2, e3⟩ := h4 (fun e => by rw [e] at hi'; simp at hi')
  have hl : i < l.length := by rw [hn]; exact hi
  refine ⟨g, o, l[i], rfl, e2, List.getElem?_eq_getElem hl, ?_⟩
  rw [e3 i hi']
  simp [strV]
set_option maxRecDepth 20000 in
set_option maxHeartbeats 2000000 in
theorem pfixed_any {gr fa n : Nat} {L : PLog.Lg} {fix : List UInt8} {own : List Nat} (w : World) (h : IsRef w gr L fix fa own) (v1 v2 : Value) (was now : List (List UInt8)) (h1 : Rd w v1 (strV was)) (h2 : Rd w v2 (strV now)) (e1 : was.length = n) (e2 : now.length = n) (hn : n ≤ 100)
    (hq : ∀ i a, i < n → was[i]? = some a → now[i]? = some (if fix ≠ [] ∧ i = fa then fix else a)) :
    Calls Try.prog 53 #[v1, v2, .pointer (some ⟨gr, 0, none⟩)] w fun e w' => e = .returned (.bool true) ∧ w = w' := by
  obtain ⟨p1, c1, rfl, hc1⟩ := rd_str h1 e1
  obtain ⟨p2, c2, rfl, hc2⟩ := rd_str h2 e2
  obtain ⟨_, _, _, _, _, _, c8, c9⟩ := h.cells
  have HC : Hid (∀ i, i < n → ∃ ga oa a gb ob, p1 = some ⟨ga, oa, none⟩ ∧ w.cell? ⟨ga, oa + i, none⟩ = some (.string ⟨a.toArray⟩) ∧ p2 = some ⟨gb, ob, none⟩ ∧ w.cell? ⟨gb, ob + i, none⟩ = some (.string ⟨(if fix ≠ [] ∧ i = fa then fix else a).toArray⟩)) := Lib.hid (fun i hi => by
    obtain ⟨ga, oa, a, a1, _, a3, a4⟩ := hc1 i hi
    obtain ⟨gb, ob, b, b1, _, b3, b4⟩ := hc2 i hi
    rw [hq i a hi a3] at b3
    refine ⟨ga, oa, a, gb, ob, a1, a4, b1, ?_⟩
    rw [Option.some.inj b3]
    exact b4)
  obtain ⟨fx, hfx⟩ : ∃ fx : ByteArray, (⟨fix.toArray⟩ : ByteArray) = fx := ⟨_, rfl⟩
  have HFX := Lib.hid hfx
  clear h h1 h2 e1 e2 hq hc1 hc2
  by_cases hf : fix = []
  · subst hf
    clear hfx HFX
    have HC2 : Hid (∀ i, i < n → ∃ ga oa a gb ob, p1 = some ⟨ga, oa, none⟩ ∧ w.cell? ⟨ga, oa + i, none⟩ = some (.string a) ∧ p2 = some ⟨gb, ob, none⟩ ∧ w.cell? ⟨gb, ob + i, none⟩ = some (.string a)) := Lib.hid (fun i hi => by
      obtain ⟨ga, oa, a, gb, ob, a1, a2, b1, b2⟩ := HC.out i hi
      rw [if_neg (by simp)] at b2
      exact ⟨ga, oa, _, gb, ob, a1, a2, b1, b2⟩)
    clear HC
    go_enter Try.func53, Try.ntmps53
    go_wp2_with fail
    go_loop [7, 8] (fun iv _ => ∃ i : Nat, i ≤ n ∧ iv = .int .i64 i) (fun iv _ => n - (intOf iv).toNat)
    case atStart => exact ⟨0, Nat.zero_le _, rfl⟩
    case round =>
      obtain ⟨i, hi, rfl⟩ := hrel
      have i0 : (0 : Int) ≤ i := by omega
      by_cases hlt : i < n
      · have i1 : (i : Int) < n := by omega
        obtain ⟨ga, oa, a, gb, ob, rfl, a2, rfl, b2⟩ := HC2.out i hlt
        go_wp2
        exact ⟨⟨i + 1, by omega, by go_num⟩, by simp [intOf]; omega⟩
      · have i1 : ¬ (i : Int) < n := by omega
        have hin : i = n := by omega
        subst hin
        clear hlt
        go_wp2
        go_ret
        exact ⟨rfl, rfl⟩
  · have hfe : fx.toList.isEmpty = false := by
      rw [bytes_eq, ← hfx]
      cases fix with
      | nil => exact absurd rfl hf
      | cons a l => rfl
    have HC2 : Hid (∀ i, i < n → ∃ ga oa a gb ob, p1 = some ⟨ga, oa, none⟩ ∧ w.cell? ⟨ga, oa + i, none⟩ = some (.string a) ∧ p2 = some ⟨gb, ob, none⟩ ∧ w.cell? ⟨gb, ob + i, none⟩ = some (.string (if i = fa then fx else a))) := Lib.hid (fun i hi => by
      obtain ⟨ga, oa, a, gb, ob, a1, a2, b1, b2⟩ := HC.out i hi
      refine ⟨ga, oa, _, gb, ob, a1, a2, b1, ?_⟩
      rw [b2]
      by_cases e : i = fa
      · rw [if_pos ⟨hf, e⟩, if_pos e, HFX.out]
      · rw [if_neg (fun hh => e hh.2), if_neg e])
    rw [hfx] at c8
    clear HC hfx HFX hf
    go_enter Try.func53, Try.ntmps53
    go_wp2_with fail
    go_loop [7, 8] (fun iv _ => ∃ i : Nat, i ≤ n ∧ iv = .int .i64 i) (fun iv _ => n - (intOf iv).toNat)
    case atStart => exact ⟨0, Nat.zero_le _, rfl⟩
    case round =>
      obtain ⟨i, hi, rfl⟩ := hrel
      have i0 : (0 : Int) ≤ i := by omega
      by_cases hlt : i < n
      · have i1 : (i : Int) < n := by omega
        obtain ⟨ga, oa, a, gb, ob, rfl, a2, rfl, b2⟩ := HC2.out i hlt
        by_cases e : i = fa
        · rw [if_pos e] at b2
          have ee : ((i : Int) == fa) = true := by simp [e]
          clear e
          go_wp2
          exact ⟨⟨i + 1, by omega, by go_num⟩, by simp [intOf]; omega⟩
        · rw [if_neg e] at b2
          have ee : ((i : Int) == fa) = false := by rw [beq_eq_false_iff_ne]; omega
          clear e
          go_wp2
          exact ⟨⟨i + 1, by omega, by go_num⟩, by simp [intOf]; omega⟩
      · have i1 : ¬ (i : Int) < n := by omega
        have hin : i = n := by omega
        subst hin
        clear hlt
        go_wp2
        go_ret
        exact ⟨rfl, rfl⟩
end Go.Proofs.Ytjnggldalggfnaa
