/-
  Log: what begins where, Read.
-/
import Derived.Test.YtjnggldalggfnaaLog5
namespace Go.Proofs.Ytjnggldalggfnaa
open Go.RowKit
/-- a piece of a slice of one-cell elements -/
theorem Sl.sub {w : World} {base : Nat} {e : TypeId} {n g off c : Nat} {xs : List Value} (h : Sl w base e 1 (.slice (some ⟨g, off, none⟩) n c) n xs) {lo hi : Nat} (h1 : lo ≤ hi) (h2 : hi ≤ n) :
    Sl w base e 1 (.slice (some ⟨g, off + lo, none⟩) (hi - lo) (c - lo)) (hi - lo) ((xs.take hi).drop lo) := by
  obtain ⟨hl, hh⟩ := h
  rcases hh with ⟨e, _⟩ | ⟨g', off', cap, cur, fz, e, hb, hgg, hf, hnc, hcm, hcs, htake⟩
  · cases e
  · simp at e
    obtain ⟨⟨rfl, rfl⟩, rfl⟩ := e
    refine ⟨by rw [List.length_drop, List.length_take]; omega, .inr ⟨g, off + lo, c - lo, cur, fz, rfl, hb, hgg, hf, by omega, by unfold maxLen at hcm ⊢; omega, by omega, ?_⟩⟩
    rw [← htake, List.take_take, List.drop_take, List.drop_drop]
    congr 1
    omega
theorem Sl.some_of {w : World} {base : Nat} {e : TypeId} {size n : Nat} {v : Value} {xs : List Value} (h : Sl w base e size v n xs) (hn : 0 < n) : ∃ g off c, v = .slice (some ⟨g, off, none⟩) n c ∧ n ≤ c ∧ c ≤ maxLen ∧ g < w.heap.size := by
  rcases h.2 with ⟨_, h0⟩ | ⟨g, off, cap, cur, fz, rfl, hb, hgg, hf, hnc, hcm, hcs, htake⟩
  · omega
  · exact ⟨g, off, cap, rfl, hnc, hcm, (Array.getElem?_eq_some_iff.1 hgg).1⟩
theorem Sl.conv {w : World} {base : Nat} {v : Value} {n : Nat} {l : List UInt8} (h : Sl w base 5 1 v n (bytesV l)) : (convert 43 9 v).run Try.prog w = .ok (.string ⟨l.toArray⟩) w := conv_sl h
theorem IsLog.starts_rd {w : World} {g b : Nat} {L : PLog.Lg} {own : List Nat} (h : IsLog w g L b own) : ∃ vs, w.cell? ⟨g, 5, none⟩ = some vs ∧ Rd w vs (u64V L.starts) := by
  obtain ⟨_, vb, vs, hb, hs, hl, _⟩ := h
  exact ⟨vs, by simp [World.cell?, hb, logV], Rd.of_sl hl⟩
theorem Lg_starts_len {L : PLog.Lg} (h : L.Ok) : L.starts.length ≤ 1000000 := by
  have h1 := PLog.endOf_le L.texts L.first
  have h2 := h.ring
  have h3 := h.n5
  have h4 := PLog.begin_le L.first
  have h5 : L.next = PLog.endOf L.first L.texts := rfl
  have h6 : L.starts.length = L.texts.length := PLog.startsOf_length _ _
  omega
theorem bsearch_log {w : World} {g b : Nat} {L : PLog.Lg} {own : List Nat} (h : IsLog w g L b own) (x : Nat) : ∃ vs, w.cell? ⟨g, 5, none⟩ = some vs ∧
    Calls Try.prog 31 #[vs, .int .u64 x] w fun e w' => e = .returned (.tuple #[.int .i64 (PLog.rank L.starts x : Nat), .bool (PLog.isAt L x)]) ∧ w = w' := by
  obtain ⟨vs, h1, h2⟩ := h.starts_rd
  exact ⟨vs, h1, bsearch_any w vs L.starts h2 (PLog.startsOf_sorted _ _) (Lg_starts_len h.1) x⟩
theorem begins_any {g b : Nat} {L : PLog.Lg} {own : List Nat} (w : World) (h : IsLog w g L b own) (x : Nat) :
    Calls Try.prog 39 #[.pointer (some ⟨g, 0, none⟩), .int .u64 x] w fun e w' => e = .returned (.bool (PLog.isAt L x || decide (x = L.next))) ∧ w = w' := by
  obtain ⟨_, _, _, _, _, c7, _⟩ := h.cells
  obtain ⟨vs, c5, hbs⟩ := bsearch_log h x
  have HB := Lib.hid hbs
  clear hbs h
  obtain ⟨R, hR⟩ : ∃ R, PLog.rank L.starts x = R := ⟨_, rfl⟩
  rw [hR] at HB
  clear hR
  obtain ⟨y, hy⟩ : ∃ y, L.next = y := ⟨_, rfl⟩
  rw [hy] at c7 ⊢
  by_cases hi : PLog.isAt L x = true
  · rw [hi] at HB ⊢
    clear hi hy
    go_enter Try.func39, Try.ntmps39
    go_wp2_with fail
    refine HB.out.mono ?_; rintro e w1 ⟨rfl, rfl⟩
    go_wp2
    go_ret
    exact ⟨rfl, rfl⟩
  · rw [Bool.not_eq_true] at hi
    rw [hi] at HB ⊢
    have hq : ((x : Int) == y) = decide (x = y) := by
      by_cases e : x = y
      · subst e; simp
      · rw [decide_eq_false e, beq_eq_false_iff_ne]; omega
    obtain ⟨q, hqq⟩ : ∃ q, decide (x = y) = q := ⟨_, rfl⟩
    rw [hqq] at hq ⊢
    clear hi hqq hy
    go_enter Try.func39, Try.ntmps39
    go_wp2_with fail
    refine HB.out.mono ?_; rintro e w1 ⟨rfl, rfl⟩
    go_wp2
    go_ret
    exact ⟨rfl, rfl⟩
/-! ### Read -/
theorem lread_nil (x : Int) (w : World) : Calls Try.prog 9 #[.pointer none, .int .u64 x] w fun e w' => e = .returned (.tuple #[.string ⟨#[]⟩, .int .u64 0, .int .i64 1]) ∧ w = w' := by
  go_enter Try.func9, Try.ntmps9
  go_wp2_with fail
  refine (made_nil _).mono ?_; rintro e w1 ⟨rfl, rfl⟩
  go_wp2
  go_ret3
  exact ⟨rfl, rfl⟩
def LReadPost (L : PLog.Lg) (x : Nat) (w : World) (e : Ending) (w' : World) : Prop := e = .returned (.tuple #[.string ⟨(PLog.read L x).1.toArray⟩, .int .u64 (PLog.read L x).2.1, .int .i64 (PLog.read L x).2.2]) ∧ w = w'
theorem lread_none {g b : Nat} {L : PLog.Lg} {own : List Nat} (w : World) (h : IsLog w g L b own) (x : Nat) (hx : PLog.isAt L x = false) :
    Calls Try.prog 9 #[.pointer (some ⟨g, 0, none⟩), .int .u64 x] w (LReadPost L x w) := by
  have HQ : Hid (PLog.read L x = ([], 0, 3)) := Lib.hid (by unfold PLog.read; rw [hx]; rfl)
  have H := Lib.hid h
  obtain ⟨vs, c5, hbs⟩ := bsearch_log h x
  rw [hx] at hbs
  have HB := Lib.hid hbs
  clear hbs h hx
  go_enter Try.func9, Try.ntmps9
  go_wp2_with fail
  refine (made_any _ H.out).mono ?_; rintro e w1 ⟨rfl, rfl⟩
  go_wp2_with fail
  refine HB.out.mono ?_; rintro e w1 ⟨rfl, rfl⟩
  go_wp2
  go_ret3
  unfold LReadPost
  rw [HQ.out]
  exact ⟨rfl, rfl⟩
set_option maxHeartbeats 1000000 in
set_option maxRecDepth 20000 in
theorem lread_at {g b : Nat} {L : PLog.Lg} {own : List Nat} (w : World) (h : IsLog w g L b own) (j : Nat) (hj : j < L.texts.length) :
    Calls Try.prog 9 #[.pointer (some ⟨g, 0, none⟩), .int .u64 (PLog.endOf L.first (L.texts.take j) : Nat)] w (LReadPost L (PLog.endOf L.first (L.texts.take j)) w) := by
  have HQ := Lib.hid (PLog.read_at (L := L) hj)
  have H := Lib.hid h
  obtain ⟨_, _, _, _, c6, c7, _, _⟩ := h.cells
  obtain ⟨vs, c5, hbs⟩ := bsearch_log h (PLog.endOf L.first (L.texts.take j))
  rw [(PLog.isAt_iff L _).2 ⟨j, hj, rfl⟩, show PLog.rank L.starts (PLog.endOf L.first (L.texts.take j)) = j from PLog.rank_starts L.texts L.first j (by omega)] at hbs
  have HB := Lib.hid hbs
  obtain ⟨hk, vb, vs', hb, hs, hl, _⟩ := h
  have e5 : vs' = vs := by
    have : w.cell? ⟨g, 5, none⟩ = some vs' := by simp [World.cell?, hb, logV]
    rw [this] at c5; simpa using c5
  subst e5
  have c4 : w.cell? ⟨g, 4, none⟩ = some vb := by simp [World.cell?, hb, logV]
  have hst : L.starts.length = L.texts.length := PLog.startsOf_length _ _
  have hbl := PLog.begin_le L.first
  have hln := hk.bytes_length
  have hnx := hk.next5
  have hsl := Lg_starts_len hk
  have hm : PLog.endOf L.first (L.texts.take j) + 15 ≤ PLog.endOf L.first (L.texts.take (j + 1)) := by
    rw [PLog.endOf_take_succ L.texts L.first j hj]
    have := (hk.texts _ (List.getElem_mem hj)).1
    omega
  have hlo := PLog.endOf_take_le L.texts L.first 0 j (Nat.zero_le _)
  have hhi := PLog.endOf_take_le L.texts L.first (j + 1) L.texts.length (by omega)
  rw [List.take_length] at hhi
  have hnn : L.next = PLog.endOf L.first L.texts := rfl
  have hl0 : PLog.endOf L.first (L.texts.take 0) = L.first := rfl
  have htx := hk.text_at hj
  obtain ⟨lo, hlo'⟩ : ∃ lo, PLog.endOf L.first (L.texts.take j) = lo := ⟨_, rfl⟩
  obtain ⟨hi, hhi'⟩ : ∃ hi, PLog.endOf L.first (L.texts.take (j + 1)) = hi := ⟨_, rfl⟩
  obtain ⟨t, ht⟩ : ∃ t, L.texts[j] = t := ⟨_, rfl⟩
  have HLAST : Hid (j + 1 = L.texts.length → hi = L.next) := Lib.hid (fun e => by rw [← hhi', e, List.take_length]; rfl)
  have HNXT : Hid (∀ (hj2 : j + 1 < L.texts.length), (u64V L.starts)[j + 1]? = some (.int .u64 (hi : Int))) := Lib.hid (fun hj2 => by
    unfold u64V
    rw [List.getElem?_map, hk.starts_at hj2, hhi']
    rfl)
  rw [hlo', hhi'] at hm htx
  rw [hlo'] at HQ HB hlo ⊢
  rw [hhi'] at HQ hhi
  rw [ht] at HQ htx
  rw [hl0] at hlo
  rw [← hnn] at hhi
  obtain ⟨Bg, hBg⟩ : ∃ Bg, PLog.begin L.first = Bg := ⟨_, rfl⟩
  have HBG : Hid (∀ W, Calls Try.prog 32 #[.int .u64 L.first] W fun e w' => e = .returned (.int .u64 (Bg : Nat)) ∧ W = w') := Lib.hid (fun W => by rw [← hBg]; exact begin_any L.first (by omega) W)
  rw [hBg] at hbl hln htx
  obtain ⟨gb, ob, cb, hvb, hcb, hcm, _⟩ := Sl.some_of hs (by omega)
  obtain ⟨gs, os, cs, hvs, hcs, hcsm, _⟩ := Sl.some_of hl (by rw [hst]; omega)
  subst hvb
  subst hvs
  obtain ⟨A, hA⟩ : ∃ A : Nat, A = lo - Bg + 14 := ⟨_, rfl⟩
  obtain ⟨Z, hZ⟩ : ∃ Z : Nat, Z = hi - Bg := ⟨_, rfl⟩
  have hsub := Sl.sub hs (lo := A) (hi := Z) (by omega) (by omega)
  have etx : ((bytesV L.bytes).take Z).drop A = bytesV t := by
    unfold bytesV
    rw [← List.map_take, ← List.map_drop, hZ, hA, htx]
  rw [etx] at hsub
  have hcv := Sl.conv hsub
  obtain ⟨Nb, hNb⟩ : ∃ Nb, L.bytes.length = Nb := ⟨_, rfl⟩
  obtain ⟨Ns, hNs⟩ : ∃ Ns, L.starts.length = Ns := ⟨_, rfl⟩
  rw [hNb] at hcb c4 hln
  rw [hNs] at hcs c5 HB hst hsl
  obtain ⟨ts, hts⟩ : ∃ ts : ByteArray, (⟨t.toArray⟩ : ByteArray) = ts := ⟨_, rfl⟩
  rw [hts] at hcv
  have HTS := Lib.hid hts
  obtain ⟨f, hf⟩ : ∃ f, L.first = f := ⟨_, rfl⟩
  obtain ⟨y, hy⟩ : ∃ y, L.next = y := ⟨_, rfl⟩
  rw [hf] at c6 HBG
  rw [hy] at c7 HLAST
  have w0 : IntKind.i64.wrap ((j : Int) + 1) = (j + 1 : Nat) := by rw [IntWalk.i64_in _ (by omega)]; omega
  have w1 : IntKind.u64.wrap ((lo : Int) - Bg) = (lo - Bg : Nat) := by rw [IntWalk.u64_in _ (by omega)]; omega
  have w2 : IntKind.u64.wrap (((lo - Bg : Nat) : Int) + 14) = A := by rw [IntWalk.u64_in _ (by omega)]; omega
  have w3 : IntKind.u64.wrap ((hi : Int) - Bg) = Z := by rw [IntWalk.u64_in _ (by omega)]; omega
  have z1 : (A : Int) ≤ Z := by omega
  have zc : ¬ cb = A := by omega
  have z2 : (Z : Int) ≤ cb := by omega
  have z3 : (0 : Int) ≤ A := by omega
  have z4 : (Z : Int) ≤ Nb := by omega
  by_cases hlast : j + 1 < L.texts.length
  · have c8 : w.cell? ⟨gs, os + (j + 1), none⟩ = some (.int .u64 (hi : Int)) := by
      have h8 := HNXT.out hlast
      obtain ⟨hh, he⟩ := List.getElem?_eq_some_iff.1 h8
      rw [hl.cell hh, he]
    have y1 : ((j + 1 : Nat) : Int) < Ns := by omega
    have y0 : (0 : Int) ≤ ((j + 1 : Nat) : Int) := by omega
    clear hk hb hs hl hst hbl hln hnx hm hlo hhi hnn hl0 htx hlo' hhi' ht hBg hA hZ hsub etx hNb hNs hts hf hy HLAST HNXT hlast hj hsl
    go_enter Try.func9, Try.ntmps9
    go_wp2_with fail
    refine (made_any _ H.out).mono ?_; rintro e w1 ⟨rfl, rfl⟩
    go_wp2_with fail
    refine HB.out.mono ?_; rintro e w1 ⟨rfl, rfl⟩
    go_wp2_with fail
    refine (HBG.out _).mono ?_; rintro e w1 ⟨rfl, rfl⟩
    go_wp2
    go_ret3
    unfold LReadPost
    rw [HQ.out]
    exact ⟨by rw [HTS.out]; rfl, rfl⟩
  · have e9 : hi = y := HLAST.out (by omega)
    subst e9
    have y1 : ¬ ((j + 1 : Nat) : Int) < Ns := by omega
    clear hk hb hs hl hst hbl hln hnx hm hlo hhi hnn hl0 htx hlo' hhi' ht hBg hA hZ hsub etx hNb hNs hts hf hy HLAST HNXT hlast hj hsl
    go_enter Try.func9, Try.ntmps9
    go_wp2_with fail
    refine (made_any _ H.out).mono ?_; rintro e w1 ⟨rfl, rfl⟩
    go_wp2_with fail
    refine HB.out.mono ?_; rintro e w1 ⟨rfl, rfl⟩
    go_wp2_with fail
    refine (HBG.out _).mono ?_; rintro e w1 ⟨rfl, rfl⟩
    go_wp2
    go_ret3
    unfold LReadPost
    rw [HQ.out]
    exact ⟨by rw [HTS.out]; rfl, rfl⟩
theorem lread_any {g b : Nat} {L : PLog.Lg} {own : List Nat} (w : World) (h : IsLog w g L b own) (x : Nat) :
    Calls Try.prog 9 #[.pointer (some ⟨g, 0, none⟩), .int .u64 x] w (LReadPost L x w) := by
  cases hx : PLog.isAt L x with
  | false => exact lread_none w h x hx
  | true =>
    obtain ⟨j, hj, rfl⟩ := (PLog.isAt_iff L x).1 hx
    exact lread_at w h j hj
end Go.Proofs.Ytjnggldalggfnaa
