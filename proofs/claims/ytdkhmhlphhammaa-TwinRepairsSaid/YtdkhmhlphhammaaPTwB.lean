/-
  Plain: what a Write leaves behind a crash, and what is repaired of it. No program in sight.
-/
import Derived.Test.YtdkhmhlphhammaaPTwin
namespace PTwin
open PDsk
/-! ### sectors -/
def sec (S : List (List UInt8)) (i : Nat) : List UInt8 := S.getD i []
def put (S : List (List UInt8)) (ws : List (Nat × List UInt8)) : List (List UInt8) := ws.foldl keep S
theorem put_nil (S : List (List UInt8)) : put S [] = S := rfl
theorem put_cons (S : List (List UInt8)) (p : Nat × List UInt8) (ws : List (Nat × List UInt8)) : put S (p :: ws) = put (keep S p) ws := rfl
theorem put_append (S : List (List UInt8)) (ws vs : List (Nat × List UInt8)) : put S (ws ++ vs) = put (put S ws) vs := by unfold put; rw [List.foldl_append]
theorem put_length (ws : List (Nat × List UInt8)) (S : List (List UInt8)) : (put S ws).length = S.length := fold_length ws S
theorem sec_keep_ne {S : List (List UInt8)} {p : Nat × List UInt8} {i : Nat} (h : p.1 ≠ i) : sec (keep S p) i = sec S i := by
  unfold sec keep
  rw [List.getD_eq_getElem?_getD, List.getElem?_set_ne h, List.getD_eq_getElem?_getD]
theorem sec_keep_eq {S : List (List UInt8)} {p : Nat × List UInt8} (h : p.1 < S.length) : sec (keep S p) p.1 = p.2 := by
  unfold sec keep
  rw [List.getD_eq_getElem?_getD, List.getElem?_set_self h]; rfl
theorem put_miss {ws : List (Nat × List UInt8)} {i : Nat} : ∀ {S : List (List UInt8)}, (∀ p ∈ ws, p.1 ≠ i) → sec (put S ws) i = sec S i := by
  induction ws with
  | nil => intro S _; rfl
  | cons p ws ih =>
    intro S h
    rw [put_cons, ih (fun q hq => h q (by simp [hq])), sec_keep_ne (h p (by simp))]
theorem put_all {ws : List (Nat × List UInt8)} {i : Nat} {x : List UInt8} : ∀ {S : List (List UInt8)}, i < S.length → (∀ p ∈ ws, p.1 = i → p.2 = x) → ((∃ p ∈ ws, p.1 = i) ∨ sec S i = x) → sec (put S ws) i = x := by
  induction ws with
  | nil =>
    intro S _ _ h
    rcases h with ⟨p, hp, _⟩ | h
    · cases hp
    · exact h
  | cons p ws ih =>
    intro S hi hx h
    rw [put_cons]
    by_cases e : p.1 = i
    · refine ih (by rw [keep_length]; exact hi) (fun q hq => hx q (by simp [hq])) (.inr ?_)
      subst e
      rw [sec_keep_eq hi]
      exact hx p (by simp) rfl
    · refine ih (by rw [keep_length]; exact hi) (fun q hq => hx q (by simp [hq])) ?_
      rcases h with ⟨q, hq, hqi⟩ | h
      · rcases List.mem_cons.1 hq with rfl | hq
        · exact absurd hqi e
        · exact .inl ⟨q, hq, hqi⟩
      · exact .inr (by rw [sec_keep_ne e]; exact h)
/-! ### the calls, segment by segment -/
def wrs (ws : List (Nat × List UInt8)) : List Cal := ws.map fun p => Cal.wr p.1 p.2
def hw (base : Nat) (l : List Hm) : List (Nat × List UInt8) := l.flatMap fun h => (List.range 4).map fun k => (base + h.page * 4 + k, piece h.bytes k)
theorem homes_wrs (base : Nat) (l : List Hm) : homes base l = wrs (hw base l) ++ [.sy] := by
  unfold homes wrs hw homeC
  congr 1
  induction l with
  | nil => rfl
  | cons h l ih => rw [List.flatMap_cons, List.flatMap_cons, List.map_append, ih, List.map_map]; rfl
theorem burn_le {f M : Int} (h : f ≤ M) : burn f ≤ M := by unfold burn; split <;> omega
theorem burn_ge {f : Int} (h : -1 ≤ f) : -1 ≤ burn f := by unfold burn; split <;> omega
theorem burn_neg {f : Int} (h : f = -1) : burn f = -1 := by subst h; rfl
theorem seg_aux (rest : List Cal) (S : List (List UInt8)) : ∀ (ws pre : List (Nat × List UInt8)) (f : Int), -1 ≤ f → (∀ p ∈ ws, p.1 < S.length ∧ p.2.length = 128) →
    (∃ j, j ≤ ws.length ∧ f ≠ -1 ∧ steps ⟨S, pre, f⟩ (wrs ws ++ .sy :: rest) = (⟨S, pre ++ ws.take j, 0⟩, 40)) ∨
    (∃ f', steps ⟨S, pre, f⟩ (wrs ws ++ .sy :: rest) = steps ⟨put S (pre ++ ws), [], f'⟩ rest ∧ -1 ≤ f' ∧ (f = -1 → f' = -1) ∧ f' ≤ f)
  | [], pre, f, hf, _ => by
    by_cases h0 : f = 0
    · left
      refine ⟨0, Nat.le_refl _, by omega, ?_⟩
      subst h0
      simp [wrs, steps, one, sync]
    · right
      refine ⟨burn f, ?_, burn_ge hf, burn_neg, by unfold burn; split <;> omega⟩
      have hone : one ⟨S, pre, f⟩ .sy = (⟨put S pre, [], burn f⟩, 0) := by
        show sync ⟨S, pre, f⟩ = _
        unfold sync
        rw [if_neg h0]; rfl
      show steps ⟨S, pre, f⟩ (.sy :: rest) = _
      rw [List.append_nil]
      simp only [steps, hone, if_true]
  | p :: ws, pre, f, hf, hw => by
    obtain ⟨hp1, hp2⟩ := hw p (by simp)
    by_cases h0 : f = 0
    · left
      refine ⟨0, Nat.zero_le _, by omega, ?_⟩
      subst h0
      simp [wrs, steps, one, write]
    · have hone : one ⟨S, pre, f⟩ (.wr p.1 p.2) = (⟨S, pre ++ [p], burn f⟩, 0) := by
        show write ⟨S, pre, f⟩ p.1 p.2 = _
        unfold write
        rw [if_neg h0, if_neg (by simp; omega)]
        simp
      have hst : steps ⟨S, pre, f⟩ (wrs (p :: ws) ++ .sy :: rest) = steps ⟨S, pre ++ [p], burn f⟩ (wrs ws ++ .sy :: rest) := by
        show steps ⟨S, pre, f⟩ (.wr p.1 p.2 :: (wrs ws ++ .sy :: rest)) = _
        rw [steps, hone]; rfl
      rw [hst]
      have hbl : burn f ≤ f := by unfold burn; split <;> omega
      rcases seg_aux rest S ws (pre ++ [p]) (burn f) (burn_ge hf) (fun q hq => hw q (by simp [hq])) with ⟨j, hj, h1, h2⟩ | ⟨f', h1, h2, h3, h4⟩
      · left
        exact ⟨j + 1, by simp; omega, fun e => h1 (burn_neg e), by rw [h2]; simp⟩
      · right
        exact ⟨f', by rw [h1]; simp, h2, fun e => h3 (burn_neg e), by omega⟩
theorem seg (rest : List Cal) (S : List (List UInt8)) (ws : List (Nat × List UInt8)) (f : Int) (hf : -1 ≤ f) (hw : ∀ p ∈ ws, p.1 < S.length ∧ p.2.length = 128) :
    (∃ j, j ≤ ws.length ∧ f ≠ -1 ∧ steps ⟨S, [], f⟩ (wrs ws ++ .sy :: rest) = (⟨S, ws.take j, 0⟩, 40)) ∨
    (∃ f', steps ⟨S, [], f⟩ (wrs ws ++ .sy :: rest) = steps ⟨put S ws, [], f'⟩ rest ∧ -1 ≤ f' ∧ (f = -1 → f' = -1) ∧ f' ≤ f) := by
  have := seg_aux rest S ws [] f hf hw
  simpa using this
/-! ### what is asked -/
theorem fit_apart {n a base : Nat} : ∀ (l : List Hm) (seen : List Nat), fit n a base seen l = true → ∀ h ∈ l, ∀ h' ∈ l, h.page = h'.page → h = h'
  | [], _, _, h, hm, _, _, _ => by cases hm
  | y :: l, seen, hf, h, hm, h', hm', e => by
    have hf' := hf
    unfold fit at hf
    split at hf
    · cases hf
    · rcases List.mem_cons.1 hm with h1 | h1 <;> rcases List.mem_cons.1 hm' with h2 | h2
      · rw [h1, h2]
      · have := (fit_bytes l _ hf h' h2).2.2
        rw [← e, h1] at this
        simp at this
      · have := (fit_bytes l _ hf h h1).2.2
        rw [e, h2] at this
        simp at this
      · exact fit_apart l _ hf h h1 h' h2 e
structure Good (n a base : Nat) (b : List Hm) : Prop where
  len : 1 ≤ b.length ∧ b.length ≤ 8
  bytes : ∀ h ∈ b, h.bytes.length = 512
  page : ∀ h ∈ b, h.page < 4294967296
  home : ∀ h ∈ b, base + h.page * 4 + 4 ≤ n ∧ (a + 33 ≤ base + h.page * 4 ∨ base + h.page * 4 + 4 ≤ a)
  apart : ∀ h ∈ b, ∀ h' ∈ b, h.page = h'.page → h = h'
  area : a + 33 ≤ n
  base : base ≤ n
theorem good_of {n a base : Nat} {b : List Hm} (h : may n a base b = true) (hp : ∀ x ∈ b, x.page < 4294967296) (ha : a + 33 ≤ n) (hb : base ≤ n) : Good n a base b := by
  unfold may at h
  simp only [Bool.and_eq_true, decide_eq_true_eq] at h
  obtain ⟨h1, h2, h3⟩ := h
  refine ⟨⟨h2, h3⟩, fun x hx => (fit_bytes b [] h1 x hx).1, hp, fun x hx => ?_, fit_apart b [] h1, ha, hb⟩
  have := (fit_bytes b [] h1 x hx).2.1
  unfold inside at this
  simp only [Bool.and_eq_true, Bool.or_eq_true, decide_eq_true_eq] at this
  exact this
theorem hw_mem {base : Nat} {l : List Hm} {q : Nat × List UInt8} (h : q ∈ hw base l) : ∃ x ∈ l, ∃ k, k < 4 ∧ q = (base + x.page * 4 + k, piece x.bytes k) := by
  unfold hw at h
  obtain ⟨x, hx, hq⟩ := List.mem_flatMap.1 h
  obtain ⟨k, hk, rfl⟩ := List.mem_map.1 hq
  exact ⟨x, hx, k, List.mem_range.1 hk, rfl⟩
theorem mem_hw {base : Nat} {l : List Hm} {x : Hm} (hx : x ∈ l) {k : Nat} (hk : k < 4) : (base + x.page * 4 + k, piece x.bytes k) ∈ hw base l := by
  unfold hw
  exact List.mem_flatMap.2 ⟨x, hx, List.mem_map.2 ⟨k, List.mem_range.2 hk, rfl⟩⟩
theorem put_hw {S : List (List UInt8)} {base : Nat} {l : List Hm} (hap : ∀ h ∈ l, ∀ h' ∈ l, h.page = h'.page → h = h') {x : Hm} (hx : x ∈ l) {k : Nat} (hk : k < 4) (hlt : base + x.page * 4 + k < S.length) : sec (put S (hw base l)) (base + x.page * 4 + k) = piece x.bytes k := by
  refine put_all hlt (fun p hp e => ?_) (.inl ⟨_, mem_hw hx hk, rfl⟩)
  obtain ⟨y, hy, k', hk', rfl⟩ := hw_mem hp
  have e' : base + y.page * 4 + k' = base + x.page * 4 + k := e
  have e1 : y.page = x.page := by omega
  have e2 : k' = k := by omega
  rw [hap y hy x hx e1, e2]
section
variable {n a base : Nat} {b : List Hm}
theorem area_mem (l : List Hm) : ∀ i, ∀ x ∈ PTwin.area i l, ∃ j, ∃ h : j < l.length, x = ⟨i + j, l[j].bytes⟩ := by
  induction l with
  | nil => intro i x hx; cases hx
  | cons y l ih =>
    intro i x hx
    rw [PTwin.area] at hx
    rcases List.mem_cons.1 hx with rfl | hx
    · exact ⟨0, by simp, by simp⟩
    · obtain ⟨j, hj, rfl⟩ := ih _ x hx
      exact ⟨j + 1, by simp; omega, by simp; omega⟩
theorem mem_area (l : List Hm) : ∀ i j, ∀ h : j < l.length, (⟨i + j, l[j].bytes⟩ : Hm) ∈ PTwin.area i l := by
  induction l with
  | nil => intro i j h; simp at h
  | cons y l ih =>
    intro i j h
    rw [PTwin.area]
    cases j with
    | zero => simp
    | succ j =>
      have := ih (i + 1) j (by simpa using h)
      rw [show i + 1 + j = i + (j + 1) by omega] at this
      exact List.mem_cons_of_mem _ (by simpa using this)
theorem area_apart (l : List Hm) (i : Nat) : ∀ h ∈ PTwin.area i l, ∀ h' ∈ PTwin.area i l, h.page = h'.page → h = h' := by
  intro x hx y hy e
  obtain ⟨j, hj, rfl⟩ := area_mem l i x hx
  obtain ⟨k, hk, rfl⟩ := area_mem l i y hy
  have e' : i + j = i + k := e
  have : j = k := by omega
  subst this
  rfl
/-- sectors that the writes of a list may touch -/
def InArea (a i : Nat) : Prop := a ≤ i ∧ i < a + 33
def InHomes (base : Nat) (b : List Hm) (i : Nat) : Prop := ∃ h ∈ b, base + h.page * 4 ≤ i ∧ i < base + h.page * 4 + 4
theorem hw_homes {q : Nat × List UInt8} (h : q ∈ hw base b) : InHomes base b q.1 := by
  obtain ⟨x, hx, k, hk, rfl⟩ := hw_mem h
  exact ⟨x, hx, by simp, by simp; omega⟩
theorem hw_area (g : Good n a base b) {q : Nat × List UInt8} (h : q ∈ hw (a + 1) (PTwin.area 0 b)) : a < q.1 ∧ q.1 < a + 33 := by
  obtain ⟨x, hx, k, hk, rfl⟩ := hw_mem h
  have := (area_pages b 0 x hx).2
  have := g.len.2
  exact ⟨by simp; omega, by simp; omega⟩
theorem Good.off (g : Good n a base b) {i : Nat} (h : InHomes base b i) : ¬ InArea a i ∧ i < n := by
  obtain ⟨x, hx, h1, h2⟩ := h
  have := g.home x hx
  exact ⟨fun hh => by unfold InArea at hh; omega, by omega⟩
theorem hw_ok (g : Good n a base b) : ∀ p ∈ hw base b, p.1 < n ∧ p.2.length = 128 := by
  intro p hp
  obtain ⟨x, hx, k, hk, rfl⟩ := hw_mem hp
  have := g.home x hx
  exact ⟨by simp; omega, piece_length (g.bytes x hx) hk⟩
theorem hwa_ok (g : Good n a base b) : ∀ p ∈ hw (a + 1) (PTwin.area 0 b), p.1 < n ∧ p.2.length = 128 := by
  intro p hp
  have h1 := hw_area g hp
  obtain ⟨x, hx, k, hk, rfl⟩ := hw_mem hp
  have := g.area
  exact ⟨by omega, piece_length (area_bytes b 512 g.bytes 0 x hx) hk⟩
/-! ### what sectors may be -/
structure Kept (n a base : Nat) (b : List Hm) (S0 S : List (List UInt8)) : Prop where
  len : S.length = n
  sz : ∀ x ∈ S, x.length = 128
  else_ : ∀ i, ¬ InArea a i → ¬ InHomes base b i → sec S i = sec S0 i
structure Old (n a base : Nat) (b : List Hm) (S0 S : List (List UInt8)) : Prop where
  kept : Kept n a base b S0 S
  mark : sec S a = clear
  home : ∀ h ∈ b, ∀ k, k < 4 → sec S (base + h.page * 4 + k) = sec S0 (base + h.page * 4 + k)
structure Redo (n a base : Nat) (b : List Hm) (S0 S : List (List UInt8)) : Prop where
  kept : Kept n a base b S0 S
  mark : sec S a = PTwin.mark (b.map (·.page))
  area : ∀ i (h : i < b.length) k, k < 4 → sec S (a + 1 + i * 4 + k) = piece b[i].bytes k
structure New (n a base : Nat) (b : List Hm) (S0 S : List (List UInt8)) : Prop where
  kept : Kept n a base b S0 S
  mark : sec S a = clear
  home : ∀ h ∈ b, ∀ k, k < 4 → sec S (base + h.page * 4 + k) = piece h.bytes k
theorem Kept.put {S0 S : List (List UInt8)} (h : Kept n a base b S0 S) {ws : List (Nat × List UInt8)} (h1 : ∀ p ∈ ws, InArea a p.1 ∨ InHomes base b p.1) (h2 : ∀ p ∈ ws, p.2.length = 128) : Kept n a base b S0 (PTwin.put S ws) := by
  refine ⟨by rw [put_length]; exact h.len, fold_128 ws S h.sz h2, fun i hi hj => ?_⟩
  rw [put_miss (fun p hp e => ?_)]
  · exact h.else_ i hi hj
  · rcases h1 p hp with h3 | h3
    · exact hi (e ▸ h3)
    · exact hj (e ▸ h3)
theorem kept_sub {l : List (Nat × List UInt8)} {ks : List Bool} : ∀ p ∈ PDsk.kept l ks, p ∈ l := fun _ h => kept_mem h
theorem Old.area_put (g : Good n a base b) {S0 S : List (List UInt8)} (h : Old n a base b S0 S) {ws : List (Nat × List UInt8)} (hs : ∀ p ∈ ws, p ∈ hw (a + 1) (PTwin.area 0 b)) : Old n a base b S0 (PTwin.put S ws) := by
  have ha := fun p hp => hw_area g (hs p hp)
  refine ⟨h.kept.put (fun p hp => .inl ⟨by have := ha p hp; omega, (ha p hp).2⟩) (fun p hp => (hwa_ok g p (hs p hp)).2), ?_, fun x hx k hk => ?_⟩
  · rw [put_miss (fun p hp e => by have := ha p hp; omega)]; exact h.mark
  · rw [put_miss (fun p hp e => ?_)]
    · exact h.home x hx k hk
    · have h1 := ha p hp
      have h2 := g.home x hx
      omega
theorem Redo.home_put (g : Good n a base b) {S0 S : List (List UInt8)} (h : Redo n a base b S0 S) {ws : List (Nat × List UInt8)} (hs : ∀ p ∈ ws, p ∈ hw base b) : Redo n a base b S0 (PTwin.put S ws) := by
  have ha := fun p hp => hw_homes (hs p hp)
  have hb := fun p hp => (g.off (ha p hp)).1
  refine ⟨h.kept.put (fun p hp => .inr (ha p hp)) (fun p hp => (hw_ok g p (hs p hp)).2), ?_, fun i hi k hk => ?_⟩
  · rw [put_miss (fun p hp e => hb p hp ⟨by omega, by omega⟩)]; exact h.mark
  · rw [put_miss (fun p hp e => hb p hp ⟨by omega, by have := g.len.2; omega⟩)]; exact h.area i hi k hk
/-- the area is whole, the mark is not set -/
theorem area_whole (g : Good n a base b) {S : List (List UInt8)} (hl : S.length = n) : ∀ i (h : i < b.length) k, k < 4 → sec (PTwin.put S (hw (a + 1) (PTwin.area 0 b))) (a + 1 + i * 4 + k) = piece b[i].bytes k := by
  intro i hi k hk
  have hm := mem_area b 0 i hi
  rw [Nat.zero_add] at hm
  exact put_hw (area_apart b 0) hm hk (by have := g.area; have := g.len.2; show a + 1 + i * 4 + k < _; omega)
theorem Old.set_mark (g : Good n a base b) {S0 S : List (List UInt8)} (h : Old n a base b S0 S) (hw : ∀ i (h : i < b.length) k, k < 4 → sec S (a + 1 + i * 4 + k) = piece b[i].bytes k) : Redo n a base b S0 (PTwin.put S [(a, PTwin.mark (b.map (·.page)))]) := by
  refine ⟨h.kept.put (fun p hp => ?_) (fun p hp => ?_), ?_, fun i hi k hk => ?_⟩
  · rw [List.mem_singleton.1 hp]; exact .inl ⟨Nat.le_refl _, by show a < a + 33; omega⟩
  · rw [List.mem_singleton.1 hp]; exact mark_length (by simpa using g.len.2)
  · exact sec_keep_eq (S := S) (p := (a, PTwin.mark (b.map (·.page)))) (by have := h.kept.len; have := g.area; show a < S.length; omega)
  · rw [put_miss (fun p hp e => by rw [List.mem_singleton.1 hp] at e; have e' : a = a + 1 + i * 4 + k := e; omega)]; exact hw i hi k hk
theorem home_whole (g : Good n a base b) {S : List (List UInt8)} (hl : S.length = n) : ∀ h ∈ b, ∀ k, k < 4 → sec (PTwin.put S (hw base b)) (base + h.page * 4 + k) = piece h.bytes k :=
  fun x hx k hk => put_hw g.apart hx hk (by have := g.home x hx; omega)
theorem Redo.clear_mark (g : Good n a base b) {S0 S : List (List UInt8)} (h : Redo n a base b S0 S) (hh : ∀ h ∈ b, ∀ k, k < 4 → sec S (base + h.page * 4 + k) = piece h.bytes k) : New n a base b S0 (PTwin.put S [(a, PTwin.clear)]) := by
  refine ⟨h.kept.put (fun p hp => ?_) (fun p hp => ?_), ?_, fun x hx k hk => ?_⟩
  · rw [List.mem_singleton.1 hp]; exact .inl ⟨Nat.le_refl _, by show a < a + 33; omega⟩
  · rw [List.mem_singleton.1 hp]; exact List.length_replicate
  · exact sec_keep_eq (S := S) (p := (a, PTwin.clear)) (by have := h.kept.len; have := g.area; show a < S.length; omega)
  · rw [put_miss (fun p hp e => by
      rw [List.mem_singleton.1 hp] at e
      have e' : a = base + x.page * 4 + k := e
      have := g.home x hx
      omega)]
    exact hh x hx k hk
theorem Old.refl {S0 : List (List UInt8)} (hl : S0.length = n) (hs : ∀ x ∈ S0, x.length = 128) (hm : sec S0 a = clear) : Old n a base b S0 S0 := ⟨⟨hl, hs, fun _ _ _ => rfl⟩, hm, fun _ _ _ _ => rfl⟩
/-- one of the three -/
def Any (n a base : Nat) (b : List Hm) (S0 S : List (List UInt8)) : Prop := Old n a base b S0 S ∨ Redo n a base b S0 S ∨ New n a base b S0 S
theorem kept_one (p : Nat × List UInt8) (j : Nat) (ks : List Bool) : PDsk.kept ([p].take j) ks = [] ∨ PDsk.kept ([p].take j) ks = [p] := by
  unfold PDsk.kept
  cases j with
  | zero => left; simp
  | succ j =>
    cases ks with
    | nil => left; simp
    | cons k ks => cases k <;> simp
theorem crash_eq (S : List (List UInt8)) (L : List (Nat × List UInt8)) (f : Int) (ks : List Bool) : crash ⟨S, L, f⟩ ks = ⟨put S (PDsk.kept L ks), [], -1⟩ := rfl
theorem crash_nil (S : List (List UInt8)) (f : Int) (ks : List Bool) : crash ⟨S, [], f⟩ ks = ⟨S, [], -1⟩ := by
  rw [crash_eq]
  have : PDsk.kept [] ks = [] := by simp [PDsk.kept]
  rw [this]; rfl
/-- how homes and the mark's end leave what was to be done again -/
theorem tail_cases (g : Good n a base b) {S0 S : List (List UInt8)} (h : Redo n a base b S0 S) (f : Int) (hf : -1 ≤ f) :
    ((steps ⟨S, [], f⟩ (homes base b ++ marks a clear)).2 = 40 ∧ f ≠ -1 ∧ ∀ ks, ∃ S', crash (steps ⟨S, [], f⟩ (homes base b ++ marks a clear)).1 ks = ⟨S', [], -1⟩ ∧ (Redo n a base b S0 S' ∨ New n a base b S0 S')) ∨
    (∃ S' f', steps ⟨S, [], f⟩ (homes base b ++ marks a clear) = (⟨S', [], f'⟩, 0) ∧ New n a base b S0 S' ∧ -1 ≤ f' ∧ (f = -1 → f' = -1) ∧ f' ≤ f) := by
  have e : homes base b ++ marks a clear = wrs (hw base b) ++ .sy :: (wrs [(a, clear)] ++ .sy :: []) := by rw [homes_wrs]; simp [marks, wrs]
  have hl := h.kept.len
  rw [e]
  rcases seg (wrs [(a, clear)] ++ .sy :: []) S (hw base b) f hf (fun p hp => by rw [hl]; exact hw_ok g p hp) with ⟨j, hj, h1, h2⟩ | ⟨f1, h1, h2, h3, h4⟩
  · left
    rw [h2]
    refine ⟨rfl, h1, fun ks => ⟨_, crash_eq _ _ _ _, .inl (h.home_put g (fun p hp => List.mem_of_mem_take (kept_mem hp)))⟩⟩
  · have hr := h.home_put g (ws := hw base b) (fun p hp => hp)
    have hh := home_whole g hl
    rw [h1]
    rcases seg [] (put S (hw base b)) [(a, clear)] f1 h2 (fun p hp => by
      rw [List.mem_singleton.1 hp, put_length]
      exact ⟨by have := g.area; show a < S.length; omega, List.length_replicate⟩) with ⟨j, hj, k1, k2⟩ | ⟨f2, k1, k2, k3, k4⟩
    · left
      rw [k2]
      refine ⟨rfl, fun e => k1 (h3 e), fun ks => ⟨_, crash_eq _ _ _ _, ?_⟩⟩
      rcases kept_one (a, clear) j ks with e | e
      · rw [e]; exact .inl hr
      · rw [e]; exact .inr (hr.clear_mark g hh)
    · right
      rw [k1]
      exact ⟨_, f2, rfl, hr.clear_mark g hh, k2, fun e => k3 (h3 e), by omega⟩
/-- a Write, done or not, and a crash -/
theorem write_cases (g : Good n a base b) {S0 : List (List UInt8)} (h : Old n a base b S0 S0) (f : Int) (hf : -1 ≤ f) :
    ((steps ⟨S0, [], f⟩ (writeC a base b)).2 = 40 ∧ f ≠ -1 ∧ ∀ ks, ∃ S', crash (steps ⟨S0, [], f⟩ (writeC a base b)).1 ks = ⟨S', [], -1⟩ ∧ Any n a base b S0 S') ∨
    (∃ S' f', steps ⟨S0, [], f⟩ (writeC a base b) = (⟨S', [], f'⟩, 0) ∧ New n a base b S0 S' ∧ -1 ≤ f' ∧ (f = -1 → f' = -1) ∧ f' ≤ f) := by
  have e : writeC a base b = wrs (hw (a + 1) (PTwin.area 0 b)) ++ .sy :: (wrs [(a, PTwin.mark (b.map (·.page)))] ++ .sy :: (homes base b ++ marks a clear)) := by
    unfold writeC
    rw [homes_wrs (a + 1)]
    simp [marks, wrs]
  have hl := h.kept.len
  rw [e]
  rcases seg (wrs [(a, PTwin.mark (b.map (·.page)))] ++ .sy :: (homes base b ++ marks a clear)) S0 (hw (a + 1) (PTwin.area 0 b)) f hf (fun p hp => by rw [hl]; exact hwa_ok g p hp) with ⟨j, hj, h1, h2⟩ | ⟨f1, h1, h2, h3, h4⟩
  · left
    rw [h2]
    exact ⟨rfl, h1, fun ks => ⟨_, crash_eq _ _ _ _, .inl (h.area_put g (fun p hp => List.mem_of_mem_take (kept_mem hp)))⟩⟩
  · have ho := h.area_put g (ws := hw (a + 1) (PTwin.area 0 b)) (fun p hp => hp)
    have hw' := area_whole g hl
    have hr := ho.set_mark g hw'
    rw [h1]
    rcases seg (homes base b ++ marks a clear) (put S0 (hw (a + 1) (PTwin.area 0 b))) [(a, PTwin.mark (b.map (·.page)))] f1 h2 (fun p hp => by
      rw [List.mem_singleton.1 hp, put_length]
      exact ⟨by have := g.area; show a < S0.length; omega, mark_length (by simpa using g.len.2)⟩) with ⟨j, hj, k1, k2⟩ | ⟨f2, k1, k2, k3, k4⟩
    · left
      rw [k2]
      refine ⟨rfl, fun e => k1 (h3 e), fun ks => ⟨_, crash_eq _ _ _ _, ?_⟩⟩
      rcases kept_one (a, PTwin.mark (b.map (·.page))) j ks with e | e
      · rw [e]; exact .inl ho
      · rw [e]; exact .inr (.inl hr)
    · rw [k1]
      rcases tail_cases g hr f2 k2 with ⟨t1, t2, t3⟩ | ⟨S', f3, t1, t2, t3, t4, t5⟩
      · left
        refine ⟨t1, fun e => t2 (k3 (h3 e)), fun ks => ?_⟩
        obtain ⟨S', s1, s2⟩ := t3 ks
        exact ⟨S', s1, .inr s2⟩
      · right
        exact ⟨S', f3, t1, t2, t3, fun e => t4 (k3 (h3 e)), by omega⟩
end
end PTwin
