/-
  Twin, the plain law: what Repair leaves is what the document's calls leave.
-/
import Derived.Test.YtdkhmhlphhammaaTwRk
import Derived.Test.YtdkhmhlphhammaaTwAp
namespace PTwin
open PDsk
theorem found_pages (S : List (List UInt8)) (f : Int) (a c : Nat) : (found ⟨S, [], f⟩ a c).map (·.page) = named (sec S a) c := by
  unfold found named
  rw [List.map_map]
  rfl
theorem found_page_lt (D : Dsk) (a c : Nat) : ∀ x ∈ found D a c, x.page < 4294967296 := by
  intro x hx
  unfold found at hx
  obtain ⟨i, _, rfl⟩ := List.mem_map.1 hx
  exact get_lt4 _ _
theorem two_segs {n a base : Nat} {b : List Hm} (g : Good n a base b) (S : List (List UInt8)) (hl : S.length = n) :
    steps ⟨S, [], -1⟩ (homes base b ++ marks a clear) = (⟨playsC S (homes base b ++ marks a clear), [], -1⟩, 0) := by
  have e : homes base b ++ marks a clear = wrs (hw base b) ++ .sy :: (wrs [(a, clear)] ++ .sy :: []) := by
    rw [homes_wrs, List.append_assoc]
    rfl
  rw [e]
  rcases seg (wrs [(a, clear)] ++ .sy :: []) S (hw base b) (-1) (by omega) (fun p hp => by rw [hl]; exact hw_ok g p hp) with ⟨_, _, h, _⟩ | ⟨f', h1, _, h2, _⟩
  · exact absurd rfl h
  · have hf := h2 rfl
    subst hf
    rw [h1]
    rcases seg [] (put S (hw base b)) [(a, clear)] (-1) (by omega) (fun p hp => by
      rw [List.mem_singleton.1 hp, put_length, hl]
      exact ⟨by have := g.area; show a < n; omega, List.length_replicate⟩) with ⟨_, _, h, _⟩ | ⟨f', h3, _, h4, _⟩
    · exact absurd rfl h
    · have hf := h4 rfl
      subst hf
      rw [h3, playsC_append, playsC_wrs]
      rfl
theorem rrep_ok (S : List (List UInt8)) (a base : Nat) (ha : a + 33 ≤ S.length) (hb : base ≤ S.length) : (∀ c ∈ (rrep S a base).1, atOf c < S.length) ∧ (rrep S a base).1.length ≤ 1000 := by
  unfold rrep
  split
  · exact ⟨fun c hc => absurd hc List.not_mem_nil, Nat.zero_le _⟩
  split
  · exact ⟨fun c hc => absurd hc List.not_mem_nil, Nat.zero_le _⟩
  · rename_i _ hm
    have hm : may S.length a base (found ⟨S, [], -1⟩ a (rread (sec S a)).1.length) = true := by simpa using hm
    have g := good_of hm (found_page_lt _ _ _) ha hb
    refine ⟨fun c hc => ?_, ?_⟩
    · rw [homes_wrs] at hc
      rcases List.mem_append.1 hc with hc | hc
      · rcases List.mem_append.1 hc with hc | hc
        · obtain ⟨p, hp, rfl⟩ := List.mem_map.1 hc
          have := (hw_ok g p hp).1
          show ((p.1 : Nat) : Int) < S.length
          omega
        · rw [List.mem_singleton.1 hc]
          show (-1 : Int) < S.length
          omega
      · unfold marks at hc
        rcases List.mem_cons.1 hc with rfl | hc
        · show ((a : Nat) : Int) < S.length
          omega
        · rw [List.mem_singleton.1 hc]
          show (-1 : Int) < S.length
          omega
    · rw [List.length_append, homes_length]
      have := g.len
      show 4 * _ + 1 + 2 ≤ 1000
      omega
theorem repair_rrep (S : List (List UInt8)) (a base : Nat) (ha : a + 33 ≤ S.length) (hb : base ≤ S.length) :
    repair ⟨S, [], -1⟩ a base = (⟨playsC S (rrep S a base).1, [], -1⟩, (rrep S a base).2.1, (rrep S a base).2.2) := by
  unfold repair
  rw [if_neg (by show ¬ (-1 : Int) = 0; omega), now_sure]
  by_cases h1 : sec S a = clear
  · have e : rread (sec S a) = ([], 0) := by unfold rread; rw [if_pos h1]
    have er : rrep S a base = ([], 0, 0) := by unfold rrep; rw [e]; rfl
    rw [if_pos h1, er]
    rfl
  rw [if_neg h1]
  by_cases h2 : count (sec S a) < 1 ∨ 8 < count (sec S a)
  · have e : rread (sec S a) = ([], 120) := by unfold rread; rw [if_neg h1, if_pos h2]
    have er : rrep S a base = ([], 0, 120) := by unfold rrep; rw [e]; rfl
    rw [if_pos h2, er]
    rfl
  rw [if_neg h2, found_pages]
  by_cases h3 : mark (named (sec S a) (count (sec S a))) = sec S a
  · have e : rread (sec S a) = (named (sec S a) (count (sec S a)), 0) := by unfold rread; rw [if_neg h1, if_neg h2, if_neg (by simp [h3])]
    have el : (rread (sec S a)).1.length = count (sec S a) := by rw [e]; exact named_length _ _
    by_cases h4 : may S.length a base (found ⟨S, [], -1⟩ a (count (sec S a))) = true
    · have g := good_of h4 (found_page_lt _ _ _) ha hb
      have er : rrep S a base = (homes base (found ⟨S, [], -1⟩ a (count (sec S a))) ++ marks a clear, count (sec S a), 0) := by
        unfold rrep
        rw [el, e, if_neg (by rintro (h | h); exact h rfl; omega), if_neg (by rw [h4]; decide)]
      rw [if_neg (by
        rintro (h | h | h)
        · exact h h3
        · have h' : S.length < base := h
          omega
        · rw [show (⟨S, [], -1⟩ : Dsk).sure.length = S.length from rfl, h4] at h
          cases h), two_segs g S rfl, er]
      rfl
    · have h4 : may S.length a base (found ⟨S, [], -1⟩ a (count (sec S a))) = false := by simpa using h4
      have er : rrep S a base = ([], 0, 120) := by
        unfold rrep
        rw [el, e, if_neg (by rintro (h | h); exact h rfl; omega), if_pos h4]
      rw [if_pos (.inr (.inr h4)), er]
      rfl
  · have e : rread (sec S a) = ([], 120) := by unfold rread; rw [if_neg h1, if_neg h2, if_pos h3]
    have er : rrep S a base = ([], 0, 120) := by unfold rrep; rw [e]; rfl
    rw [if_pos (.inl h3), er]
    rfl
theorem rows_sec (S : List (List UInt8)) (f : Int) : (List.range S.length).map (now ⟨S, [], f⟩) = S := by
  apply List.ext_getElem
  · simp
  · intro i h1 h2
    rw [List.getElem_map, List.getElem_range, now_sure]
    unfold sec
    rw [List.getD_eq_getElem?_getD, List.getElem?_eq_getElem h2]
    rfl
/-- a write that is done -/
theorem write_done {D : Dsk} (hf : D.fuse = -1) (hn : D.sure.length = 90) {k : Nat} (hk : k < 90) {s : List UInt8} (hs : s.length = 128) : ∃ D', write D k s = (D', 0) ∧ D'.fuse = -1 ∧ D'.sure.length = 90 ∧ D'.loose.length = D.loose.length + 1 := by
  refine ⟨{ D with loose := D.loose ++ [((k : Int).toNat, s)], fuse := burn D.fuse }, by unfold write; rw [if_neg (by omega), if_neg (by omega)], ?_, ?_, ?_⟩
  · show burn D.fuse = -1
    rw [hf]; rfl
  · exact hn
  · show (D.loose ++ [_]).length = _
    rw [List.length_append]; rfl
theorem sync_done {D : Dsk} (hf : D.fuse = -1) (hn : D.sure.length = 90) : ∃ S, sync D = (⟨S, [], -1⟩, 0) ∧ S.length = 90 := by
  refine ⟨D.loose.foldl keep D.sure, ?_, by rw [fold_length]; exact hn⟩
  unfold sync synced
  rw [if_neg (by omega), hf]
  rfl
end PTwin
