/-
  Plain: what a disk of four sectors of one byte each has behind a crash.
-/
import Derived.Test.YtkmgmfahhidbbaaPDisk
namespace PKeep
open PDsk
def full (b : UInt8) : List UInt8 := List.replicate 128 b
def wls (ls : List (Nat × UInt8)) : List (Nat × List UInt8) := ls.map fun p => (p.1, full p.2)
def nsOf (ls : List (Nat × UInt8)) (k : Nat) : List UInt8 := (ls.filter (fun p => p.1 == k)).map (·.2)
def upd (s : Nat → UInt8) (ls : List (Nat × UInt8)) (k : Nat) : UInt8 := ((nsOf ls k).getLast?).getD (s k)
def rowS (s : Nat → UInt8) : List (List UInt8) := (List.range 4).map fun k => full (s k)
theorem nsOf_cons (p : Nat × UInt8) (ls : List (Nat × UInt8)) (k : Nat) : nsOf (p :: ls) k = if p.1 = k then p.2 :: nsOf ls k else nsOf ls k := by
  unfold nsOf
  rw [List.filter_cons]
  by_cases h : p.1 = k <;> simp [h]
theorem nsOf_snoc (ls : List (Nat × UInt8)) (p : Nat × UInt8) (k : Nat) : nsOf (ls ++ [p]) k = if p.1 = k then nsOf ls k ++ [p.2] else nsOf ls k := by
  unfold nsOf
  rw [List.filter_append]
  by_cases h : p.1 = k <;> simp [h]
theorem rowS_set (s : Nat → UInt8) (k : Nat) (b : UInt8) : (rowS s).set k (full b) = rowS (fun j => if j = k then b else s j) := by
  unfold rowS
  apply List.ext_getElem
  · simp
  · intro i h1 h2
    rw [List.getElem_set]
    simp only [List.getElem_map, List.getElem_range]
    by_cases h : k = i
    · subst h; simp
    · have h' : ¬ i = k := fun e => h e.symm
      simp [h, h']
theorem fold_rows (ls : List (Nat × UInt8)) : ∀ s, (wls ls).foldl keep (rowS s) = rowS (upd s ls) := by
  induction ls with
  | nil => intro s; rfl
  | cons p ls ih =>
    intro s
    show (wls ls).foldl keep (keep (rowS s) (p.1, full p.2)) = _
    rw [show keep (rowS s) (p.1, full p.2) = (rowS s).set p.1 (full p.2) from rfl, rowS_set, ih]
    congr 1
    funext k
    unfold upd
    rw [nsOf_cons]
    by_cases h : p.1 = k
    · subst h
      rw [if_pos rfl, List.getLast?_cons]
      simp
    · have h' : ¬ k = p.1 := fun e => h e.symm
      rw [if_neg h]
      simp [h']
def keptL (ls : List (Nat × UInt8)) (ks : List Bool) : List (Nat × UInt8) := ((ls.zip ks).filter (·.2)).map (·.1)
theorem kept_wls (ls : List (Nat × UInt8)) : ∀ ks, kept (wls ls) ks = wls (keptL ls ks) := by
  induction ls with
  | nil => intro ks; rfl
  | cons p ls ih =>
    intro ks
    cases ks with
    | nil => rfl
    | cons b ks =>
      have := ih ks
      unfold kept keptL wls at this ⊢
      cases b <;> simp at this ⊢
      · exact this
      · exact this
theorem keptL_sub (ls : List (Nat × UInt8)) (ks : List Bool) (k : Nat) : ∀ b ∈ nsOf (keptL ls ks) k, b ∈ nsOf ls k := by
  intro b hb
  unfold nsOf at hb ⊢
  obtain ⟨p, hp, rfl⟩ := List.mem_map.1 hb
  obtain ⟨hp1, hp2⟩ := List.mem_filter.1 hp
  unfold keptL at hp1
  obtain ⟨q, hq, rfl⟩ := List.mem_map.1 hp1
  exact List.mem_map.2 ⟨q.1, List.mem_filter.2 ⟨(List.of_mem_zip (List.mem_filter.1 hq).1).1, hp2⟩, rfl⟩
theorem upd_or (s : Nat → UInt8) (ls : List (Nat × UInt8)) (k : Nat) : upd s ls k = s k ∨ upd s ls k ∈ nsOf ls k := by
  unfold upd
  cases h : (nsOf ls k).getLast? with
  | none => exact .inl rfl
  | some b => exact .inr (List.mem_of_getLast? h)
/-- Behind a crash. -/
theorem crash_row (s : Nat → UInt8) (ls : List (Nat × UInt8)) (f : Int) (ks : List Bool) (k : Nat) (hk : k < 4) : ∃ b, PDsk.read (crash ⟨rowS s, wls ls, f⟩ ks) k = (full b, 0) ∧ (b = s k ∨ b ∈ nsOf ls k) := by
  have h : (crash ⟨rowS s, wls ls, f⟩ ks).sure = rowS (upd s (keptL ls ks)) := by
    show (kept (wls ls) ks).foldl keep (rowS s) = _
    rw [kept_wls, fold_rows]
  refine ⟨upd s (keptL ls ks) k, ?_, ?_⟩
  · unfold PDsk.read
    have hl : (crash ⟨rowS s, wls ls, f⟩ ks).sure.length = 4 := by rw [h]; simp [rowS]
    rw [if_neg (by show ¬ (-1 : Int) = 0; decide), if_neg (by rw [hl]; omega)]
    have hn : (crash ⟨rowS s, wls ls, f⟩ ks).loose = [] := rfl
    unfold now
    rw [hn, h, Int.toNat_natCast]
    simp [rowS, List.getD, List.getElem?_eq_getElem, hk]
  · rcases upd_or s (keptL ls ks) k with h | h
    · exact .inl h
    · exact .inr (keptL_sub ls ks k _ h)
end PKeep
