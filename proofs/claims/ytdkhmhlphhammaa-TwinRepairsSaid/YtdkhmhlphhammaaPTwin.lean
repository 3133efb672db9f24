/-
  Plain: pages written twice: calls, marks, what is repaired. No program in sight.
-/
import Derived.Test.YtdkhmhlphhammaaPDisk
namespace PTwin
open PDsk
structure Hm where
  page : Nat
  bytes : List UInt8
  deriving DecidableEq
/-- a call of a disk -/
inductive Cal where
  | wr (k : Nat) (s : List UInt8)
  | sy
def one (D : Dsk) : Cal → Dsk × Int
  | .wr k s => write D k s
  | .sy => sync D
def steps : Dsk → List Cal → Dsk × Int
  | D, [] => (D, 0)
  | D, c :: cs => if (one D c).2 = 0 then steps (one D c).1 cs else one D c
def piece (b : List UInt8) (k : Nat) : List UInt8 := (b.drop (k * 128)).take 128
def homeC (base : Nat) (h : Hm) : List Cal := (List.range 4).map fun k => Cal.wr (base + h.page * 4 + k) (piece h.bytes k)
def homes (base : Nat) (l : List Hm) : List Cal := l.flatMap (homeC base) ++ [Cal.sy]
def marks (a : Nat) (m : List UInt8) : List Cal := [.wr a m, .sy]
def clear : List UInt8 := List.replicate 128 0
def front (ps : List Nat) : List UInt8 := [1, UInt8.ofNat ps.length] ++ ps.flatMap (PWord.be 4)
def mark (ps : List Nat) : List UInt8 := PSum.sealL (front ps ++ List.replicate (124 - (front ps).length) 0)
def area : Nat → List Hm → List Hm
  | _, [] => []
  | i, h :: l => ⟨i, h.bytes⟩ :: area (i + 1) l
def writeC (a base : Nat) (l : List Hm) : List Cal := homes (a + 1) (area 0 l) ++ marks a (mark (l.map (·.page))) ++ homes base l ++ marks a clear
def inside (n a base page : Nat) : Bool := decide (base + page * 4 + 4 ≤ n) && (decide (a + 33 ≤ base + page * 4) || decide (base + page * 4 + 4 ≤ a))
/-- each of a page's size, none twice, its home the disk's and apart from the area -/
def fit (n a base : Nat) : List Nat → List Hm → Bool
  | _, [] => true
  | seen, h :: l => if h.bytes.length ≠ 512 ∨ seen.contains h.page = true ∨ inside n a base h.page = false then false else fit n a base (seen ++ [h.page]) l
def may (n a base : Nat) (l : List Hm) : Bool := fit n a base [] l && (decide (1 ≤ l.length) && decide (l.length ≤ 8))
def pageAt (D : Dsk) (base p : Nat) : List UInt8 := now D (base + p * 4 + 0) ++ now D (base + p * 4 + 1) ++ now D (base + p * 4 + 2) ++ now D (base + p * 4 + 3)
def named (s : List UInt8) : Nat → List Nat
  | n => (List.range n).map fun i => (PWord.get s (2 + 4 * (i : Nat) : Nat) 4).1
def found (D : Dsk) (a : Nat) (n : Nat) : List Hm := (List.range n).map fun i => ⟨(PWord.get (now D a) (2 + 4 * (i : Nat) : Nat) 4).1, pageAt D (a + 1) i⟩
def count (s : List UInt8) : Nat := (PWord.get s 1 1).1
def repair (D : Dsk) (a base : Nat) : Dsk × Nat × Int :=
  if D.fuse = 0 then (D, 0, 40)
  else if now D a = clear then (D, 0, 0)
  else if count (now D a) < 1 ∨ 8 < count (now D a) then (D, 0, 120)
  else if mark ((found D a (count (now D a))).map (·.page)) ≠ now D a ∨ D.sure.length < base ∨ may D.sure.length a base (found D a (count (now D a))) = false then (D, 0, 120)
  else if (steps D (homes base (found D a (count (now D a))) ++ marks a clear)).2 = 0 then ((steps D (homes base (found D a (count (now D a))) ++ marks a clear)).1, count (now D a), 0)
  else ((steps D (homes base (found D a (count (now D a))) ++ marks a clear)).1, 0, (steps D (homes base (found D a (count (now D a))) ++ marks a clear)).2)
/-! ### lengths -/
theorem piece_length {b : List UInt8} (h : b.length = 512) {k : Nat} (hk : k < 4) : (piece b k).length = 128 := by unfold piece; rw [List.length_take, List.length_drop]; omega
theorem front_length (ps : List Nat) : (front ps).length = 2 + 4 * ps.length := by
  unfold front
  have : ∀ l : List Nat, (l.flatMap (PWord.be 4)).length = 4 * l.length := by
    intro l
    induction l with
    | nil => rfl
    | cons x l ih => rw [List.flatMap_cons, List.length_append, PWord.be_length, ih, List.length_cons]; omega
  rw [List.length_append, this]; rfl
theorem mark_length {ps : List Nat} (h : ps.length ≤ 8) : (mark ps).length = 128 := by
  unfold mark
  rw [PSum.seal_length, List.length_append, List.length_replicate, front_length]; omega
theorem area_length (l : List Hm) : ∀ i, (area i l).length = l.length := by
  induction l with
  | nil => intro _; rfl
  | cons h l ih => intro i; rw [area, List.length_cons, ih, List.length_cons]
theorem area_bytes (l : List Hm) (n : Nat) (h : ∀ x ∈ l, x.bytes.length = n) : ∀ i, ∀ x ∈ area i l, x.bytes.length = n := by
  induction l with
  | nil => intro i x hx; cases hx
  | cons y l ih =>
    intro i x hx
    rw [area] at hx
    rcases List.mem_cons.1 hx with rfl | hx
    · exact h y (by simp)
    · exact ih (fun z hz => h z (by simp [hz])) _ _ hx
theorem area_pages (l : List Hm) : ∀ i, ∀ x ∈ area i l, i ≤ x.page ∧ x.page < i + l.length := by
  induction l with
  | nil => intro i x hx; cases hx
  | cons y l ih =>
    intro i x hx
    rw [area] at hx
    rcases List.mem_cons.1 hx with rfl | hx
    · simp
    · have := ih _ _ hx; simp only [List.length_cons]; omega
theorem area_snoc (l : List Hm) (h : Hm) : ∀ i, area i (l ++ [h]) = area i l ++ [⟨i + l.length, h.bytes⟩] := by
  induction l with
  | nil => intro i; simp [area]
  | cons y l ih => intro i; rw [List.cons_append, area, ih, area, List.length_cons, List.cons_append, show i + 1 + l.length = i + (l.length + 1) by omega]
/-! ### steps -/
theorem one_ok {D : Dsk} (h : D.Ok) (c : Cal) : (one D c).1.Ok := by
  cases c with
  | wr k s => exact write_ok h k s
  | sy => show (sync D).1.Ok; unfold sync; split; exact h; exact synced_ok h
theorem steps_ok (cs : List Cal) : ∀ {D : Dsk}, D.Ok → (steps D cs).1.Ok := by
  induction cs with
  | nil => intro D h; exact h
  | cons c cs ih => intro D h; unfold steps; split; exact ih (one_ok h c); exact one_ok h c
theorem one_loose (D : Dsk) (c : Cal) : (one D c).1.loose.length ≤ D.loose.length + 1 := by
  cases c with
  | wr k s => show (write D k s).1.loose.length ≤ _; unfold write; split; simp; split; simp; simp
  | sy => show (sync D).1.loose.length ≤ _; unfold sync; split; simp; simp [synced]
theorem one_sure (D : Dsk) (c : Cal) : (one D c).1.sure.length = D.sure.length := by
  cases c with
  | wr k s => show (write D k s).1.sure.length = _; unfold write; split; rfl; split; rfl; rfl
  | sy => show (sync D).1.sure.length = _; unfold sync; split; rfl; simp [synced, fold_length]
theorem steps_sure (cs : List Cal) : ∀ D, (steps D cs).1.sure.length = D.sure.length := by
  induction cs with
  | nil => intro D; rfl
  | cons c cs ih => intro D; unfold steps; split; rw [ih, one_sure]; exact one_sure D c
theorem steps_loose (cs : List Cal) : ∀ D, (steps D cs).1.loose.length ≤ D.loose.length + cs.length := by
  induction cs with
  | nil => intro D; simp [steps]
  | cons c cs ih =>
    intro D
    have h1 := one_loose D c
    unfold steps
    split
    · have := ih (one D c).1; simp only [List.length_cons]; omega
    · simp only [List.length_cons]; omega
theorem homeC_length (base : Nat) (h : Hm) : (homeC base h).length = 4 := by simp [homeC]
theorem homes_length (base : Nat) (l : List Hm) : (homes base l).length = 4 * l.length + 1 := by
  unfold homes
  rw [List.length_append]
  have : ∀ l : List Hm, (l.flatMap (homeC base)).length = 4 * l.length := by
    intro l
    induction l with
    | nil => rfl
    | cons x l ih => rw [List.flatMap_cons, List.length_append, homeC_length, ih, List.length_cons]; omega
  rw [this]; rfl
/-! ### may -/
theorem fit_bytes {n a base : Nat} : ∀ (l : List Hm) (seen : List Nat), fit n a base seen l = true → ∀ h ∈ l, h.bytes.length = 512 ∧ inside n a base h.page = true ∧ seen.contains h.page = false
  | [], _, _, h, hm => by cases hm
  | y :: l, seen, hf, h, hm => by
    unfold fit at hf
    split at hf
    · cases hf
    · rename_i hn
      have hn1 : ¬ y.bytes.length ≠ 512 := fun e => hn (.inl e)
      have hn2 : seen.contains y.page = false := by cases he : seen.contains y.page; rfl; exact absurd (.inr (.inl he)) hn
      have hn3 : inside n a base y.page = true := by cases he : inside n a base y.page; exact absurd (.inr (.inr he)) hn; rfl
      rcases List.mem_cons.1 hm with rfl | hm
      · exact ⟨by omega, hn3, hn2⟩
      · obtain ⟨h1, h2, h3⟩ := fit_bytes l _ hf h hm
        refine ⟨h1, h2, ?_⟩
        simp only [List.contains_eq_mem, List.mem_append, decide_eq_false_iff_not, not_or] at h3 ⊢
        exact h3.1
end PTwin
