/-
  Log, plain: its state, and what the calls do to it and to a disk.
-/
import Derived.Test.YtjnggldalggfnaaPFrm
import Derived.Test.YtjnggldalggfnaaPDisk
import Derived.Test.YtjnggldalggfnaaPScan
namespace PLog
open PDsk PSum
def begin (x : Nat) : Nat := x - x % 110
theorem begin_le (x : Nat) : begin x ≤ x ∧ x < begin x + 110 ∧ begin x % 110 = 0 := by unfold begin; omega
theorem begin_begin (x : Nat) : begin (begin x) = begin x := by unfold begin; omega
theorem begin_mono {x y : Nat} (h : x ≤ y) : begin x ≤ begin y := by unfold begin; omega
def sec (pl n x : Nat) : Nat := pl + x / 110 % n
theorem sec_lt {pl n x : Nat} (h : 0 < n) : pl ≤ sec pl n x ∧ sec pl n x < pl + n := by unfold sec; have := Nat.mod_lt (x / 110) h; omega
/-- two stretches less than a ring apart lie in two sectors -/
theorem sec_ne {pl n a b : Nat} (h : sec pl n (a * 110) = sec pl n (b * 110)) (h1 : a ≤ b) (h2 : b < a + n) : a = b := by
  unfold sec at h
  rw [Nat.mul_div_cancel _ (by omega), Nat.mul_div_cancel _ (by omega)] at h
  have h3 : a % n = b % n := by omega
  have h4 : (b - a) % n = 0 := by
    rw [← Nat.sub_mod_eq_zero_of_mod_eq h3.symm]
  rw [Nat.mod_eq_of_lt (by omega)] at h4
  omega
/-- where frames begin, of records one behind the other -/
def startsOf : Nat → List (List UInt8) → List Nat
  | _, [] => []
  | x, t :: l => x :: startsOf (x + (14 + t.length)) l
def endOf : Nat → List (List UInt8) → Nat
  | x, [] => x
  | x, t :: l => endOf (x + (14 + t.length)) l
def framesOf : Nat → List (List UInt8) → List UInt8
  | _, [] => []
  | x, t :: l => PFrm.frame x t ++ framesOf (x + (14 + t.length)) l
theorem framesOf_length : ∀ (l : List (List UInt8)) (x : Nat), x + (framesOf x l).length = endOf x l
  | [], x => by simp [framesOf, endOf]
  | t :: l, x => by
    have ih := framesOf_length l (x + (14 + t.length))
    unfold framesOf endOf
    rw [List.length_append, PFrm.frame_length]
    omega
theorem endOf_append : ∀ (l m : List (List UInt8)) (x : Nat), endOf x (l ++ m) = endOf (endOf x l) m
  | [], _, _ => rfl
  | t :: l, m, x => endOf_append l m (x + (14 + t.length))
theorem startsOf_append : ∀ (l m : List (List UInt8)) (x : Nat), startsOf x (l ++ m) = startsOf x l ++ startsOf (endOf x l) m
  | [], _, _ => rfl
  | t :: l, m, x => by
    show x :: startsOf _ (l ++ m) = x :: (startsOf _ l ++ startsOf _ m)
    rw [startsOf_append l m]
    rfl
theorem framesOf_append : ∀ (l m : List (List UInt8)) (x : Nat), framesOf x (l ++ m) = framesOf x l ++ framesOf (endOf x l) m
  | [], _, _ => rfl
  | t :: l, m, x => by
    show PFrm.frame x t ++ framesOf _ (l ++ m) = PFrm.frame x t ++ framesOf _ l ++ framesOf _ m
    rw [framesOf_append l m, List.append_assoc]
    rfl
theorem startsOf_length : ∀ (l : List (List UInt8)) (x : Nat), (startsOf x l).length = l.length
  | [], _ => rfl
  | t :: l, x => by
    show (startsOf _ l).length + 1 = l.length + 1
    rw [startsOf_length l]
theorem endOf_le : ∀ (l : List (List UInt8)) (x : Nat), x + 14 * l.length ≤ endOf x l
  | [], x => by simp [endOf]
  | t :: l, x => by
    have := endOf_le l (x + (14 + t.length))
    show x + 14 * (l.length + 1) ≤ endOf (x + (14 + t.length)) l
    omega
theorem startsOf_at : ∀ (l : List (List UInt8)) (x j : Nat) (h : j < (startsOf x l).length), (startsOf x l)[j] = endOf x (l.take j)
  | [], _, _, h => by simp [startsOf] at h
  | t :: l, x, 0, _ => rfl
  | t :: l, x, j + 1, h => by
    show (startsOf (x + (14 + t.length)) l)[j]'(by simpa [startsOf] using h) = endOf (x + (14 + t.length)) (l.take j)
    exact startsOf_at l _ j _
theorem endOf_take_mono (l : List (List UInt8)) (x i j : Nat) (h : i < j) (hj : j ≤ l.length) : endOf x (l.take i) + 14 ≤ endOf x (l.take j) := by
  have e : l.take j = l.take i ++ (l.drop i).take (j - i) := by
    rw [← List.take_add, show i + (j - i) = j by omega]
  rw [e, endOf_append]
  have := endOf_le ((l.drop i).take (j - i)) (endOf x (l.take i))
  rw [List.length_take, List.length_drop] at this
  omega
theorem endOf_take_le (l : List (List UInt8)) (x i j : Nat) (h : i ≤ j) : endOf x (l.take i) ≤ endOf x (l.take j) := by
  have e : l.take j = l.take i ++ (l.drop i).take (j - i) := by
    rw [← List.take_add, show i + (j - i) = j by omega]
  rw [e, endOf_append]
  have := endOf_le ((l.drop i).take (j - i)) (endOf x (l.take i))
  omega
theorem endOf_take_succ (l : List (List UInt8)) (x j : Nat) (h : j < l.length) : endOf x (l.take (j + 1)) = endOf x (l.take j) + (14 + l[j].length) := by
  rw [List.take_succ_eq_append_getElem h, endOf_append]
  rfl
theorem startsOf_sorted (l : List (List UInt8)) (x : Nat) : ∀ i j (hij : i < j) (hj : j < (startsOf x l).length), (startsOf x l)[i]'(Nat.lt_trans hij hj) < (startsOf x l)[j] := by
  intro i j hij hj
  rw [startsOf_at, startsOf_at]
  have := endOf_take_mono l x i j hij (by rw [startsOf_length] at hj; omega)
  omega
/-- how many of a row are below a number -/
def rank (xs : List Nat) (t : Nat) : Nat := (xs.filter (fun a => decide (a < t))).length
theorem rank_of {xs : List Nat} {t i : Nat} (hi : i ≤ xs.length) (h1 : ∀ k (h : k < xs.length), k < i → xs[k] < t) (h2 : ∀ k (h : k < xs.length), i ≤ k → t ≤ xs[k]) : rank xs t = i := by
  unfold rank
  have e : xs = xs.take i ++ xs.drop i := (List.take_append_drop i xs).symm
  rw [e, List.filter_append, List.filter_eq_self.2, List.filter_eq_nil_iff.2, List.append_nil, List.length_take]
  · omega
  · intro a ha
    obtain ⟨k, hk, rfl⟩ := List.getElem_of_mem ha
    rw [List.length_drop] at hk
    rw [List.getElem_drop]
    have := h2 (i + k) (by omega) (by omega)
    simp; omega
  · intro a ha
    obtain ⟨k, hk, rfl⟩ := List.getElem_of_mem ha
    rw [List.length_take] at hk
    rw [List.getElem_take]
    have := h1 k (by omega) (by omega)
    simpa using this
theorem rank_le (xs : List Nat) (t : Nat) : rank xs t ≤ xs.length := List.length_filter_le _ _
theorem rank_starts (l : List (List UInt8)) (x j : Nat) (hj : j ≤ l.length) : rank (startsOf x l) (endOf x (l.take j)) = j := by
  refine rank_of (by rw [startsOf_length]; exact hj) (fun k h hk => ?_) (fun k h hk => ?_)
  · rw [startsOf_at]
    have := endOf_take_mono l x k j hk hj
    omega
  · rw [startsOf_at]
    exact endOf_take_le l x j k hk
structure Lg where
  n : Nat
  pl : Nat
  life : Nat
  head : List UInt8
  texts : List (List UInt8)
  first : Nat
  forced : Nat
  reserved : Nat
namespace Lg
def bytes (L : Lg) : List UInt8 := L.head ++ framesOf L.first L.texts
def starts (L : Lg) : List Nat := startsOf L.first L.texts
def next (L : Lg) : Nat := endOf L.first L.texts
def room (L : Lg) : Nat := L.n * 110 - (L.next - begin L.first) - L.reserved
structure Ok (L : Lg) : Prop where
  n4 : 4 ≤ L.n
  n5 : L.n ≤ 4096
  place : L.pl + L.n ≤ 16384
  life : 1 ≤ L.life
  life5 : L.life ≤ 9000000000000000000
  first : 110 ≤ L.first
  head : begin L.first + L.head.length = L.first
  texts : ∀ t ∈ L.texts, 1 ≤ t.length ∧ t.length ≤ 4096
  forced : L.first ≤ L.forced
  forced5 : L.forced ≤ L.next
  next5 : L.next ≤ 9000000000000000000
  ring : L.next - begin L.first + L.reserved ≤ L.n * 110
section
variable {L : Lg}
theorem first_next (L : Lg) : L.first ≤ L.next := by have := endOf_le L.texts L.first; unfold next; omega
theorem Ok.bytes_length (h : L.Ok) : L.bytes.length = L.next - begin L.first := by
  have h1 := h.head
  have h2 := framesOf_length L.texts L.first
  have h3 := L.first_next
  unfold bytes
  rw [List.length_append]
  unfold next at *
  omega
theorem Ok.starts_at (_h : L.Ok) {j : Nat} (hj : j < L.texts.length) : L.starts[j]? = some (endOf L.first (L.texts.take j)) := by
  have hl : j < (startsOf L.first L.texts).length := by rw [startsOf_length]; exact hj
  unfold starts
  rw [List.getElem?_eq_getElem hl, startsOf_at]
/-- what Read reads -/
theorem Ok.text_at (h : L.Ok) {j : Nat} (hj : j < L.texts.length) :
    (L.bytes.take (endOf L.first (L.texts.take (j + 1)) - begin L.first)).drop (endOf L.first (L.texts.take j) - begin L.first + 14) = L.texts[j] := by
  have e0 : L.texts = L.texts.take j ++ L.texts[j] :: L.texts.drop (j + 1) := by
    rw [List.getElem_cons_drop, List.take_append_drop]
  have e1 : L.texts.take (j + 1) = L.texts.take j ++ [L.texts[j]] := by rw [List.take_succ_eq_append_getElem hj]
  have hb : L.bytes = L.head ++ framesOf L.first (L.texts.take j) ++ PFrm.frame (endOf L.first (L.texts.take j)) L.texts[j] ++ framesOf (endOf L.first (L.texts.take (j + 1))) (L.texts.drop (j + 1)) := by
    have : framesOf L.first L.texts = framesOf L.first (L.texts.take j) ++ (PFrm.frame (endOf L.first (L.texts.take j)) L.texts[j] ++ framesOf (endOf L.first (L.texts.take j) + (14 + L.texts[j].length)) (L.texts.drop (j + 1))) := by
      conv => lhs; rw [e0]
      rw [framesOf_append]
      rfl
    unfold bytes
    rw [this, e1, endOf_append]
    simp only [List.append_assoc]
    rfl
  have hl := framesOf_length (L.texts.take j) L.first
  have hh := h.head
  have he : endOf L.first (L.texts.take (j + 1)) = endOf L.first (L.texts.take j) + (14 + L.texts[j].length) := by rw [e1, endOf_append]; rfl
  have hf := PFrm.frame_length (endOf L.first (L.texts.take j)) L.texts[j]
  rw [hb, List.take_left' (by simp only [List.length_append]; omega), ← List.drop_drop, List.drop_left' (by rw [List.length_append]; omega)]
  have := PFrm.frame_drop14 (endOf L.first (L.texts.take j)) L.texts[j] []
  rwa [List.append_nil, List.append_nil] at this
end
end Lg
def fresh (pl n life : Nat) : Lg := ⟨n, pl, life, [], [], 110, 110, 0⟩
theorem fresh_ring (n : Nat) (_ : 4 ≤ n) : 110 - begin 110 + 0 ≤ n * 110 := by
  have : begin 110 = 110 := by decide
  omega
theorem fresh_ok {pl n life : Nat} (h1 : 4 ≤ n) (h2 : n ≤ 4096) (h3 : pl + n ≤ 16384) (h4 : 1 ≤ life) (h5 : life ≤ 9000000000000000000) : (fresh pl n life).Ok :=
  ⟨h1, h2, h3, h4, h5, Nat.le_refl _, (by show begin 110 + 0 = 110; decide), (fun t ht => by simp [fresh] at ht), Nat.le_refl _, Nat.le_refl _, (by show 110 ≤ 9000000000000000000; decide), fresh_ring n h1⟩
def append (L : Lg) (s : List UInt8) : Lg × Nat × Int :=
  if s.length < 1 ∨ 4096 < s.length then (L, 0, 2)
  else if L.room < s.length + 14 then (L, 0, 4)
  else ({ L with texts := L.texts ++ [s] }, L.next, 0)
theorem append_ok {L : Lg} (h : L.Ok) (s : List UInt8) (hn : L.next ≤ 8900000000000000000) : (append L s).1.Ok := by
  unfold append
  split
  · exact h
  split
  · exact h
  rename_i h1 h2
  have hr := h.ring
  have hfn := L.first_next
  have hb := begin_le L.first
  have e : endOf L.first (L.texts ++ [s]) = L.next + (14 + s.length) := by rw [endOf_append]; rfl
  unfold Lg.room at h2
  refine ⟨h.n4, h.n5, h.place, h.life, h.life5, h.first, h.head, fun t ht => ?_, h.forced, ?_, ?_, ?_⟩
  · rcases List.mem_append.1 ht with ht | ht
    · exact h.texts t ht
    · rw [List.mem_singleton.1 ht]; omega
  · show L.forced ≤ endOf L.first (L.texts ++ [s])
    have := h.forced5
    omega
  · show endOf L.first (L.texts ++ [s]) ≤ _
    omega
  · show endOf L.first (L.texts ++ [s]) - begin L.first + L.reserved ≤ L.n * 110
    omega
def reserve (L : Lg) (n : Int) : Lg × Int :=
  if (L.room : Int) < n then (L, 4) else if n < -(L.reserved : Int) then (L, 2) else ({ L with reserved := (L.reserved + n).toNat }, 0)
theorem reserve_ok {L : Lg} (h : L.Ok) (n : Int) : (reserve L n).1.Ok := by
  unfold reserve
  split
  · exact h
  split
  · exact h
  rename_i h1 h2
  have hr := h.ring
  unfold Lg.room at h1
  refine ⟨h.n4, h.n5, h.place, h.life, h.life5, h.first, h.head, h.texts, h.forced, h.forced5, h.next5, ?_⟩
  show L.next - begin L.first + (L.reserved + n).toNat ≤ L.n * 110
  omega
/-- where a record is read -/
def has (xs : List Nat) (t : Nat) : Bool := xs.contains t
def isAt (L : Lg) (x : Nat) : Bool := has L.starts x
def read (L : Lg) (x : Nat) : List UInt8 × Nat × Int :=
  if isAt L x then (L.texts.getD (rank L.starts x) [], x + (14 + (L.texts.getD (rank L.starts x) []).length), 0) else ([], 0, 3)
theorem isAt_iff (L : Lg) (x : Nat) : isAt L x = true ↔ ∃ j, j < L.texts.length ∧ x = endOf L.first (L.texts.take j) := by
  unfold isAt has Lg.starts
  rw [List.contains_iff_mem]
  constructor
  · intro h
    obtain ⟨j, hj, e⟩ := List.getElem_of_mem h
    rw [startsOf_at] at e
    exact ⟨j, by rwa [startsOf_length] at hj, e.symm⟩
  · rintro ⟨j, hj, rfl⟩
    rw [← startsOf_at L.texts L.first j (by rw [startsOf_length]; exact hj)]
    exact List.getElem_mem _
theorem read_at {L : Lg} {j : Nat} (hj : j < L.texts.length) : read L (endOf L.first (L.texts.take j)) = (L.texts[j], endOf L.first (L.texts.take (j + 1)), 0) := by
  have hr := rank_starts L.texts L.first j (by omega)
  have h1 : isAt L (endOf L.first (L.texts.take j)) = true := (isAt_iff L _).2 ⟨j, hj, rfl⟩
  have e1 : L.texts.take (j + 1) = L.texts.take j ++ [L.texts[j]] := by rw [List.take_succ_eq_append_getElem hj]
  have e2 : L.texts.getD j [] = L.texts[j] := by simp [List.getD, hj]
  unfold read
  rw [if_pos h1]
  show (L.texts.getD (rank (startsOf L.first L.texts) _) [], _ + (14 + (L.texts.getD (rank (startsOf L.first L.texts) _) []).length), (0 : Int)) = _
  rw [hr, e2, e1, endOf_append]
  rfl
/-- a stretch's bytes, and its sector -/
def part (L : Lg) (k : Nat) : List UInt8 := (L.bytes.drop (k - begin L.first)).take 110
theorem part_le (L : Lg) (k : Nat) : (part L k).length ≤ 110 := by unfold part; rw [List.length_take]; omega
def image (k life : Nat) (p : List UInt8) : List UInt8 := PWord.be 8 k ++ PWord.be 8 life ++ PWord.be 2 p.length ++ p ++ List.replicate (110 - p.length) 0
theorem image_length {k life : Nat} {p : List UInt8} (h : p.length ≤ 110) : (image k life p).length = 128 := by
  unfold image
  simp only [List.length_append, PWord.be_length, List.length_replicate]
  omega
/-- writes one behind the other, till one fails -/
def wsteps : Dsk → List (Nat × List UInt8) → Dsk × Int
  | D, [] => (D, 0)
  | D, p :: l => if (PDsk.write D p.1 p.2).2 = 0 then wsteps (PDsk.write D p.1 p.2).1 l else PDsk.write D p.1 p.2
theorem wsteps_snoc (l : List (Nat × List UInt8)) (p : Nat × List UInt8) : ∀ D, (wsteps D l).2 = 0 → wsteps D (l ++ [p]) = PDsk.write (wsteps D l).1 p.1 p.2 := by
  induction l with
  | nil =>
    intro D _
    show (if (PDsk.write D p.1 p.2).2 = 0 then ((PDsk.write D p.1 p.2).1, (0 : Int)) else PDsk.write D p.1 p.2) = PDsk.write D p.1 p.2
    split
    · rename_i h; rw [← h]
    · rfl
  | cons q l ih =>
    intro D h
    unfold wsteps at h
    show (if (PDsk.write D q.1 q.2).2 = 0 then wsteps (PDsk.write D q.1 q.2).1 (l ++ [p]) else PDsk.write D q.1 q.2) = PDsk.write (if (PDsk.write D q.1 q.2).2 = 0 then wsteps (PDsk.write D q.1 q.2).1 l else PDsk.write D q.1 q.2).1 p.1 p.2
    by_cases hz : (PDsk.write D q.1 q.2).2 = 0
    · rw [if_pos hz] at h
      rw [if_pos hz, if_pos hz, ih _ h]
    · rw [if_neg hz] at h
      exact absurd h hz
theorem wsteps_app (l m : List (Nat × List UInt8)) : ∀ D, wsteps D (l ++ m) = if (wsteps D l).2 = 0 then wsteps (wsteps D l).1 m else wsteps D l := by
  induction l with
  | nil => intro D; rfl
  | cons q l ih =>
    intro D
    show (if (PDsk.write D q.1 q.2).2 = 0 then wsteps (PDsk.write D q.1 q.2).1 (l ++ m) else PDsk.write D q.1 q.2) = if (if (PDsk.write D q.1 q.2).2 = 0 then wsteps (PDsk.write D q.1 q.2).1 l else PDsk.write D q.1 q.2).2 = 0 then wsteps (if (PDsk.write D q.1 q.2).2 = 0 then wsteps (PDsk.write D q.1 q.2).1 l else PDsk.write D q.1 q.2).1 m else (if (PDsk.write D q.1 q.2).2 = 0 then wsteps (PDsk.write D q.1 q.2).1 l else PDsk.write D q.1 q.2)
    by_cases hz : (PDsk.write D q.1 q.2).2 = 0
    · rw [if_pos hz, if_pos hz]; exact ih _
    · rw [if_neg hz, if_neg hz, if_neg hz]
/-- the stretches that a force writes -/
def stretches (L : Lg) : Nat := (L.next - begin L.forced + 109) / 110
def out (L : Lg) (i : Nat) : Nat × List UInt8 := (sec L.pl L.n (begin L.forced + 110 * i), image (begin L.forced + 110 * i) L.life (part L (begin L.forced + 110 * i)))
def outs (L : Lg) (m : Nat) : List (Nat × List UInt8) := (List.range m).map (out L)
theorem outs_succ (L : Lg) (m : Nat) : outs L (m + 1) = outs L m ++ [out L m] := by simp [outs, List.range_succ]
def force (L : Lg) (D : Dsk) (x : Nat) : Lg × Dsk × Int :=
  if L.next < x then (L, D, 2)
  else if x < L.forced ∨ L.forced = L.next then (L, D, 0)
  else if (wsteps D (outs L (stretches L))).2 ≠ 0 then (L, (wsteps D (outs L (stretches L))).1, (wsteps D (outs L (stretches L))).2)
  else if (PDsk.sync (wsteps D (outs L (stretches L))).1).2 ≠ 0 then (L, (PDsk.sync (wsteps D (outs L (stretches L))).1).1, (PDsk.sync (wsteps D (outs L (stretches L))).1).2)
  else ({ L with forced := L.next }, (PDsk.sync (wsteps D (outs L (stretches L))).1).1, 0)
/-- where it may be kept from -/
def keep (L : Lg) (x : Nat) : Lg × Int :=
  if x < L.first ∨ L.forced < x ∨ (isAt L x = false ∧ x ≠ L.next) then (L, 2)
  else ({ L with head := (L.bytes.take (x - begin L.first)).drop (begin x - begin L.first), texts := L.texts.drop (rank L.starts x), first := x }, 0)
/-- what a stretch's sector has of the log, its life -/
def stretch (D : Dsk) (pl n life x : Nat) : List UInt8 × Nat :=
  if (PWord.get (now D (sec pl n x)) 0 8).1 ≠ begin x ∨ 110 < (PWord.get (now D (sec pl n x)) 16 2).1 ∨ life < (PWord.get (now D (sec pl n x)) 8 8).1 then ([], 0)
  else (((now D (sec pl n x)).drop 18).take (PWord.get (now D (sec pl n x)) 16 2).1, (PWord.get (now D (sec pl n x)) 8 8).1)
/-- the stream of k more stretches from the stretch x on, the last one's life being el -/
def stream (D : Dsk) (pl n life : Nat) : Nat → Nat → Nat → List UInt8
  | 0, _, _ => []
  | k + 1, x, el =>
    if (stretch D pl n life x).1 = [] ∨ (stretch D pl n life x).2 < el then []
    else if (stretch D pl n life x).1.length < 110 then (stretch D pl n life x).1
    else (stretch D pl n life x).1 ++ stream D pl n life k (x + 110) (stretch D pl n life x).2
theorem stretch_le (D : Dsk) (pl n life x : Nat) : (stretch D pl n life x).1.length ≤ 110 := by
  unfold stretch
  split
  · simp
  · rename_i h
    simp only [not_or, Nat.not_lt] at h
    rw [List.length_take]
    omega
theorem stream_le (D : Dsk) (pl n life : Nat) : ∀ k x el, (stream D pl n life k x el).length ≤ 110 * k
  | 0, _, _ => by simp [stream]
  | k + 1, x, el => by
    have h := stretch_le D pl n life x
    have ih := stream_le D pl n life k (x + 110) (stretch D pl n life x).2
    unfold stream
    split
    · simp
    split
    · omega
    · rw [List.length_append]; omega
end PLog
