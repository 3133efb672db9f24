/-
  Log, plain: what a beginning of frames has; what a stretch's image is read as.
-/
import Derived.Test.YtjnggldalggfnaaPLog2
namespace PLog
open PDsk PSum PWord
theorem decode_shortL (lsn : Nat) (t : List UInt8) (h1 : 1 ≤ t.length) (h2 : t.length ≤ 4096) (h3 : lsn ≠ 0) (hl : lsn < 18446744073709551616) (b : List UInt8) (k : Nat) (hk : k < 14 + t.length) : PFrm.decode ((PFrm.frame lsn t ++ b).take k) lsn = ([], 0, 6) := by
  have hlen : ((PFrm.frame lsn t ++ b).take k).length = k := by rw [List.length_take, List.length_append, PFrm.frame_length]; omega
  unfold PFrm.decode
  by_cases c1 : k < 14
  · rw [if_pos (by rw [hlen]; exact c1)]
  rw [if_neg (by rw [hlen]; exact c1)]
  have e2 : ((PFrm.frame lsn t ++ b).take k).take 2 = be 2 t.length := by rw [List.take_take, Nat.min_eq_left (by omega), PFrm.frame_take2]
  have e8 : (((PFrm.frame lsn t ++ b).take k).drop 2).take 8 = be 8 lsn := by
    rw [List.drop_take, List.take_take, Nat.min_eq_left (by omega), PFrm.frame_take8]
  rw [e2, e8, PFrm.val_be2 _ (by omega), PFrm.val_be8 _ hl, hlen, if_neg (by omega), if_pos (by omega)]
/-- of a beginning of frames just the whole ones are found -/
theorem items_front : ∀ (l : List (List UInt8)) (x k f : Nat), (∀ t ∈ l, 1 ≤ t.length ∧ t.length ≤ 4096) → x ≠ 0 → endOf x l < 18446744073709551616 → k ≤ (framesOf x l).length → k < f →
    ∃ j, j ≤ l.length ∧ PFrm.texts (PFrm.items f ((framesOf x l).take k) x) = l.take j ∧ (framesOf x (l.take j)).length ≤ k ∧ (j = l.length ∨ k < (framesOf x (l.take (j + 1))).length)
  | [], x, k, f, _, _, _, hk, _ => by
    refine ⟨0, Nat.le_refl _, ?_, by simp [framesOf], .inl rfl⟩
    have hk0 : k = 0 := by simpa [framesOf] using hk
    subst hk0
    rw [PFrm.items_zero _ _ _ (by simp)]
    simp [PFrm.texts]
  | t :: l, x, k, f, hv, hx, he, hk, hf => by
    have ht := hv t (by simp)
    have hlen : ((framesOf x (t :: l)).take k).length = k := by rw [List.length_take]; omega
    have he' : endOf (x + (14 + t.length)) l < 18446744073709551616 := he
    have hel := endOf_le l (x + (14 + t.length))
    obtain ⟨f, rfl⟩ : ∃ f', f = f' + 1 := ⟨f - 1, by omega⟩
    have hfl : (framesOf x (t :: l)).length = 14 + t.length + (framesOf (x + (14 + t.length)) l).length := by
      show (PFrm.frame x t ++ framesOf _ l).length = _
      rw [List.length_append, PFrm.frame_length]; omega
    by_cases hkt : k < 14 + t.length
    · refine ⟨0, Nat.zero_le _, ?_, by simp [framesOf], .inr ?_⟩
      · by_cases hk0 : k = 0
        · subst hk0
          rw [PFrm.items_zero _ _ _ hlen]
          simp [PFrm.texts]
        · have hd := decode_shortL x t ht.1 ht.2 hx (by omega) (framesOf (x + (14 + t.length)) l) k hkt
          show PFrm.texts (PFrm.items (f + 1) ((PFrm.frame x t ++ framesOf (x + (14 + t.length)) l).take k) x) = _
          have hlen' : ((PFrm.frame x t ++ framesOf (x + (14 + t.length)) l).take k).length = k := hlen
          rw [PFrm.items_bad _ _ _ (by omega) (by rw [hd]; decide), hd]
          simp [PFrm.texts]
      · show k < (PFrm.frame x t ++ []).length
        rw [List.append_nil, PFrm.frame_length]; omega
    · have ecut : (framesOf x (t :: l)).take k = PFrm.frame x t ++ (framesOf (x + (14 + t.length)) l).take (k - (14 + t.length)) := by
        show (PFrm.frame x t ++ framesOf _ l).take k = _
        rw [List.take_append, PFrm.frame_length, List.take_of_length_le (by rw [PFrm.frame_length]; omega), show k - (t.length + 14) = k - (14 + t.length) by omega]
      have hd := PFrm.decode_frame x x t ((framesOf (x + (14 + t.length)) l).take (k - (14 + t.length))) ((PFrm.may_iff _ _).2 ⟨ht.1, by omega, hx⟩) (by omega)
      rw [if_pos rfl] at hd
      obtain ⟨j, j1, j2, j3, j4⟩ := items_front l (x + (14 + t.length)) (k - (14 + t.length)) f (fun u hu => hv u (by simp [hu])) (by omega) he' (by omega) (by omega)
      refine ⟨j + 1, by rw [List.length_cons]; omega, ?_, ?_, ?_⟩
      · rw [PFrm.items_ok _ _ _ (by omega) (by rw [ecut, hd]), ecut, hd]
        dsimp only
        rw [show (14 + (t.length : Int)).toNat = t.length + 14 by omega, List.drop_left' (PFrm.frame_length _ _), Nat.mod_eq_of_lt (by omega), show x + (t.length + 14) = x + (14 + t.length) by omega]
        rw [List.take_succ_cons, ← j2]
        simp [PFrm.texts]
      · rw [List.take_succ_cons]
        show (PFrm.frame x t ++ framesOf _ _).length ≤ k
        rw [List.length_append, PFrm.frame_length]; omega
      · rcases j4 with j4 | j4
        · left; rw [List.length_cons, j4]
        · right
          rw [List.take_succ_cons]
          show k < (PFrm.frame x t ++ framesOf _ _).length
          rw [List.length_append, PFrm.frame_length]; omega
theorem found_front {l : List (List UInt8)} {x : Nat} {s : List UInt8} (hv : ∀ t ∈ l, 1 ≤ t.length ∧ t.length ≤ 4096) (hx : x ≠ 0) (he : endOf x l < 18446744073709551616) (hs : s <+: framesOf x l) :
    ∃ j, j ≤ l.length ∧ found s x = l.take j ∧ (framesOf x (l.take j)).length ≤ s.length ∧ (j = l.length ∨ s.length < (framesOf x (l.take (j + 1))).length) := by
  have e : s = (framesOf x l).take s.length := by
    obtain ⟨r, hr⟩ := hs
    rw [← hr, List.take_left' rfl]
  obtain ⟨j, h1, h2, h3, h4⟩ := items_front l x s.length (s.length + 1) hv hx he hs.length_le (by omega)
  rw [← e] at h2
  exact ⟨j, h1, h2, h3, h4⟩
theorem found_all {l : List (List UInt8)} {x : Nat} (hv : ∀ t ∈ l, 1 ≤ t.length ∧ t.length ≤ 4096) (hx : x ≠ 0) (he : endOf x l < 18446744073709551616) : found (framesOf x l) x = l := by
  obtain ⟨j, h1, h2, h3, h4⟩ := found_front hv hx he (List.prefix_refl _)
  rcases h4 with h4 | h4
  · rw [h2, h4, List.take_length]
  · exfalso
    have e : l = l.take (j + 1) ++ l.drop (j + 1) := (List.take_append_drop _ _).symm
    have : (framesOf x l).length = (framesOf x (l.take (j + 1))).length + (framesOf (endOf x (l.take (j + 1))) (l.drop (j + 1))).length := by
      conv => lhs; rw [e]
      rw [framesOf_append, List.length_append]
    omega
theorem get_inL (s : List UInt8) (p k : Nat) (h1 : 1 ≤ k) (h8 : k ≤ 8) (h : p + k ≤ s.length) : (PWord.get s p k).1 = PWord.val ((s.drop p).take k) := by
  unfold PWord.get PWord.inside
  rw [if_pos (by simp; omega)]
  simp
theorem image_get {k life : Nat} {p : List UInt8} (h : p.length ≤ 110) (hk : k < 18446744073709551616) (hl : life < 18446744073709551616) :
    (PWord.get (image k life p) 0 8).1 = k ∧ (PWord.get (image k life p) 8 8).1 = life ∧ (PWord.get (image k life p) 16 2).1 = p.length ∧ ((image k life p).drop 18).take p.length = p := by
  have hL := image_length (k := k) (life := life) h
  have hi : image k life p = be 8 k ++ (be 8 life ++ (be 2 p.length ++ (p ++ List.replicate (110 - p.length) 0))) := by unfold image; simp only [List.append_assoc]
  refine ⟨?_, ?_, ?_, ?_⟩
  · have := get_inL (image k life p) 0 8 (by omega) (by omega) (by omega)
    show (PWord.get (image k life p) ((0 : Nat) : Int) ((8 : Nat) : Int)).1 = k
    rw [this, hi, List.drop_zero, List.take_left' (be_length 8 _), PFrm.val_be8 _ hk]
  · have := get_inL (image k life p) 8 8 (by omega) (by omega) (by omega)
    show (PWord.get (image k life p) ((8 : Nat) : Int) ((8 : Nat) : Int)).1 = life
    rw [this, hi, List.drop_left' (be_length 8 _), List.take_left' (be_length 8 _), PFrm.val_be8 _ hl]
  · have := get_inL (image k life p) 16 2 (by omega) (by omega) (by omega)
    show (PWord.get (image k life p) ((16 : Nat) : Int) ((2 : Nat) : Int)).1 = p.length
    rw [this, hi, show (16 : Nat) = 8 + 8 from rfl, ← List.drop_drop, List.drop_left' (be_length 8 _), List.drop_left' (be_length 8 _), List.take_left' (be_length 2 _), PFrm.val_be2 _ (by omega)]
  · rw [hi, show (18 : Nat) = 8 + (8 + 2) from rfl, ← List.drop_drop, ← List.drop_drop, List.drop_left' (be_length 8 _), List.drop_left' (be_length 8 _), List.drop_left' (be_length 2 _), List.take_left' rfl]
theorem stretch_image {D : Dsk} {pl n life x lf : Nat} {p : List UInt8} (h : now D (sec pl n x) = image (begin x) lf p) (hp : p.length ≤ 110) (hx : x < 18446744073709551616) (hl : lf < 18446744073709551616) (hle : lf ≤ life) :
    stretch D pl n life x = (p, lf) := by
  have hb := (begin_le x).1
  obtain ⟨g1, g2, g3, g4⟩ := image_get hp (show begin x < 18446744073709551616 by omega) hl
  unfold stretch
  rw [h, g1, g2, g3, if_neg (by omega), g4]
theorem stretch_other {D : Dsk} {pl n life x k lf : Nat} {p : List UInt8} (h : now D (sec pl n x) = image k lf p) (hp : p.length ≤ 110) (hk : k < 18446744073709551616) (hl : lf < 18446744073709551616) (hne : k ≠ begin x) :
    stretch D pl n life x = ([], 0) := by
  obtain ⟨g1, _, _, _⟩ := image_get hp hk hl
  unfold stretch
  rw [h, g1, if_pos (.inl hne)]
theorem stretch_zero {D : Dsk} {pl n life x : Nat} (h : now D (sec pl n x) = zero) (hx : 110 ≤ x) : stretch D pl n life x = ([], 0) := by
  have hb := begin_le x
  have e : (PWord.get zero 0 8).1 = 0 := by
    have := get_inL zero 0 8 (by omega) (by omega) (by simp [zero])
    show (PWord.get zero ((0 : Nat) : Int) ((8 : Nat) : Int)).1 = 0
    rw [this]
    unfold zero
    rw [List.drop_zero, List.take_replicate]
    rfl
  unfold stretch
  rw [h, e, if_pos (.inl (by omega))]
/-! ### the document's example -/
def wL0 : Lg := ⟨5, 1, 1, [], [[97]], 110, 110, 0⟩
def wL1 : Lg := ⟨5, 1, 1, [], [[97]], 110, 125, 0⟩
def wL2 : Lg := ⟨5, 1, 2, [], [[97]], 110, 125, 0⟩
def wF : List UInt8 := PFrm.frame 110 [97]
def wD : Dsk := ⟨(List.replicate 6 zero).set 2 (image 110 1 wF), [], -1⟩
theorem wF_len : wF.length = 15 := PFrm.frame_length 110 [97]
theorem w_append : append (fresh 1 5 1) [97] = (wL0, 110, 0) := by
  unfold append
  rw [if_neg (by decide), if_neg (by decide)]
  rfl
theorem w_part : part wL0 110 = wF := by
  show ((([] : List UInt8) ++ (wF ++ [])).drop (110 - begin 110)).take 110 = wF
  rw [List.append_nil, List.nil_append, show 110 - begin 110 = 0 by decide, List.drop_zero, List.take_of_length_le (by rw [wF_len]; omega)]
theorem w_out : out wL0 0 = (2, image 110 1 wF) := by
  show (sec 1 5 (begin 110 + 110 * 0), image (begin 110 + 110 * 0) 1 (part wL0 (begin 110 + 110 * 0))) = _
  rw [show begin 110 + 110 * 0 = 110 by decide, w_part]
  rfl
theorem w_force : force wL0 (new 6) 110 = (wL1, wD, 0) := by
  have hi := image_length (k := 110) (life := 1) (p := wF) (by rw [wF_len]; omega)
  have hs : outs wL0 (stretches wL0) = [(2, image 110 1 wF)] := by
    rw [show stretches wL0 = 1 by decide]
    show [out wL0 0] = _
    rw [w_out]
  have hw : wsteps (new 6) [(2, image 110 1 wF)] = (⟨List.replicate 6 zero, [(2, image 110 1 wF)], -1⟩, 0) := by
    have : PDsk.write (new 6) ((2 : Nat) : Int) (image 110 1 wF) = (⟨List.replicate 6 zero, [(2, image 110 1 wF)], -1⟩, 0) := by
      unfold PDsk.write new
      rw [if_neg (by decide), if_neg (by rw [hi, List.length_replicate]; omega)]
      rfl
    unfold wsteps
    simp only [this]
    rfl
  unfold force
  rw [if_neg (by decide), if_neg (by decide), hs, hw]
  rfl
theorem w_now : now wD 2 = image 110 1 wF := by
  unfold now wD
  simp [List.replicate]
theorem w_ne : ¬ (((wF, 1) : List UInt8 × Nat).1 = [] ∨ ((wF, 1) : List UInt8 × Nat).2 < 0) := by
  intro hh
  rcases hh with hh | hh
  · have h1 : wF = [] := hh
    have := wF_len
    rw [h1] at this
    simp at this
  · exact absurd hh (Nat.not_lt_zero _)
theorem w_stream : stream wD 1 5 2 5 110 0 = wF := by
  have h : stretch wD 1 5 2 110 = (wF, 1) := stretch_image (lf := 1) (by rw [show sec 1 5 110 = 2 by decide, w_now]; rfl) (by rw [wF_len]; omega) (by omega) (by omega) (by omega)
  unfold stream
  rw [h, if_neg w_ne, if_pos (by show wF.length < 110; rw [wF_len]; omega)]
theorem w_opens : Opens wD 1 5 2 110 := by
  refine ⟨by omega, by omega, ?_, ?_, by omega, by omega, by omega, by omega, ?_⟩
  · show 1 + 5 ≤ ((List.replicate 6 zero).set 2 _).length
    simp
  · show ((List.replicate 6 zero).set 2 _).length ≤ 16384
    simp
  · rw [show begin 110 = 110 by decide, Nat.sub_self]; exact Nat.zero_le _
theorem w_opened : opened wD 1 5 2 110 = wL2 := by
  unfold opened
  rw [show begin 110 = 110 by decide, w_stream, Nat.sub_self, List.take_zero, List.drop_zero]
  have : found wF 110 = [[97]] := by
    have := found_all (l := [[97]]) (x := 110) (fun t ht => by simp at ht; subst ht; decide) (by decide) (by decide)
    rw [show framesOf 110 [[97]] = wF ++ [] from rfl, List.append_nil] at this
    exact this
  rw [this]
  rfl
theorem w_bytes : wL2.bytes.length = (stream wD 1 5 2 5 (begin 110) 0).length := by
  rw [show begin 110 = 110 by decide, w_stream]
  show (([] : List UInt8) ++ (wF ++ [])).length = _
  simp
theorem w_read : read wL2 110 = ([97], 125, 0) := read_at (L := wL2) (j := 0) (by decide)
end PLog
