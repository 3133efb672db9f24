/-
  Plain: records of a log: which may be, their bytes, which record bytes are. No program in sight.
-/
import Derived.Test.YtpkmnihiepbmcaaPlain
namespace PRec
structure Drt where
  page : Nat
  since : Nat
  deriving DecidableEq
structure Atx where
  tx : Nat
  first : Nat
  last : Nat
  next : Nat
  deriving DecidableEq
structure Rec where
  kind : Nat
  tx : Nat
  prev : Nat
  page : Nat
  slot : Nat
  next : Nat
  number : Nat
  body : List UInt8
  dirty : List Drt
  txns : List Atx
  ttx : Nat
  tnum : Nat
  deriving DecidableEq
def u64 : Nat := 18446744073709551616
def Drt.Ok (d : Drt) : Prop := d.page < 4294967296 ∧ d.since < 18446744073709551616
def Atx.Ok (x : Atx) : Prop := x.tx < 18446744073709551616 ∧ x.first < 18446744073709551616 ∧ x.last < 18446744073709551616 ∧ x.next < 18446744073709551616
def Rec.Ok (r : Rec) : Prop := r.kind < 256 ∧ r.tx < 18446744073709551616 ∧ r.prev < 18446744073709551616 ∧ r.page < 4294967296 ∧ r.slot < 65536 ∧ r.next < 18446744073709551616 ∧ r.number < 18446744073709551616 ∧
  (∀ d ∈ r.dirty, d.Ok) ∧ (∀ x ∈ r.txns, x.Ok) ∧ r.ttx < 18446744073709551616 ∧ r.tnum < 18446744073709551616
def zero : Rec := ⟨0, 0, 0, 0, 0, 0, 0, [], [], [], 0, 0⟩
def base (r : Rec) : Rec := ⟨r.kind, r.tx, r.prev, 0, 0, 0, 0, [], [], [], 0, 0⟩
def has (r : Rec) : Rec :=
  if r.kind = 2 then { base r with page := r.page, slot := r.slot, body := r.body }
  else if r.kind = 6 then { base r with body := r.body }
  else if r.kind = 3 then { base r with next := r.next, body := r.body }
  else if r.kind = 4 then { base r with number := r.number, body := r.body }
  else if r.kind = 8 then { base r with dirty := r.dirty, txns := r.txns, ttx := r.ttx, tnum := r.tnum }
  else base r
def fitsD : Nat → List Drt → Bool
  | _, [] => true
  | p, d :: l => decide (p < d.page) && (decide (d.since ≠ 0) && fitsD d.page l)
def fitsT : Nat → List Atx → Bool
  | _, [] => true
  | p, x :: l => decide (p < x.tx) && (decide (x.first ≠ 0) && (decide (x.last ≠ 0) && fitsT x.tx l))
def fits (r : Rec) : Bool := fitsD 0 r.dirty && (fitsT 0 r.txns && (decide (r.dirty.length ≤ 64) && (decide (r.txns.length ≤ 64) && (decide (0 < r.ttx) && decide (0 < r.tnum)))))
def check (r : Rec) : Bool := decide (r.kind = 7) || decide (r.kind = 8)
def nobody (r : Rec) : Bool := decide (r.tx = 0)
/-- whose, and behind what: may that be? -/
def whose (r : Rec) : Bool := !((check r && !nobody r) || (nobody r && (decide (r.prev ≠ 0) || (!check r && decide (r.kind ≠ 6)))))
def head (r : Rec) : List UInt8 := PWord.be 1 r.kind ++ PWord.be 8 r.tx ++ PWord.be 8 r.prev
def bodyOk (r : Rec) : Bool := decide (1 ≤ r.body.length) && decide (r.body.length ≤ 3072)
def dirtyB (d : Drt) : List UInt8 := PWord.be 4 d.page ++ PWord.be 8 d.since
def txnB (x : Atx) : List UInt8 := PWord.be 8 x.tx ++ PWord.be 8 x.first ++ PWord.be 8 x.last ++ PWord.be 8 x.next
def tabs (r : Rec) : List UInt8 := PWord.be 8 r.ttx ++ PWord.be 8 r.tnum ++ PWord.be 1 (r.dirty.length % 256) ++ r.dirty.flatMap dirtyB ++ PWord.be 1 (r.txns.length % 256) ++ r.txns.flatMap txnB
def bytes (r : Rec) : List UInt8 × Bool :=
  if whose r then
    if r.kind = 1 ∨ r.kind = 5 ∨ r.kind = 7 then (head r, true)
    else if r.kind = 2 then (head r ++ PWord.be 4 r.page ++ PWord.be 2 r.slot ++ r.body, bodyOk r && (decide (0 < r.page) || decide (r.slot = 0)))
    else if r.kind = 6 then (head r ++ r.body, bodyOk r)
    else if r.kind = 3 then (head r ++ PWord.be 8 r.next ++ r.body, bodyOk r)
    else if r.kind = 4 then (head r ++ PWord.be 8 r.number ++ r.body, bodyOk r && decide (0 < r.number))
    else if r.kind = 8 then (head r ++ tabs r, fits r)
    else ([], false)
  else ([], false)
def may (r : Rec) : Bool := (bytes r).2 && decide (r = has r)
def enc (r : Rec) : List UInt8 := if may r then (bytes r).1 else []
def err (r : Rec) : Int := if may r then 0 else 2
def undone (r : Rec) : Bool := decide (r.kind = 2) && decide (0 < r.page)
/-! ### which record bytes are -/
def g (s : List UInt8) (p k : Nat) : Nat := (PWord.get s p k).1
def rest (s : List UInt8) (p : Nat) : List UInt8 := s.drop p
def getD (s : List UInt8) : Nat → Nat → List Drt
  | 0, _ => []
  | n + 1, p => ⟨g s p 4, g s (p + 4) 8⟩ :: getD s n (p + 12)
def getT (s : List UInt8) : Nat → Nat → List Atx
  | 0, _ => []
  | n + 1, p => ⟨g s p 8, g s (p + 8) 8, g s (p + 16) 8, g s (p + 24) 8⟩ :: getT s n (p + 32)
def parse (s : List UInt8) : Rec :=
  let b : Rec := ⟨g s 0 1, g s 1 8, g s 9 8, 0, 0, 0, 0, [], [], [], 0, 0⟩
  if b.kind = 2 then { b with page := g s 17 4, slot := g s 21 2, body := rest s 23 }
  else if b.kind = 6 then { b with body := rest s 17 }
  else if b.kind = 3 then { b with next := g s 17 8, body := rest s 25 }
  else if b.kind = 4 then { b with number := g s 17 8, body := rest s 25 }
  else if b.kind = 8 then { b with ttx := g s 17 8, tnum := g s 25 8, dirty := getD s (g s 33 1) 34, txns := getT s (g s (34 + 12 * g s 33 1) 1) (35 + 12 * g s 33 1) }
  else b
def good (s : List UInt8) : Bool := may (parse s) && decide (enc (parse s) = s)
def dec (s : List UInt8) : Rec × Int := if good s then (parse s, 0) else (zero, 7)

theorem get_mid (a b c : List UInt8) (p k : Nat) (hp : p = a.length) (hs : k = b.length) (h1 : 1 ≤ b.length) (h8 : b.length ≤ 8) : PWord.get (a ++ b ++ c) p k = (PWord.val b, true) := by
  subst hp hs
  unfold PWord.get PWord.inside
  have : (decide (0 ≤ (a.length : Int)) && decide (0 ≤ (b.length : Int)) && decide ((a.length : Int) + (b.length : Int) ≤ ((a ++ b ++ c).length : Int)) && decide (1 ≤ (b.length : Int)) && decide ((b.length : Int) ≤ 8)) = true := by
    simp; omega
  rw [this, if_pos rfl]
  rw [Int.toNat_natCast, Int.toNat_natCast, List.append_assoc, List.drop_left' rfl, List.take_left' rfl]
/-- a number that was put is got -/
theorem g_mid (a c : List UInt8) (k n p : Nat) (hp : p = a.length) (h1 : 1 ≤ k) (h8 : k ≤ 8) (hn : n < 256 ^ k) : g (a ++ PWord.be k n ++ c) p k = n := by
  unfold g
  rw [get_mid a (PWord.be k n) c p k hp (PWord.be_length k n).symm (by rw [PWord.be_length]; exact h1) (by rw [PWord.be_length]; exact h8), PWord.val_be]
  exact Nat.mod_eq_of_lt hn
theorem dirtyB_length (d : Drt) : (dirtyB d).length = 12 := by simp [dirtyB, PWord.be_length]
theorem txnB_length (x : Atx) : (txnB x).length = 32 := by simp [txnB, PWord.be_length]
theorem getD_back : ∀ (l : List Drt) (a c : List UInt8) (p : Nat), p = a.length → (∀ d ∈ l, d.Ok) → getD (a ++ l.flatMap dirtyB ++ c) l.length p = l
  | [], _, _, _, _, _ => rfl
  | d :: l, a, c, p, hp, hok => by
    have hd := hok d (by simp)
    have e1 : a ++ (d :: l).flatMap dirtyB ++ c = a ++ PWord.be 4 d.page ++ (PWord.be 8 d.since ++ l.flatMap dirtyB ++ c) := by simp [dirtyB, List.append_assoc]
    have e2 : a ++ (d :: l).flatMap dirtyB ++ c = (a ++ PWord.be 4 d.page) ++ PWord.be 8 d.since ++ (l.flatMap dirtyB ++ c) := by simp [dirtyB, List.append_assoc]
    have e3 : a ++ (d :: l).flatMap dirtyB ++ c = (a ++ dirtyB d) ++ l.flatMap dirtyB ++ c := by simp [List.append_assoc]
    rw [List.length_cons, getD]
    have g1 : g (a ++ (d :: l).flatMap dirtyB ++ c) p 4 = d.page := by rw [e1]; exact g_mid _ _ 4 _ _ hp (by omega) (by omega) hd.1
    have g2 : g (a ++ (d :: l).flatMap dirtyB ++ c) (p + 4) 8 = d.since := by rw [e2]; exact g_mid _ _ 8 _ _ (by simp [PWord.be_length, hp]) (by omega) (by omega) hd.2
    rw [g1, g2]
    congr 1
    rw [e3]
    exact getD_back l (a ++ dirtyB d) c (p + 12) (by simp [dirtyB_length, hp]) (fun x hx => hok x (by simp [hx]))
theorem getT_back : ∀ (l : List Atx) (a c : List UInt8) (p : Nat), p = a.length → (∀ d ∈ l, d.Ok) → getT (a ++ l.flatMap txnB ++ c) l.length p = l
  | [], _, _, _, _, _ => rfl
  | d :: l, a, c, p, hp, hok => by
    have hd := hok d (by simp)
    have e1 : a ++ (d :: l).flatMap txnB ++ c = a ++ PWord.be 8 d.tx ++ (PWord.be 8 d.first ++ PWord.be 8 d.last ++ PWord.be 8 d.next ++ l.flatMap txnB ++ c) := by simp [txnB, List.append_assoc]
    have e2 : a ++ (d :: l).flatMap txnB ++ c = (a ++ PWord.be 8 d.tx) ++ PWord.be 8 d.first ++ (PWord.be 8 d.last ++ PWord.be 8 d.next ++ l.flatMap txnB ++ c) := by simp [txnB, List.append_assoc]
    have e3 : a ++ (d :: l).flatMap txnB ++ c = (a ++ PWord.be 8 d.tx ++ PWord.be 8 d.first) ++ PWord.be 8 d.last ++ (PWord.be 8 d.next ++ l.flatMap txnB ++ c) := by simp [txnB, List.append_assoc]
    have e4 : a ++ (d :: l).flatMap txnB ++ c = (a ++ PWord.be 8 d.tx ++ PWord.be 8 d.first ++ PWord.be 8 d.last) ++ PWord.be 8 d.next ++ (l.flatMap txnB ++ c) := by simp [txnB, List.append_assoc]
    have e5 : a ++ (d :: l).flatMap txnB ++ c = (a ++ txnB d) ++ l.flatMap txnB ++ c := by simp [List.append_assoc]
    rw [List.length_cons, getT]
    have g1 : g (a ++ (d :: l).flatMap txnB ++ c) p 8 = d.tx := by rw [e1]; exact g_mid _ _ 8 _ _ hp (by omega) (by omega) hd.1
    have g2 : g (a ++ (d :: l).flatMap txnB ++ c) (p + 8) 8 = d.first := by rw [e2]; exact g_mid _ _ 8 _ _ (by simp [PWord.be_length, hp]) (by omega) (by omega) hd.2.1
    have g3 : g (a ++ (d :: l).flatMap txnB ++ c) (p + 16) 8 = d.last := by rw [e3]; exact g_mid _ _ 8 _ _ (by simp [PWord.be_length, hp]) (by omega) (by omega) hd.2.2.1
    have g4 : g (a ++ (d :: l).flatMap txnB ++ c) (p + 24) 8 = d.next := by rw [e4]; exact g_mid _ _ 8 _ _ (by simp [PWord.be_length, hp]) (by omega) (by omega) hd.2.2.2
    rw [g1, g2, g3, g4]
    congr 1
    rw [e5]
    exact getT_back l (a ++ txnB d) c (p + 32) (by simp [txnB_length, hp]) (fun x hx => hok x (by simp [hx]))
theorem flat_length {α : Type} (f : α → List UInt8) (m : Nat) (hf : ∀ x, (f x).length = m) : ∀ l : List α, (l.flatMap f).length = m * l.length
  | [] => by simp
  | x :: l => by rw [List.flatMap_cons, List.length_append, flat_length f m hf l, hf, List.length_cons, Nat.mul_succ, Nat.add_comm]
theorem head_length (r : Rec) : (head r).length = 17 := by simp [head, PWord.be_length]
theorem head_g (r : Rec) (h : r.Ok) (T : List UInt8) : g (head r ++ T) 0 1 = r.kind ∧ g (head r ++ T) 1 8 = r.tx ∧ g (head r ++ T) 9 8 = r.prev := by
  have e1 : head r ++ T = [] ++ PWord.be 1 r.kind ++ (PWord.be 8 r.tx ++ PWord.be 8 r.prev ++ T) := by simp [head, List.append_assoc]
  have e2 : head r ++ T = PWord.be 1 r.kind ++ PWord.be 8 r.tx ++ (PWord.be 8 r.prev ++ T) := by simp [head, List.append_assoc]
  have e3 : head r ++ T = (PWord.be 1 r.kind ++ PWord.be 8 r.tx) ++ PWord.be 8 r.prev ++ T := by simp [head, List.append_assoc]
  refine ⟨?_, ?_, ?_⟩
  · rw [e1]; exact g_mid _ _ 1 _ 0 rfl (by omega) (by omega) h.1
  · rw [e2]; exact g_mid _ _ 8 _ 1 (by simp [PWord.be_length]) (by omega) (by omega) h.2.1
  · rw [e3]; exact g_mid _ _ 8 _ 9 (by simp [PWord.be_length]) (by omega) (by omega) h.2.2.1
theorem bytes_form {r : Rec} (h : (bytes r).2 = true) : whose r = true ∧
    (((r.kind = 1 ∨ r.kind = 5 ∨ r.kind = 7) ∧ (bytes r).1 = head r) ∨ (r.kind = 2 ∧ (bytes r).1 = head r ++ PWord.be 4 r.page ++ PWord.be 2 r.slot ++ r.body ∧ bodyOk r = true) ∨ (r.kind = 6 ∧ (bytes r).1 = head r ++ r.body ∧ bodyOk r = true) ∨
     (r.kind = 3 ∧ (bytes r).1 = head r ++ PWord.be 8 r.next ++ r.body ∧ bodyOk r = true) ∨ (r.kind = 4 ∧ (bytes r).1 = head r ++ PWord.be 8 r.number ++ r.body ∧ bodyOk r = true) ∨ (r.kind = 8 ∧ (bytes r).1 = head r ++ tabs r ∧ fits r = true)) := by
  unfold bytes at h ⊢
  split at h
  · rename_i hw
    refine ⟨hw, ?_⟩
    rw [if_pos hw]
    split at h
    · rename_i hk
      left; rw [if_pos hk]; exact ⟨hk, rfl⟩
    · rename_i hk
      rw [if_neg hk]
      right
      split at h
      · rename_i hk2
        left; rw [if_pos hk2]
        simp only [Bool.and_eq_true] at h
        exact ⟨hk2, rfl, h.1⟩
      · rename_i hk2
        rw [if_neg hk2]; right
        split at h
        · rename_i hk3
          left; rw [if_pos hk3]; exact ⟨hk3, rfl, h⟩
        · rename_i hk3
          rw [if_neg hk3]; right
          split at h
          · rename_i hk4
            left; rw [if_pos hk4]; exact ⟨hk4, rfl, h⟩
          · rename_i hk4
            rw [if_neg hk4]; right
            split at h
            · rename_i hk5
              left; rw [if_pos hk5]
              simp only [Bool.and_eq_true] at h
              exact ⟨hk5, rfl, h.1⟩
            · rename_i hk5
              rw [if_neg hk5]; right
              split at h
              · rename_i hk6
                rw [if_pos hk6]; exact ⟨hk6, rfl, h⟩
              · cases h
  · cases h
theorem fits_len {r : Rec} (h : fits r = true) : r.dirty.length ≤ 64 ∧ r.txns.length ≤ 64 := by
  unfold fits at h
  simp only [Bool.and_eq_true, decide_eq_true_eq] at h
  exact ⟨h.2.2.1, h.2.2.2.1⟩
theorem parse_head {s : List UInt8} {r : Rec} (h : r.Ok) (T : List UInt8) (hs : s = head r ++ T) : parse s =
    (if r.kind = 2 then { base r with page := g s 17 4, slot := g s 21 2, body := rest s 23 }
    else if r.kind = 6 then { base r with body := rest s 17 }
    else if r.kind = 3 then { base r with next := g s 17 8, body := rest s 25 }
    else if r.kind = 4 then { base r with number := g s 17 8, body := rest s 25 }
    else if r.kind = 8 then { base r with ttx := g s 17 8, tnum := g s 25 8, dirty := getD s (g s 33 1) 34, txns := getT s (g s (34 + 12 * g s 33 1) 1) (35 + 12 * g s 33 1) }
    else base r) := by
  obtain ⟨h1, h2, h3⟩ := head_g r h T
  rw [← hs] at h1 h2 h3
  unfold parse base
  rw [h1, h2, h3]
theorem parse_bytes {r : Rec} (h : r.Ok) (hb : (bytes r).2 = true) (hr : r = has r) : parse (bytes r).1 = r := by
  obtain ⟨hw, hc⟩ := bytes_form hb
  have hl := head_length r
  rcases hc with ⟨hk, e⟩ | ⟨hk, e, ho⟩ | ⟨hk, e, ho⟩ | ⟨hk, e, ho⟩ | ⟨hk, e, ho⟩ | ⟨hk, e, ho⟩
  · rw [parse_head h [] (by rw [e, List.append_nil])]
    have : r = base r := by
      rw [hr]
      unfold has
      rw [if_neg (by omega), if_neg (by omega), if_neg (by omega), if_neg (by omega), if_neg (by omega)]
      rfl
    rw [if_neg (by omega), if_neg (by omega), if_neg (by omega), if_neg (by omega), if_neg (by omega)]
    exact this.symm
  · rw [e, parse_head h (PWord.be 4 r.page ++ PWord.be 2 r.slot ++ r.body) (by simp [List.append_assoc]), if_pos hk]
    have g1 : g (head r ++ PWord.be 4 r.page ++ PWord.be 2 r.slot ++ r.body) 17 4 = r.page := by
      rw [show head r ++ PWord.be 4 r.page ++ PWord.be 2 r.slot ++ r.body = head r ++ PWord.be 4 r.page ++ (PWord.be 2 r.slot ++ r.body) by simp [List.append_assoc]]
      exact g_mid _ _ 4 _ 17 hl.symm (by omega) (by omega) h.2.2.2.1
    have g2 : g (head r ++ PWord.be 4 r.page ++ PWord.be 2 r.slot ++ r.body) 21 2 = r.slot := g_mid _ _ 2 _ 21 (by simp [hl, PWord.be_length]) (by omega) (by omega) h.2.2.2.2.1
    have g3 : rest (head r ++ PWord.be 4 r.page ++ PWord.be 2 r.slot ++ r.body) 23 = r.body := by unfold rest; exact List.drop_left' (by simp [hl, PWord.be_length])
    rw [g1, g2, g3]
    conv => rhs; rw [hr]
    unfold has; rw [if_pos hk]
  · rw [e, parse_head h r.body rfl, if_neg (by omega), if_pos hk]
    have g3 : rest (head r ++ r.body) 17 = r.body := by unfold rest; exact List.drop_left' hl
    rw [g3]
    conv => rhs; rw [hr]
    unfold has; rw [if_neg (by omega), if_pos hk]
  · rw [e, parse_head h (PWord.be 8 r.next ++ r.body) (by simp [List.append_assoc]), if_neg (by omega), if_neg (by omega), if_pos hk]
    have g1 : g (head r ++ PWord.be 8 r.next ++ r.body) 17 8 = r.next := g_mid _ _ 8 _ 17 hl.symm (by omega) (by omega) h.2.2.2.2.2.1
    have g3 : rest (head r ++ PWord.be 8 r.next ++ r.body) 25 = r.body := by unfold rest; exact List.drop_left' (by simp [hl, PWord.be_length])
    rw [g1, g3]
    conv => rhs; rw [hr]
    unfold has; rw [if_neg (by omega), if_neg (by omega), if_pos hk]
  · rw [e, parse_head h (PWord.be 8 r.number ++ r.body) (by simp [List.append_assoc]), if_neg (by omega), if_neg (by omega), if_neg (by omega), if_pos hk]
    have g1 : g (head r ++ PWord.be 8 r.number ++ r.body) 17 8 = r.number := g_mid _ _ 8 _ 17 hl.symm (by omega) (by omega) h.2.2.2.2.2.2.1
    have g3 : rest (head r ++ PWord.be 8 r.number ++ r.body) 25 = r.body := by unfold rest; exact List.drop_left' (by simp [hl, PWord.be_length])
    rw [g1, g3]
    conv => rhs; rw [hr]
    unfold has; rw [if_neg (by omega), if_neg (by omega), if_neg (by omega), if_pos hk]
  · rw [e, parse_head h (tabs r) rfl, if_neg (by omega), if_neg (by omega), if_neg (by omega), if_neg (by omega), if_pos hk]
    obtain ⟨hd, ht⟩ := fits_len ho
    have hdl : r.dirty.length % 256 = r.dirty.length := Nat.mod_eq_of_lt (by omega)
    have htl : r.txns.length % 256 = r.txns.length := Nat.mod_eq_of_lt (by omega)
    obtain ⟨ok8, ok9, ok10, ok11⟩ := h.2.2.2.2.2.2.2
    have hfl := flat_length dirtyB 12 dirtyB_length r.dirty
    have hS : head r ++ tabs r = head r ++ PWord.be 8 r.ttx ++ PWord.be 8 r.tnum ++ PWord.be 1 r.dirty.length ++ r.dirty.flatMap dirtyB ++ PWord.be 1 r.txns.length ++ r.txns.flatMap txnB := by
      unfold tabs; rw [hdl, htl]; simp [List.append_assoc]
    have g1 : g (head r ++ tabs r) 17 8 = r.ttx := by
      rw [hS, show head r ++ PWord.be 8 r.ttx ++ PWord.be 8 r.tnum ++ PWord.be 1 r.dirty.length ++ r.dirty.flatMap dirtyB ++ PWord.be 1 r.txns.length ++ r.txns.flatMap txnB = head r ++ PWord.be 8 r.ttx ++ (PWord.be 8 r.tnum ++ PWord.be 1 r.dirty.length ++ r.dirty.flatMap dirtyB ++ PWord.be 1 r.txns.length ++ r.txns.flatMap txnB) by simp [List.append_assoc]]
      exact g_mid _ _ 8 _ 17 hl.symm (by omega) (by omega) ok10
    have g2 : g (head r ++ tabs r) 25 8 = r.tnum := by
      rw [hS, show head r ++ PWord.be 8 r.ttx ++ PWord.be 8 r.tnum ++ PWord.be 1 r.dirty.length ++ r.dirty.flatMap dirtyB ++ PWord.be 1 r.txns.length ++ r.txns.flatMap txnB = (head r ++ PWord.be 8 r.ttx) ++ PWord.be 8 r.tnum ++ (PWord.be 1 r.dirty.length ++ r.dirty.flatMap dirtyB ++ PWord.be 1 r.txns.length ++ r.txns.flatMap txnB) by simp [List.append_assoc]]
      exact g_mid _ _ 8 _ 25 (by simp [hl, PWord.be_length]) (by omega) (by omega) ok11
    have g3 : g (head r ++ tabs r) 33 1 = r.dirty.length := by
      rw [hS, show head r ++ PWord.be 8 r.ttx ++ PWord.be 8 r.tnum ++ PWord.be 1 r.dirty.length ++ r.dirty.flatMap dirtyB ++ PWord.be 1 r.txns.length ++ r.txns.flatMap txnB = (head r ++ PWord.be 8 r.ttx ++ PWord.be 8 r.tnum) ++ PWord.be 1 r.dirty.length ++ (r.dirty.flatMap dirtyB ++ PWord.be 1 r.txns.length ++ r.txns.flatMap txnB) by simp [List.append_assoc]]
      exact g_mid _ _ 1 _ 33 (by simp [hl, PWord.be_length]) (by omega) (by omega) (by omega)
    have g4 : g (head r ++ tabs r) (34 + 12 * r.dirty.length) 1 = r.txns.length := by
      rw [hS]
      exact g_mid _ _ 1 _ _ (by simp only [List.length_append, hl, PWord.be_length, hfl]) (by omega) (by omega) (by omega)
    have g5 : getD (head r ++ tabs r) r.dirty.length 34 = r.dirty := by
      rw [hS, show head r ++ PWord.be 8 r.ttx ++ PWord.be 8 r.tnum ++ PWord.be 1 r.dirty.length ++ r.dirty.flatMap dirtyB ++ PWord.be 1 r.txns.length ++ r.txns.flatMap txnB = (head r ++ PWord.be 8 r.ttx ++ PWord.be 8 r.tnum ++ PWord.be 1 r.dirty.length) ++ r.dirty.flatMap dirtyB ++ (PWord.be 1 r.txns.length ++ r.txns.flatMap txnB) by simp [List.append_assoc]]
      exact getD_back _ _ _ 34 (by simp [hl, PWord.be_length]) ok8
    have g6 : getT (head r ++ tabs r) r.txns.length (35 + 12 * r.dirty.length) = r.txns := by
      rw [hS]
      have := getT_back r.txns (head r ++ PWord.be 8 r.ttx ++ PWord.be 8 r.tnum ++ PWord.be 1 r.dirty.length ++ r.dirty.flatMap dirtyB ++ PWord.be 1 r.txns.length) [] (35 + 12 * r.dirty.length) (by simp [hl, PWord.be_length, hfl]; omega) ok9
      rw [List.append_nil] at this
      exact this
    rw [g1, g2, g3, g4, g5, g6]
    conv => rhs; rw [hr]
    unfold has; rw [if_neg (by omega), if_neg (by omega), if_neg (by omega), if_neg (by omega), if_pos hk]
theorem may_parts {r : Rec} (h : may r = true) : (bytes r).2 = true ∧ r = has r := by
  unfold may at h
  simpa using h
theorem parse_enc {r : Rec} (h : r.Ok) (hm : may r = true) : parse (enc r) = r := by
  obtain ⟨h1, h2⟩ := may_parts hm
  unfold enc; rw [if_pos hm]
  exact parse_bytes h h1 h2
theorem good_enc {r : Rec} (h : r.Ok) (hm : may r = true) : good (enc r) = true := by
  unfold good; rw [parse_enc h hm, hm]; simp
theorem dec_enc {r : Rec} (h : r.Ok) (hm : may r = true) : dec (enc r) = (r, 0) := by
  unfold dec; rw [good_enc h hm, if_pos rfl, parse_enc h hm]
theorem enc_inj {a b : Rec} (ha : a.Ok) (hb : b.Ok) (ma : may a = true) (mb : may b = true) : enc a = enc b ↔ a = b :=
  ⟨fun h => by rw [← parse_enc ha ma, h, parse_enc hb mb], fun h => by rw [h]⟩
theorem enc_length {r : Rec} (hm : may r = true) : 17 ≤ (enc r).length ∧ (enc r).length ≤ 4096 := by
  obtain ⟨h1, h2⟩ := may_parts hm
  unfold enc; rw [if_pos hm]
  obtain ⟨_, hc⟩ := bytes_form h1
  have hl := head_length r
  have hbo : bodyOk r = true → r.body.length ≤ 3072 := fun h => by unfold bodyOk at h; simp at h; exact h.2
  rcases hc with ⟨hk, e⟩ | ⟨hk, e, ho⟩ | ⟨hk, e, ho⟩ | ⟨hk, e, ho⟩ | ⟨hk, e, ho⟩ | ⟨hk, e, ho⟩
  · rw [e, hl]; omega
  · have := hbo ho; rw [e]; simp [hl, PWord.be_length]; omega
  · have := hbo ho; rw [e]; simp [hl]; omega
  · have := hbo ho; rw [e]; simp [hl, PWord.be_length]; omega
  · have := hbo ho; rw [e]; simp [hl, PWord.be_length]; omega
  · obtain ⟨hd, ht⟩ := fits_len ho
    have h1 := flat_length dirtyB 12 dirtyB_length r.dirty
    have h2 := flat_length txnB 32 txnB_length r.txns
    rw [e]; unfold tabs; simp only [List.length_append, hl, PWord.be_length, h1, h2]; omega
end PRec
namespace PRec
/-! ### each kind has just what it has -/
def chg (p n : Nat) (r : Rec) : Rec :=
  if p = 0 then { r with next := n } else if p = 1 then { r with number := n ||| 1 } else if p = 2 then { r with page := (n ||| 1) % 4294967296 } else if p = 3 then { r with body := [98, 111, 100, 121] } else { r with ttx := n ||| 1 }
def hasP (p : Nat) (r : Rec) : Bool :=
  if p = 0 then decide (r.kind = 3) else if p = 1 then decide (r.kind = 4) else if p = 2 then decide (r.kind = 2) else if p = 3 then decide (r.kind = 2) || (decide (r.kind = 6) || (decide (r.kind = 3) || decide (r.kind = 4))) else decide (r.kind = 8)
theorem or_pos (n : Nat) : 0 < n ||| 1 := by have : 1 ≤ n ||| 1 := Nat.right_le_or; omega
theorem or_odd (n : Nat) : (n ||| 1) % 2 = 1 := by
  have h := Nat.or_mod_two_pow (a := n) (b := 1) (n := 1)
  rw [show (2 : Nat) ^ 1 = 2 by rfl] at h
  rw [h]
  have : n % 2 = 0 ∨ n % 2 = 1 := by omega
  rcases this with e | e <;> rw [e] <;> rfl
theorem or_page (n : Nat) : 0 < (n ||| 1) % 4294967296 := by
  have := or_odd n
  omega
theorem chg_base (p n : Nat) (r : Rec) : (chg p n r).kind = r.kind ∧ (chg p n r).tx = r.tx ∧ (chg p n r).prev = r.prev ∧ (chg p n r).dirty = r.dirty ∧ (chg p n r).txns = r.txns ∧ (chg p n r).tnum = r.tnum ∧ (chg p n r).slot = r.slot := by
  unfold chg
  split
  · simp
  split
  · simp
  split
  · simp
  split
  · simp
  · simp
theorem whose_chg (p n : Nat) (r : Rec) : whose (chg p n r) = whose r := by
  obtain ⟨h1, h2, h3, _⟩ := chg_base p n r
  unfold whose check nobody
  rw [h1, h2, h3]
theorem kinds_law (p n : Nat) (hp : p < 5) (r : Rec) (hm : may r = true) (hne : chg p n r ≠ r) : may (chg p n r) = hasP p r := by
  obtain ⟨hb, hr⟩ := may_parts hm
  obtain ⟨hw, hc⟩ := bytes_form hb
  have hwx := whose_chg p n r
  rw [hw] at hwx
  obtain ⟨kind, tx, prev, page, slot, next, number, body, dirty, txns, ttx, tnum⟩ := r
  have hcase : p = 0 ∨ p = 1 ∨ p = 2 ∨ p = 3 ∨ p = 4 := by omega
  have hop := or_pos n
  have hopg := or_page n
  dsimp only at hc
  unfold bytes at hb
  rw [if_pos hw] at hb
  unfold may bytes
  rw [if_pos hwx]
  rcases hcase with rfl | rfl | rfl | rfl | rfl
  all_goals (
    rcases hc with ⟨hk, _⟩ | ⟨hk, _, ho⟩ | ⟨hk, _, ho⟩ | ⟨hk, _, ho⟩ | ⟨hk, _, ho⟩ | ⟨hk, _, ho⟩
    all_goals first
      | (subst hk; simp [has, base] at hr; simp [chg, hasP, has, base, bodyOk, fits] at hne hb ho ⊢; simp_all; done)
      | (rcases hk with rfl | rfl | rfl <;> simp [has, base] at hr <;> simp [chg, hasP, has, base, bodyOk, fits] at hne hb ⊢ <;> simp_all; done)
      | (subst hk; simp [has, base] at hr; simp [chg, hasP, has, base, bodyOk, fits] at hne hb ho ⊢; simp_all; omega)
      | skip)
end PRec
