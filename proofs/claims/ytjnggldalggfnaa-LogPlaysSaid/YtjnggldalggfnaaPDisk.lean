/-
  Plain: a disk: sectors that are sure, writes that are loose, a fuse. No program in sight.
-/
import Derived.Test.YtjnggldalggfnaaPlain
namespace PDsk
structure Dsk where
  sure : List (List UInt8)
  loose : List (Nat × List UInt8)
  fuse : Int
def Dsk.Ok (D : Dsk) : Prop := 1 ≤ D.sure.length ∧ D.sure.length ≤ 16384 ∧ (∀ x ∈ D.sure, x.length = 128) ∧ (∀ p ∈ D.loose, p.1 < D.sure.length ∧ p.2.length = 128) ∧ -1 ≤ D.fuse ∧ D.fuse ≤ 9223372036854775807
def zero : List UInt8 := List.replicate 128 0
def new (n : Nat) : Dsk := ⟨List.replicate n zero, [], -1⟩
def burn (f : Int) : Int := if 0 < f then f - 1 else f
def keep (s : List (List UInt8)) (p : Nat × List UInt8) : List (List UInt8) := s.set p.1 p.2
def may (D : Dsk) : Int := if D.fuse = 0 then 40 else 0
def write (D : Dsk) (k : Int) (x : List UInt8) : Dsk × Int :=
  if D.fuse = 0 then (D, 40)
  else if k < 0 ∨ (D.sure.length : Int) ≤ k ∨ x.length ≠ 128 then (D, 2)
  else ({ D with loose := D.loose ++ [(k.toNat, x)], fuse := burn D.fuse }, 0)
def synced (D : Dsk) : Dsk := { sure := D.loose.foldl keep D.sure, loose := [], fuse := burn D.fuse }
def sync (D : Dsk) : Dsk × Int := if D.fuse = 0 then (D, 40) else (synced D, 0)
def now (D : Dsk) (k : Nat) : List UInt8 := match D.loose.reverse.find? (fun p => p.1 == k) with | some p => p.2 | none => D.sure.getD k []
def read (D : Dsk) (k : Int) : List UInt8 × Int :=
  if D.fuse = 0 then ([], 40)
  else if k < 0 ∨ (D.sure.length : Int) ≤ k then ([], 2)
  else (now D k.toNat, 0)
def setFuse (D : Dsk) (n : Int) : Dsk × Int := if n < 0 then (D, 2) else ({ D with fuse := n }, 0)
def kept (l : List (Nat × List UInt8)) (ks : List Bool) : List (Nat × List UInt8) := ((l.zip ks).filter (·.2)).map (·.1)
def crash (D : Dsk) (ks : List Bool) : Dsk := { sure := (kept D.loose ks).foldl keep D.sure, loose := [], fuse := -1 }

theorem keep_length (s : List (List UInt8)) (p : Nat × List UInt8) : (keep s p).length = s.length := by simp [keep]
theorem fold_length (l : List (Nat × List UInt8)) : ∀ s, (l.foldl keep s).length = s.length := by
  induction l with
  | nil => intro s; rfl
  | cons p l ih => intro s; rw [List.foldl_cons, ih, keep_length]
theorem keep_128 {s : List (List UInt8)} {p : Nat × List UInt8} (h : ∀ x ∈ s, x.length = 128) (hp : p.2.length = 128) : ∀ x ∈ keep s p, x.length = 128 := by
  intro x hx
  rcases List.mem_or_eq_of_mem_set hx with h1 | h1
  · exact h x h1
  · rw [h1]; exact hp
theorem fold_128 (l : List (Nat × List UInt8)) : ∀ s : List (List UInt8), (∀ x ∈ s, x.length = 128) → (∀ p ∈ l, p.2.length = 128) → ∀ x ∈ l.foldl keep s, x.length = 128 := by
  induction l with
  | nil => intro s h _; exact h
  | cons p l ih => intro s h hl; exact ih _ (keep_128 h (hl p (by simp))) (fun q hq => hl q (by simp [hq]))
theorem burn_ok {f : Int} (h1 : -1 ≤ f) (h2 : f ≤ 9223372036854775807) : -1 ≤ burn f ∧ burn f ≤ 9223372036854775807 := by unfold burn; split <;> omega
theorem new_ok (n : Nat) (h1 : 1 ≤ n) (h2 : n ≤ 16384) : (new n).Ok := by
  refine ⟨by simpa [new] using h1, by simpa [new] using h2, ?_, by simp [new], by simp [new], by simp [new]⟩
  intro x hx
  obtain ⟨_, rfl⟩ := List.mem_replicate.1 hx
  simp [zero]
theorem write_ok {D : Dsk} (h : D.Ok) (k : Int) (x : List UInt8) : (write D k x).1.Ok := by
  unfold write
  split
  · exact h
  split
  · exact h
  obtain ⟨h1, h2, h3, h4, h5, h6⟩ := h
  have := burn_ok h5 h6
  refine ⟨h1, h2, h3, ?_, this.1, this.2⟩
  intro p hp
  rcases List.mem_append.1 hp with hp | hp
  · exact h4 p hp
  · rw [List.mem_singleton.1 hp]; exact ⟨by show k.toNat < D.sure.length; omega, by show x.length = 128; omega⟩
theorem synced_ok {D : Dsk} (h : D.Ok) : (synced D).Ok := by
  obtain ⟨h1, h2, h3, h4, h5, h6⟩ := h
  have := burn_ok h5 h6
  exact ⟨by show 1 ≤ (D.loose.foldl keep D.sure).length; rw [fold_length]; exact h1, by show (D.loose.foldl keep D.sure).length ≤ 16384; rw [fold_length]; exact h2,
    fold_128 _ _ h3 (fun p hp => (h4 p hp).2), by simp [synced], this.1, this.2⟩
theorem kept_mem {l : List (Nat × List UInt8)} {ks : List Bool} {p : Nat × List UInt8} (h : p ∈ kept l ks) : p ∈ l := by
  unfold kept at h
  obtain ⟨q, hq, rfl⟩ := List.mem_map.1 h
  exact (List.of_mem_zip (List.mem_filter.1 hq).1).1
theorem crash_ok {D : Dsk} (h : D.Ok) (ks : List Bool) : (crash D ks).Ok := by
  obtain ⟨h1, h2, h3, h4, h5, h6⟩ := h
  exact ⟨by show 1 ≤ ((kept D.loose ks).foldl keep D.sure).length; rw [fold_length]; exact h1, by show ((kept D.loose ks).foldl keep D.sure).length ≤ 16384; rw [fold_length]; exact h2,
    fold_128 _ _ h3 (fun p hp => (h4 p (kept_mem hp)).2), by simp [crash], by simp [crash], by simp [crash]⟩
end PDsk
