/-
  A disk's Sync and Crash: writes that become sure.
-/
import Derived.Test.YtjnggldalggfnaaDisk3
namespace Go.Proofs.Ytjnggldalggfnaa
open Go.RowKit
/-! ### lists of lists of one length -/
theorem flat_len {α β : Type} (f : α → List β) (m : Nat) : ∀ l : List α, (∀ x ∈ l, (f x).length = m) → (l.flatMap f).length = l.length * m
  | [], _ => by simp
  | x :: l, h => by rw [List.flatMap_cons, List.length_append, flat_len f m l (fun y hy => h y (by simp [hy])), h x (by simp), List.length_cons, Nat.succ_mul, Nat.add_comm]
theorem flat_part {α β : Type} (f : α → List β) (m : Nat) : ∀ (l : List α) (i : Nat) (hi : i < l.length), (∀ x ∈ l, (f x).length = m) → ((l.flatMap f).drop (i * m)).take m = f l[i]
  | x :: l, 0, _, h => by rw [Nat.zero_mul, List.drop_zero, List.flatMap_cons, List.take_left' (h x (by simp))]; rfl
  | x :: l, i + 1, hi, h => by
    have hx := h x (by simp)
    rw [List.flatMap_cons, Nat.succ_mul, Nat.add_comm (i * m) m, ← List.drop_drop, List.drop_left' hx]
    exact flat_part f m l i (by simpa using hi) (fun y hy => h y (by simp [hy]))
theorem flat_set {α β : Type} (f : α → List β) (m : Nat) : ∀ (l : List α) (i : Nat) (x : α), i < l.length → (∀ x ∈ l, (f x).length = m) → (l.set i x).flatMap f = (l.flatMap f).take (i * m) ++ f x ++ (l.flatMap f).drop (i * m + m)
  | y :: l, 0, x, _, h => by
    rw [Nat.zero_mul, List.take_zero, List.nil_append, Nat.zero_add, List.set_cons_zero, List.flatMap_cons, List.flatMap_cons, List.drop_left' (h y (by simp))]
  | y :: l, i + 1, x, hi, h => by
    have hy := h y (by simp)
    rw [List.set_cons_succ, List.flatMap_cons, List.flatMap_cons, flat_set f m l i x (by simpa using hi) (fun z hz => h z (by simp [hz])), Nat.succ_mul]
    have e1 : (f y ++ l.flatMap f).take (i * m + m) = f y ++ (l.flatMap f).take (i * m) := by
      rw [Nat.add_comm (i * m) m, List.take_append, hy]; simp [List.take_of_length_le, hy]
    have e2 : (f y ++ l.flatMap f).drop (i * m + m + m) = (l.flatMap f).drop (i * m + m) := by
      rw [show i * m + m + m = m + (i * m + m) by omega, ← List.drop_drop, List.drop_left' hy]
    rw [e1, e2]
    simp only [List.append_assoc]
theorem get_part {β : Type} {l : List β} {a m : Nat} {c : List β} (h : (l.drop a).take m = c) {j : Nat} {v : β} (hv : c[j]? = some v) : l[a + j]? = some v := by
  rw [← h, List.getElem?_take] at hv
  split at hv
  · rw [List.getElem?_drop] at hv; exact hv
  · cases hv
/-! ### ranges of a slice's cells -/
theorem Sl.rangeAt {w : World} {base : Nat} {e : TypeId} {size n : Nat} {xs : List Value} {g off c : Nat} (h : Sl w base e size (.slice (some ⟨g, off, none⟩) n c) n xs) {a m : Nat} {cs : List Value} (hc : (xs.drop a).take m = cs) : w.rangeAt g (off + a) cs := by
  intro j v hv
  have := get_part hc hv
  obtain ⟨hlt, he⟩ := List.getElem?_eq_some_iff.1 this
  rw [Nat.add_assoc, ← he]
  exact h.cell hlt
theorem Sl.there {w : World} {base : Nat} {e : TypeId} {size n : Nat} {xs : List Value} {g off c : Nat} (h : Sl w base e size (.slice (some ⟨g, off, none⟩) n c) n xs) {a m : Nat} (hm : a + m ≤ n * size) : w.there g (off + a) m := by
  intro j hj
  have hl := h.1
  refine ⟨?_, ?_⟩
  · rw [Nat.add_assoc, h.cell (j := a + j) (by omega)]; rfl
  · rw [Nat.add_assoc]; exact h.unshut (by omega)
theorem Sl.setCells {base : Nat} {e : TypeId} {size n : Nat} {g off c : Nat} : ∀ (vs : List Value) (j : Nat) (xs : List Value) (w : World), Sl w base e size (.slice (some ⟨g, off, none⟩) n c) n xs → j + vs.length ≤ n * size →
    Sl (w.setCells g (off + j) vs) base e size (.slice (some ⟨g, off, none⟩) n c) n (xs.take j ++ vs ++ xs.drop (j + vs.length))
  | [], j, xs, w, h, _ => by simpa [World.setCells] using h
  | v :: vs, j, xs, w, h, hj => by
    rw [List.length_cons] at hj ⊢
    have h1 := h.set (j := j) (by omega) v
    have h2 := Sl.setCells vs (j + 1) _ _ h1 (by omega)
    rw [World.setCells, Nat.add_assoc off j 1]
    have := list_seg_step xs j v vs (by rw [h.1]; omega)
    rw [this] at h2
    exact h2
theorem setCells_other (g : Nat) : ∀ (vs : List Value) (o : Nat) (w : World) (k : Nat), k ≠ g → (w.setCells g o vs).heap[k]? = w.heap[k]?
  | [], _, _, _, _ => rfl
  | v :: vs, o, w, k, h => by rw [World.setCells, setCells_other g vs (o + 1) _ k h]; exact Below.heap_setCell _ _ _ _ h
theorem setCells_size (g : Nat) : ∀ (vs : List Value) (o : Nat) (w : World), (w.setCells g o vs).heap.size = w.heap.size
  | [], _, _ => rfl
  | v :: vs, o, w => by rw [World.setCells, setCells_size g vs (o + 1) _]; simp
theorem setCells_os (g : Nat) : ∀ (vs : List Value) (o : Nat) (w : World), (w.setCells g o vs).os = w.os ∧ (w.setCells g o vs).tape = w.tape ∧ (w.setCells g o vs).output = w.output
  | [], _, _ => ⟨rfl, rfl, rfl⟩
  | v :: vs, o, w => by rw [World.setCells]; exact setCells_os g vs (o + 1) _
theorem Turns.setCells {own : List Nat} {A B : World} (h : Turns own A B) {g o : Nat} (hg : g ∈ own) (vs : List Value) : Turns own A (B.setCells g o vs) := by
  obtain ⟨h1, h2, h3⟩ := setCells_os g vs o B
  exact ⟨h1.trans h.os, h2.trans h.tape, h3.trans h.output, by rw [setCells_size]; exact h.size, fun k hk hn => (setCells_other g vs o B k (fun e => hn (e ▸ hg))).trans (h.block k hk hn)⟩
/-! ### a sector becomes sure -/
theorem IsDisk.keepSec {w : World} {b gs os cs : Nat} {D : PDsk.Dsk} {own : List Nat} (h : IsDisk w b D own) (hc : w.cell? ⟨b, 0, none⟩ = some (.slice (some ⟨gs, os, none⟩) D.sure.length cs)) {k : Nat} {x : List UInt8} (hk : k < D.sure.length) (hx : x.length = 128) :
    IsDisk (w.setCells gs (os + k * 128) (bytesV x)) b { D with sure := PDsk.keep D.sure (k, x) } own ∧ gs ∈ own := by
  obtain ⟨hok, gs', os', cs', vl, hb, hs, hl, e1, e2, e3, rfl⟩ := h
  have hcc : w.cell? ⟨b, 0, none⟩ = some (.slice (some ⟨gs', os', none⟩) D.sure.length cs') := by simp [World.cell?, hb]
  rw [hcc] at hc
  simp at hc
  obtain ⟨⟨rfl, rfl⟩, rfl⟩ := hc
  have hl128 : ∀ x ∈ D.sure, (bytesV x).length = 128 := fun y hy => by rw [bytesV_length]; exact hok.2.2.1 y hy
  refine ⟨⟨⟨?_, ?_, PDsk.keep_128 hok.2.2.1 hx, ?_, hok.2.2.2.2⟩, gs', os', cs', vl, ?_, ?_, ?_, e1, e2, e3, rfl⟩, by simp⟩
  · show 1 ≤ (PDsk.keep D.sure (k, x)).length; rw [PDsk.keep_length]; exact hok.1
  · show (PDsk.keep D.sure (k, x)).length ≤ 16384; rw [PDsk.keep_length]; exact hok.2.1
  · show ∀ p ∈ D.loose, p.1 < (PDsk.keep D.sure (k, x)).length ∧ p.2.length = 128; rw [PDsk.keep_length]; exact hok.2.2.2.1
  · show _ = some (Obj.cells #[.slice (some ⟨gs', os', none⟩) (PDsk.keep D.sure (k, x)).length cs', vl, .int .i64 D.fuse] _ _)
    rw [PDsk.keep_length, setCells_other _ _ _ _ _ (fun e => e1 e.symm)]; exact hb
  · show Sl _ 0 _ 128 (.slice (some ⟨gs', os', none⟩) (PDsk.keep D.sure (k, x)).length cs') (PDsk.keep D.sure (k, x)).length (sureV (PDsk.keep D.sure (k, x)))
    rw [PDsk.keep_length]
    have h1 := Sl.setCells (bytesV x) (k * 128) _ _ hs (by rw [bytesV_length, hx]; omega)
    rw [bytesV_length, hx] at h1
    have h2 := flat_set bytesV 128 D.sure k x hk hl128
    unfold sureV at h1 ⊢
    rw [show PDsk.keep D.sure (k, x) = D.sure.set k x from rfl, h2]
    exact h1
  · exact hl.keep fun j e => setCells_other _ _ _ _ _ (fun e' => e3 (by unfold ownsOf; rw [e, e']; simp))
end Go.Proofs.Ytjnggldalggfnaa
