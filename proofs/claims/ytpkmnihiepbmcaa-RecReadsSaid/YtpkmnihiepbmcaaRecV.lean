/-
  A log's record as a value.
-/
import Derived.Test.YtpkmnihiepbmcaaPRec
import Derived.Test.YtpkmnihiepbmcaaRdS
import Derived.Test.YtpkmnihiepbmcaaWord
import Derived.Lib.Hide
namespace Go.Proofs.Ytpkmnihiepbmcaa
open Go.RowKit
open PRec (Rec Drt Atx)
def drtV (d : Drt) : List Value := [.int .u32 d.page, .int .u64 d.since]
def actV (x : Atx) : List Value := [.int .u64 x.tx, .int .u64 x.first, .int .u64 x.last, .int .u64 x.next]
def dirtyV (l : List Drt) : List Value := l.flatMap drtV
def txnsV (l : List Atx) : List Value := l.flatMap actV
def rv (r : Rec) (vd vt : Value) : Value := .agg #[.int .u8 r.kind, .int .u64 r.tx, .int .u64 r.prev, .int .u32 r.page, .int .u16 r.slot, .int .u64 r.next, .int .u64 r.number, .string ⟨r.body.toArray⟩, vd, vt, .int .u64 r.ttx, .int .u64 r.tnum]
def RecIn (w : World) (r : Rec) (vd vt : Value) : Prop := RdS w 2 vd r.dirty.length (dirtyV r.dirty) ∧ RdS w 4 vt r.txns.length (txnsV r.txns)
theorem RecIn.step {w w' : World} {r : Rec} {vd vt : Value} (h : RecIn w r vd vt) (hb : Below w.heap.size w w') : RecIn w' r vd vt := ⟨h.1.step hb, h.2.step hb⟩
theorem dirtyV_at : ∀ (l : List Drt) (i : Nat) (h : i < l.length), (dirtyV l)[i * 2]? = some (.int .u32 l[i].page) ∧ (dirtyV l)[i * 2 + 1]? = some (.int .u64 l[i].since)
  | d :: l, 0, _ => ⟨rfl, rfl⟩
  | d :: l, i + 1, h => by
    have := dirtyV_at l i (by simpa using h)
    have e : dirtyV (d :: l) = .int .u32 d.page :: .int .u64 d.since :: dirtyV l := rfl
    rw [e, show (i + 1) * 2 = i * 2 + 1 + 1 by omega]
    simpa using this
theorem txnsV_at : ∀ (l : List Atx) (i : Nat) (h : i < l.length), (txnsV l)[i * 4]? = some (.int .u64 l[i].tx) ∧ (txnsV l)[i * 4 + 1]? = some (.int .u64 l[i].first) ∧ (txnsV l)[i * 4 + 2]? = some (.int .u64 l[i].last) ∧ (txnsV l)[i * 4 + 3]? = some (.int .u64 l[i].next)
  | d :: l, 0, _ => ⟨rfl, rfl, rfl, rfl⟩
  | d :: l, i + 1, h => by
    have := txnsV_at l i (by simpa using h)
    have e : txnsV (d :: l) = .int .u64 d.tx :: .int .u64 d.first :: .int .u64 d.last :: .int .u64 d.next :: txnsV l := rfl
    rw [e, show (i + 1) * 4 = i * 4 + 1 + 1 + 1 + 1 by omega]
    simpa using this
/-- one row's cells of the first table -/
theorem dirty_cells {w : World} {p : Option Addr} {c : Nat} {l : List Drt} (h : RdS w 2 (.slice p l.length c) l.length (dirtyV l)) {i : Nat} (hi : i < l.length) :
    ∃ g off, p = some ⟨g, off, none⟩ ∧ g < w.heap.size ∧ w.cell? ⟨g, off + i * 2, none⟩ = some (.int .u32 l[i].page) ∧ w.cell? ⟨g, off + i * 2 + 1, none⟩ = some (.int .u64 l[i].since) := by
  obtain ⟨g, off, e1, e2, e3⟩ := h.at (by omega)
  obtain ⟨a1, a2⟩ := dirtyV_at l i hi
  obtain ⟨b1, c1⟩ := List.getElem?_eq_some_iff.1 a1
  obtain ⟨b2, c2⟩ := List.getElem?_eq_some_iff.1 a2
  exact ⟨g, off, e1, e2, by rw [e3 _ b1, c1], by rw [Nat.add_assoc, e3 _ b2, c2]⟩
theorem txns_cells {w : World} {p : Option Addr} {c : Nat} {l : List Atx} (h : RdS w 4 (.slice p l.length c) l.length (txnsV l)) {i : Nat} (hi : i < l.length) :
    ∃ g off, p = some ⟨g, off, none⟩ ∧ g < w.heap.size ∧ w.cell? ⟨g, off + i * 4, none⟩ = some (.int .u64 l[i].tx) ∧ w.cell? ⟨g, off + i * 4 + 1, none⟩ = some (.int .u64 l[i].first) ∧ w.cell? ⟨g, off + i * 4 + 2, none⟩ = some (.int .u64 l[i].last) ∧ w.cell? ⟨g, off + i * 4 + 3, none⟩ = some (.int .u64 l[i].next) := by
  obtain ⟨g, off, e1, e2, e3⟩ := h.at (by omega)
  obtain ⟨a1, a2, a3, a4⟩ := txnsV_at l i hi
  obtain ⟨b1, c1⟩ := List.getElem?_eq_some_iff.1 a1
  obtain ⟨b2, c2⟩ := List.getElem?_eq_some_iff.1 a2
  obtain ⟨b3, c3⟩ := List.getElem?_eq_some_iff.1 a3
  obtain ⟨b4, c4⟩ := List.getElem?_eq_some_iff.1 a4
  exact ⟨g, off, e1, e2, by rw [e3 _ b1, c1], by rw [Nat.add_assoc, e3 _ b2, c2], by rw [Nat.add_assoc, e3 _ b3, c3], by rw [Nat.add_assoc, e3 _ b4, c4]⟩
theorem drtV_one (l : List Drt) : ∀ u ∈ dirtyV l, u.oneCell' = true := by
  intro u hu
  obtain ⟨d, _, hd⟩ := List.mem_flatMap.1 hu
  simp [drtV] at hd
  rcases hd with rfl | rfl <;> rfl
theorem actV_one (l : List Atx) : ∀ u ∈ txnsV l, u.oneCell' = true := by
  intro u hu
  obtain ⟨d, _, hd⟩ := List.mem_flatMap.1 hu
  simp [actV] at hd
  rcases hd with rfl | rfl | rfl | rfl <;> rfl
end Go.Proofs.Ytpkmnihiepbmcaa
