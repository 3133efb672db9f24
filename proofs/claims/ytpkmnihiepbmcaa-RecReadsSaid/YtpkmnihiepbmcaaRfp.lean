/-
  Plain: the document's May is the program's. No program in sight.
-/
import Derived.Test.YtpkmnihiepbmcaaPRec
namespace PRec
def plainB (r : Rec) : Bool := decide (r.page = 0 ∧ r.slot = 0 ∧ r.next = 0 ∧ r.number = 0 ∧ r.body = [] ∧ r.dirty = [] ∧ r.txns = [] ∧ r.ttx = 0 ∧ r.tnum = 0)
def okK (r : Rec) : Bool :=
  if r.kind = 1 ∨ r.kind = 5 ∨ r.kind = 7 then true
  else if r.kind = 2 then bodyOk r && !(decide (r.page = 0) && decide (r.slot ≠ 0))
  else if r.kind = 6 then bodyOk r
  else if r.kind = 3 then bodyOk r
  else if r.kind = 4 then bodyOk r && decide (r.number ≠ 0)
  else if r.kind = 8 then fits r
  else false
def strip (r : Rec) : Rec :=
  if r.kind = 2 then { r with body := [], page := 0, slot := 0 }
  else if r.kind = 6 then { r with body := [] }
  else if r.kind = 3 then { r with body := [], next := 0 }
  else if r.kind = 4 then { r with body := [], number := 0 }
  else if r.kind = 8 then { r with dirty := [], txns := [], ttx := 0, tnum := 0 }
  else r
def rmay (r : Rec) : Bool := okK r && (if r.kind = 7 ∨ r.kind = 8 then plainB (strip r) && (decide (r.tx = 0) && decide (r.prev = 0)) else if r.kind = 6 ∧ r.tx = 0 then plainB (strip r) && decide (r.prev = 0) else plainB (strip r) && decide (0 < r.tx))
theorem rmay_eq (r : Rec) : rmay r = may r := by
  obtain ⟨kind, tx, prev, page, slot, next, number, body, dirty, txns, ttx, tnum⟩ := r
  have hk : kind = 1 ∨ kind = 5 ∨ kind = 7 ∨ kind = 2 ∨ kind = 6 ∨ kind = 3 ∨ kind = 4 ∨ kind = 8 ∨ (kind ≠ 1 ∧ kind ≠ 5 ∧ kind ≠ 7 ∧ kind ≠ 2 ∧ kind ≠ 6 ∧ kind ≠ 3 ∧ kind ≠ 4 ∧ kind ≠ 8) := by omega
  by_cases ht : tx = 0 <;> by_cases hp : prev = 0
  all_goals rcases hk with rfl | rfl | rfl | rfl | rfl | rfl | rfl | rfl | ⟨h1, h5, h7, h2, h6, h3, h4, h8⟩
  all_goals (rw [Bool.eq_iff_iff]; simp_all [rmay, okK, strip, plainB, may, bytes, whose, check, nobody, has, base, bodyOk])
  all_goals try omega
  all_goals try (have h0 : 0 < tx := by omega)
  all_goals try (simp_all; done)
  all_goals try (constructor <;> (intro h; simp_all) <;> try omega)
end PRec
