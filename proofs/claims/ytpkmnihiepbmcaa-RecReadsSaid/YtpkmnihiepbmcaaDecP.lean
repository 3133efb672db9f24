/-
  Records: Decode of the program: laws for the two lists.
-/
import Derived.Test.YtpkmnihiepbmcaaDec2
namespace Go.Proofs.Ytpkmnihiepbmcaa
open Go.RowKit
open PRec (Rec Drt Atx)
theorem elem_drt : ElemT Try.prog 27 52 2 16 := ElemT.mk' (z := .agg #[.int .u32 0, .int .u64 0]) Try.underlying27 (by kernel_rfl) rfl (by decide)
theorem elem_act : ElemT Try.prog 28 54 4 32 := ElemT.mk' (z := .agg #[.int .u64 0, .int .u64 0, .int .u64 0, .int .u64 0]) Try.underlying28 (by kernel_rfl) rfl (by decide)
theorem St.drew {w0 : World} {s : ByteArray} {W : World} {p : Nat} {b : Bool} (h : St w0 s W p b) : St w0 s W.drew p b := ⟨h.1.drew, h.2⟩
theorem sl_nx {n B : Nat} {W W' : World} {e : TypeId} {size m : Nat} {v : Value} {xs : List Value} (h : Sl W B e size v m xs) (hB : n + 1 + 1 + 1 < B) (hx : Nx n W W') : Sl W' B e size v m xs :=
  h.keep fun k hk => hx.2.2.2.2 k (h.lt k hk).2 (by have := (h.lt k hk).1; omega) (by have := (h.lt k hk).1; omega)
theorem new_cells (W : World) (xs : List Value) (t : TypeId) : ∀ j u, xs[j]? = some u → (W.alloc (.cells xs.toArray t)).cell? ((⟨W.heap.size, 0, none⟩ : Addr).add j) = some u := by
  intro j u hu
  rw [Addr.add_mid, cell_of_row _ W.heap.size (0 + j) xs.toArray t (0, 0) (heap_alloc_new W _)]
  simpa using hu
theorem grown_block {W W' : World} {row : Option Nat} (hg : W.grownBy W' row) {g : Nat} {o : Obj} (hr : ∀ k, row = some k → k ≠ g) (h : W.heap[g]? = some o) : W'.heap[g]? = some o :=
  (hg.block g (Array.getElem?_eq_some_iff.1 h).1 (fun e => hr g e.symm rfl)).trans h
/-- behind an append to a list and its store into the record -/
theorem push_end {w w3 w5 : World} {s : ByteArray} {gr B p n m size j : Nat} {b : Bool} {e : TypeId} {v v' : Value} {xs ys : List Value} {A : Array Value} {o : Obj} (hgr : w.heap.size + 1 + 1 + 1 < gr) (hB : gr < B)
    (HS : St w s w3 p b) (HR : w3.heap[gr]? = some (.cells A 32 (0, 0))) (HSL : Sl w3 B e size v n xs) (hl : Sl w5 B e size v' m ys) (hg : (w3.alloc o).grownBy w5 v.ownBlock) :
    w5.heap[gr]? = some (.cells A 32 (0, 0)) ∧ St w s (w5.setCell ⟨gr, j, none⟩ v') p b ∧ (w5.setCell ⟨gr, j, none⟩ v').heap[gr]? = some (.cells (A.setIfInBounds j v') 32 (0, 0)) ∧ Sl (w5.setCell ⟨gr, j, none⟩ v') B e size v' m ys := by
  have hv : ∀ k, v.ownBlock = some k → B ≤ k := fun k hk => (HSL.lt k hk).1
  have h5 : w5.heap[gr]? = some (.cells A 32 (0, 0)) := grown_block hg (fun k e => by have := hv k e; omega) ((Below.heap_alloc _ _ _ (Array.getElem?_eq_some_iff.1 HR).1).trans HR)
  have hs5 : St w s w5 p b := (HS.below ((Below.refl w3.heap.size w3).alloc (Nat.le_refl _) o)).grown hg (fun k e => by have := hv k e; omega)
  refine ⟨h5, hs5.set hgr v', set12 h5 v', hl.keep fun k hk => Below.heap_setCell _ _ _ _ (by have := (hl.lt k hk).1; simp; omega)⟩
/-- .. the other list is as it was -/
theorem push_other {w3 w5 : World} {gr B n m size size' j : Nat} {e e' : TypeId} {v v' u : Value} {xs zs : List Value} {o : Obj} (_ : gr < B)
    (HSL : Sl w3 B e size v n xs) (hg : (w3.alloc o).grownBy w5 v.ownBlock) (hu : Sl w3 (gr + 1) e' size' u m zs) (hlt : ∀ k, u.ownBlock = some k → k < B) : Sl (w5.setCell ⟨gr, j, none⟩ v') (gr + 1) e' size' u m zs := by
  have h3 : Sl (w3.alloc o) (gr + 1) e' size' u m zs := hu.alloc o
  have h5 : Sl w5 (gr + 1) e' size' u m zs := h3.keep fun k hk => hg.block k (h3.lt k hk).2 (fun e => by have h1 := (HSL.lt k e.symm).1; have h2 := hlt k hk; omega)
  exact h5.keep fun k hk => Below.heap_setCell _ _ _ _ (by have := (h5.lt k hk).1; simp; omega)
theorem dirtyV_snoc (l : List Drt) (d : Drt) : dirtyV (l ++ [d]) = dirtyV l ++ drtV d := by simp [dirtyV]
theorem txnsV_snoc (l : List Atx) (d : Atx) : txnsV (l ++ [d]) = txnsV l ++ actV d := by simp [txnsV]
def bs (l : List UInt8) : Rec := ⟨PRec.g l 0 1, PRec.g l 1 8, PRec.g l 9 8, 0, 0, 0, 0, [], [], [], 0, 0⟩
/-- what is read ahead of the body -/
def pre (l : List UInt8) : Rec := { PRec.parse l with body := [] }
theorem pre_2 (l : List UInt8) (h : PRec.g l 0 1 = 2) : pre l = { bs l with page := PRec.g l 17 4, slot := PRec.g l 21 2 } ∧ PRec.parse l = { pre l with body := l.drop 23 } ∧ PRec.endp l = 23 := by
  unfold pre PRec.parse PRec.endp bs
  simp [h, PRec.rest]
theorem pre_6 (l : List UInt8) (h : PRec.g l 0 1 = 6) : pre l = bs l ∧ PRec.parse l = { pre l with body := l.drop 17 } ∧ PRec.endp l = 17 := by
  unfold pre PRec.parse PRec.endp bs
  simp [h, PRec.rest]
theorem pre_3 (l : List UInt8) (h : PRec.g l 0 1 = 3) : pre l = { bs l with next := PRec.g l 17 8 } ∧ PRec.parse l = { pre l with body := l.drop 25 } ∧ PRec.endp l = 25 := by
  unfold pre PRec.parse PRec.endp bs
  simp [h, PRec.rest]
theorem pre_4 (l : List UInt8) (h : PRec.g l 0 1 = 4) : pre l = { bs l with number := PRec.g l 17 8 } ∧ PRec.parse l = { pre l with body := l.drop 25 } ∧ PRec.endp l = 25 := by
  unfold pre PRec.parse PRec.endp bs
  simp [h, PRec.rest]
theorem pre_8 (l : List UInt8) (h : PRec.g l 0 1 = 8) : pre l = { bs l with ttx := PRec.g l 17 8, tnum := PRec.g l 25 8, dirty := PRec.getD l (PRec.g l 33 1) 34, txns := PRec.getT l (PRec.g l (34 + 12 * PRec.g l 33 1) 1) (35 + 12 * PRec.g l 33 1) } ∧ PRec.parse l = pre l ∧ PRec.endp l = 35 + 12 * PRec.g l 33 1 + 32 * PRec.g l (34 + 12 * PRec.g l 33 1) 1 := by
  unfold pre PRec.parse PRec.endp bs
  simp [h]
theorem pre_0 (l : List UInt8) (h2 : PRec.g l 0 1 ≠ 2) (h6 : PRec.g l 0 1 ≠ 6) (h3 : PRec.g l 0 1 ≠ 3) (h4 : PRec.g l 0 1 ≠ 4) (h8 : PRec.g l 0 1 ≠ 8) : pre l = bs l ∧ PRec.parse l = pre l ∧ PRec.endp l = 17 := by
  unfold pre PRec.parse PRec.endp bs
  simp [h2, h6, h3, h4, h8]
theorem pre_kind (l : List UInt8) : (pre l).kind = PRec.g l 0 1 := (PRec.parse_kind l).1
def nils : Value := .slice none 0 0
theorem sl_formD {w : World} {base : Nat} {e : TypeId} {size n : Nat} {v : Value} {xs : List Value} (h : Sl w base e size v n xs) : ∃ p c, v = .slice p n c := by
  rcases h.2 with ⟨rfl, rfl⟩ | ⟨g, off, cap, cur, fz, rfl, _⟩
  · exact ⟨none, 0, rfl⟩
  · exact ⟨_, _, rfl⟩
theorem below_rowD {B : Nat} {a w : World} (h : Below B a w) {g : Nat} (hg : B ≤ g) (cs : Array Value) : Below B a (w.setRow g cs) :=
  h.trans ⟨rfl, rfl, rfl, by rw [size_setRow]; exact Nat.le_refl _, fun k hk => setRow_ne w g cs k (by omega)⟩
/-- a record's two lists, in blocks from B on -/
def RecS (w : World) (B : Nat) (r : Rec) (vd vt : Value) : Prop := Sl w B 52 2 vd r.dirty.length (dirtyV r.dirty) ∧ Sl w B 54 4 vt r.txns.length (txnsV r.txns)
theorem RecS.recIn {w : World} {B : Nat} {r : Rec} {vd vt : Value} (h : RecS w B r vd vt) : RecIn w r vd vt := ⟨RdS.of_sl h.1, RdS.of_sl h.2⟩
theorem RecS.keep {w w' : World} {B : Nat} {r : Rec} {vd vt : Value} (h : RecS w B r vd vt) (hk : ∀ k, B ≤ k → k < w.heap.size → w'.heap[k]? = w.heap[k]?) : RecS w' B r vd vt :=
  ⟨h.1.keep fun k e => hk k (h.1.lt k e).1 (h.1.lt k e).2, h.2.keep fun k e => hk k (h.2.lt k e).1 (h.2.lt k e).2⟩
theorem RecS.nil (w : World) (B : Nat) {r : Rec} (hd : r.dirty = []) (ht : r.txns = []) : RecS w B r nils nils := by
  unfold RecS; rw [hd, ht]; exact ⟨Sl.nil _ _ _ _, Sl.nil _ _ _ _⟩
theorem RecS.below {w w' : World} {B : Nat} {r : Rec} {vd vt : Value} (h : RecS w B r vd vt) (hb : Below w.heap.size w w') : RecS w' B r vd vt := h.keep fun k _ hk => hb.block k hk
theorem extract_endD (s : ByteArray) (n : Nat) : s.extract n s.size = ⟨(s.data.toList.drop n).toArray⟩ := by
  rw [extract_mid]
  congr 2
  rw [List.take_of_length_le]
  rw [List.length_drop]
  exact Nat.le_refl _
def bodyB (K : Nat) : Bool := decide (2 ≤ K ∧ K ≤ 4 ∨ K = 6)
theorem parse_body (l : List UInt8) (h : bodyB (PRec.g l 0 1) = true) : PRec.parse l = { pre l with body := l.drop (PRec.endp l) } := by
  unfold bodyB at h
  rw [decide_eq_true_eq] at h
  have : PRec.g l 0 1 = 2 ∨ PRec.g l 0 1 = 3 ∨ PRec.g l 0 1 = 4 ∨ PRec.g l 0 1 = 6 := by omega
  rcases this with h | h | h | h
  · rw [(pre_2 l h).2.2]; exact (pre_2 l h).2.1
  · rw [(pre_3 l h).2.2]; exact (pre_3 l h).2.1
  · rw [(pre_4 l h).2.2]; exact (pre_4 l h).2.1
  · rw [(pre_6 l h).2.2]; exact (pre_6 l h).2.1
theorem parse_bare (l : List UInt8) (h : bodyB (PRec.g l 0 1) = false) : PRec.parse l = pre l := by
  unfold bodyB at h
  rw [decide_eq_false_iff_not] at h
  by_cases h8 : PRec.g l 0 1 = 8
  · exact (pre_8 l h8).2.1
  · exact (pre_0 l (by omega) (by omega) (by omega) (by omega) h8).2.1
end Go.Proofs.Ytpkmnihiepbmcaa
