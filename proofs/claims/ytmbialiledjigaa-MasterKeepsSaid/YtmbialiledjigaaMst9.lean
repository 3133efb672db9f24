/-
  Masters: two of them compared; what works.
-/
import Derived.Test.YtmbialiledjigaaMst8
import Derived.Laws.StructEq
namespace Go.Proofs.Ytmbialiledjigaa
open Go.RowKit
open PMst (Mst)
def mEq (a b : Mst) : Bool := decide (a = b)
theorem mEq_self (a : Mst) : mEq a a = true := by simp [mEq]
theorem eqin_mst (a1 a2 a3 a4 : Nat) (a5 : Bool) (b1 b2 b3 b4 : Nat) (b5 : Bool) (w : World) : (Op.equalIn 10000 24 (.agg #[.int .u64 a1, .int .u64 a2, .int .u64 a3, .int .u64 a4, .bool a5]) (.agg #[.int .u64 b1, .int .u64 b2, .int .u64 b3, .int .u64 b4, .bool b5])).run Try.prog w = .ok (mEq ⟨a1, a2, a3, a4, a5⟩ ⟨b1, b2, b3, b4, b5⟩) w := by
  unfold mEq
  have e : (decide ((⟨a1, a2, a3, a4, a5⟩ : Mst) = ⟨b1, b2, b3, b4, b5⟩)) = (decide (a1 = b1) && (decide (a2 = b2) && (decide (a3 = b3) && (decide (a4 = b4) && decide (a5 = b5))))) := by
    rw [Bool.eq_iff_iff]; simp
  rw [e]
  go_simp
  by_cases h1 : a1 = b1 <;> by_cases h2 : a2 = b2 <;> by_cases h3 : a3 = b3 <;> by_cases h4 : a4 = b4 <;> by_cases h5 : a5 = b5 <;> simp [h1, h2, h3, h4, h5, Int.ofNat_inj]
attribute [go_sem ↓] eqin_mst
attribute [go_sem] mEq_self
def wD0 : PDsk.Dsk := PDsk.new 4
def wM : Mst := ⟨1, 2, 0, 110, false⟩
def wD1 : PDsk.Dsk := (PMst.st wD0 1 wM).1
theorem wl0 : PMst.ld wD0 1 = (⟨0, 0, 0, 0, false⟩, 120) := by decide +kernel
theorem ws1 : (PMst.st wD0 1 wM).2 = 0 := by decide +kernel
theorem wl1 : PMst.ld wD1 1 = (⟨1, 2, 0, 110, false⟩, 0) := by decide +kernel
theorem we1 : PMst.err wM = 0 := by decide +kernel
theorem we2 : (⟨(PMst.enc wM).toArray⟩ : ByteArray).size = 128 := by rw [size_mk]; exact PMst.enc_length (by decide +kernel)
theorem ws2 : PMst.st wD1 1 ⟨0, 0, 0, 0, false⟩ = (wD1, 2) := rfl
theorem wll0 : wD0.loose.length ≤ 1000000 := by decide +kernel
theorem wll1 : wD1.loose.length ≤ 1000000 := by decide +kernel
theorem mload_at {b : Nat} {D : PDsk.Dsk} {own : List Nat} (w : World) (h : IsDisk w b D own) (a : Int) (ha1 : 0 ≤ a) (ha2 : a ≤ 1000000) {c l k f : Nat} {g : Bool} {e0 : Int} (hl : PMst.ld D a = (⟨c, l, k, f, g⟩, e0)) :
    Calls Try.prog 15 #[.pointer (some ⟨b, 0, none⟩), .int .i64 a] w fun e w' => e = .returned (.tuple #[.agg #[.int .u64 c, .int .u64 l, .int .u64 k, .int .u64 f, .bool g], .int .i64 e0]) ∧ Below w.heap.size w w' := by
  refine (mload_any w h a ha1 ha2).mono ?_
  rintro e w' ⟨rfl, hb⟩
  exact ⟨by rw [hl]; rfl, hb⟩
theorem mstore_at {b : Nat} {D : PDsk.Dsk} {own : List Nat} (w : World) (h : IsDisk w b D own) (a : Int) (ha1 : 0 ≤ a) (ha2 : a ≤ 1000000) (m : Mst) (hm : m.Ok) (hll : D.loose.length ≤ 1000000) {e0 : Int} (hs : (PMst.st D a m).2 = e0) :
    Calls Try.prog 17 #[.pointer (some ⟨b, 0, none⟩), .int .i64 a, .agg #[.int .u64 m.count, .int .u64 m.life, .int .u64 m.check, .int .u64 m.first, .bool m.clean]] w (StepPost (.int .i64 e0) b (PMst.st D a m).1 own w) := by
  rw [← hs]; exact mstore_any w h a ha1 ha2 m hm hll
theorem menc_at (m : Mst) (hm : m.Ok) {e0 : Int} (he : PMst.err m = e0) (w : World) : Calls Try.prog 8 #[.agg #[.int .u64 m.count, .int .u64 m.life, .int .u64 m.check, .int .u64 m.first, .bool m.clean]] w fun e w' => e = .returned (.tuple #[.string ⟨(PMst.enc m).toArray⟩, .int .i64 e0]) ∧ Below w.heap.size w w' := by
  rw [← he]; exact menc_any m hm w
theorem wM_ok : wM.Ok := ⟨by decide, by decide, by decide, by decide⟩
theorem z_ok : PMst.zero.Ok := ⟨by decide, by decide, by decide, by decide⟩
set_option maxRecDepth 100000 in
set_option maxHeartbeats 4000000 in
theorem works12_any (w : World) : Calls Try.prog 7 #[] w fun e w' => e = .returned (.bool true) ∧ Below w.heap.size w w' := by
  have WS2 := Lib.hid we2
  go_enter Try.func7, Try.ntmps7
  go_wp2_with fail
  refine (new_any 4 (by omega) (by omega) _).mono ?_
  rintro e w1 ⟨hB, (⟨hno, rfl⟩ | ⟨_, _, b, own, rfl, hd, ho⟩)⟩
  · exact absurd (by omega) hno
  change IsDisk w1 b wD0 own at hd
  have HD := Lib.hid hd
  have HO := Lib.hid ho
  have HB := Lib.hid hB
  clear hd ho hB
  go_wp2_with fail
  refine (mload_at _ HD.out 1 (by omega) (by omega) wl0).mono ?_
  rintro e w2 ⟨rfl, hb⟩
  have HD2 := Lib.hid (HD.out.below hb)
  have HB2 := Lib.hid (HB.out.step hb)
  clear hb HD HB
  have hba := fun (W : World) (c : Array Value) (t : TypeId) => (Below.refl W.heap.size W).alloc (Nat.le_refl _) (.cells c t)
  have HD3 := Lib.hid (fun c t c' t' => (HD2.out.below (hba w2 c t)).below (hba (w2.alloc (.cells c t)) c' t'))
  have HB3 := Lib.hid (fun c t c' t' => (HB2.out.step (hba w2 c t)).step (hba (w2.alloc (.cells c t)) c' t'))
  clear hba
  have hN : ∀ (A B : Array Value) (t u : TypeId), ((w2.alloc (.cells A t)).alloc (.cells B u)).heap[w2.heap.size + 1]? = some (.cells B u (0, 0)) := fun A B t u => (made2 w2 A B t u).2.1
  have HNN := Lib.hid hN
  have HLT := Lib.hid HD2.out.lt
  clear hN
  go_wp2_with fail
  refine (mstore_at _ (HD3.out _ _ _ _) 1 (by omega) (by omega) wM wM_ok wll0 ws1).mono ?_
  rintro e w3 ⟨own3, rfl, hd, hs⟩
  change IsDisk w3 b wD1 own3 at hd
  have hN3 := (hs.1.block (w2.heap.size + 1) (by simp) (fun hm => by have := HLT.out _ hm; omega)).trans (HNN.out _ _ _ _)
  have HD4 := Lib.hid hd
  have HB4 := Lib.hid (Stepped.below (HB3.out _ _ _ _) (Nat.le_refl _) HO.out hs).1
  have HO4 := Lib.hid (Stepped.below (HB3.out _ _ _ _) (Nat.le_refl _) HO.out hs).2
  clear hd hs HD3 HB3 HNN HD2 HB2 HLT
  obtain ⟨k, hk⟩ : ∃ k, w2.heap.size + 1 = k := ⟨_, rfl⟩
  rw [hk] at hN3 ⊢
  clear hk
  go_wp2_with fail
  refine (mload_at _ HD4.out 1 (by omega) (by omega) wl1).mono ?_
  rintro e w4 ⟨rfl, hb⟩
  have hN4 := (hb.block _ (Array.getElem?_eq_some_iff.1 hN3).1).trans hN3
  have HD5 := Lib.hid (HD4.out.below hb)
  have HB5 := Lib.hid (HB4.out.step hb)
  clear hb HD4 HB4 hN3
  have hk4 := (Array.getElem?_eq_some_iff.1 hN4).1
  have hN5 := fun (o : Obj) => (Below.heap_alloc w4 o k hk4).trans hN4
  have d0 := fun o => (cells5 (hN5 o)).1
  have d1 := fun o => (cells5 (hN5 o)).2.1
  have d2 := fun o => (cells5 (hN5 o)).2.2.1
  have d3 := fun o => (cells5 (hN5 o)).2.2.2.1
  have d4 := fun o => (cells5 (hN5 o)).2.2.2.2
  have HN5 := Lib.hid hN5
  have HX5 : Hid (∀ o, (w4.alloc o).heap[w4.heap.size]? = some o) := Lib.hid fun o => heap_alloc_new w4 o
  have HDA := Lib.hid (fun o => HD5.out.below ((Below.refl w4.heap.size w4).alloc (Nat.le_refl _) o))
  have HBA := Lib.hid (fun o => HB5.out.alloc HB5.out.size o)
  clear hN5 hN4
  go_wp2_with fail
  refine (menc_at wM wM_ok we1 _).mono ?_
  rintro e w5 ⟨rfl, hb⟩
  have HD6 := Lib.hid ((HDA.out _).below hb)
  have HB6 := Lib.hid ((HBA.out _).step hb)
  have hN6 := (hb.block k (by rw [World.size_alloc]; omega)).trans (HN5.out _)
  have hX6 := (hb.block w4.heap.size (by rw [World.size_alloc]; omega)).trans (HX5.out _)
  obtain ⟨y0, y1, y2, y3, y4⟩ := cells5 hN6
  obtain ⟨x0, x1, x2, x3, x4⟩ := cells5 hX6
  clear hb hN6 hX6 d0 d1 d2 d3 d4 HN5 HX5 HDA HBA hk4 HD5 HB5
  obtain ⟨t, ht⟩ : ∃ t, (⟨(PMst.enc wM).toArray⟩ : ByteArray) = t := ⟨_, rfl⟩
  rw [ht] at WS2 ⊢
  have hsz : (t.size : Int) = 128 := by rw [WS2.out]; rfl
  clear ht
  go_wp2_with fail
  refine (mstore_nil 1 wM _).mono ?_
  rintro e w6 ⟨rfl, hb⟩
  have HD7 := Lib.hid (HD6.out.below hb)
  have HB7 := Lib.hid (HB6.out.step hb)
  clear hb HD6 HB6 x0 x1 x2 x3 x4 y0 y1 y2 y3 y4
  go_wp2_with fail
  refine (mstore_at _ HD7.out 1 (by omega) (by omega) PMst.zero z_ok wll1 (e0 := 2) rfl).mono ?_
  rintro e w7 ⟨own7, rfl, hd, hs⟩
  have HB8 := Lib.hid (Stepped.below HB7.out (Nat.le_refl _) HO4.out hs).1
  clear hd hs
  go_wp2
  go_ret
  exact ⟨rfl, HB8.out⟩
end Go.Proofs.Ytmbialiledjigaa
