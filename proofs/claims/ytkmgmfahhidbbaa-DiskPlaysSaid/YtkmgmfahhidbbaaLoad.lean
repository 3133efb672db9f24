/-
  disk.Load: a disk out of an image.
-/
import Derived.Test.YtkmgmfahhidbbaaRef04g
import Derived.Test.YtkmgmfahhidbbaaDisk5
import Derived.IntWalk
namespace Go.Proofs.Ytkmgmfahhidbbaa
open Go.RowKit
attribute [local go_sem ↓] wp_load_sec
theorem rule_store_sec {w : World} {g o : Nat} {l : List UInt8} (hl : l.length = 128) (ht : w.there g o 128) : (storeCells ⟨g, o, none⟩ (bytesV l)).run Try.prog w = .ok () (w.setCells g o (bytesV l)) := by
  have hb : (bytesV l).length = 128 := by rw [bytesV_length]; exact hl
  have := run_storeCells_cells (P := Try.prog) g o (bytesV l) 0 w (fun j hj => by simpa using (ht j (by omega)).1) (fun j hj => by simpa using (ht j (by omega)).2) (bytesV_one l)
  simpa using this
theorem there_alloc_eq {w : World} {b o n : Nat} (h : w.there b o n) (ob : Obj) : (w.alloc ob).there b o n = True := by simp [World.there_alloc h ob]
attribute [local go_sem] rule_store_sec bytesV_length
attribute [local go_sem] there_alloc_eq World.there_drew
def LoadPost (s : ByteArray) (w : World) (e : Ending) (w' : World) : Prop := Below w.heap.size w w' ∧
  ((¬ (s.size % 128 = 0 ∧ 1 ≤ s.size / 128 ∧ s.size / 128 ≤ 16384) ∧ e = .returned (.tuple #[.pointer none, .int .i64 2])) ∨ (s.size % 128 = 0 ∧ 1 ≤ s.size / 128 ∧ s.size / 128 ≤ 16384 ∧ ∃ b own, e = .returned (.tuple #[.pointer (some ⟨b, 0, none⟩), .int .i64 0]) ∧ IsDisk w' b (PDsk.load s.data.toList (s.size / 128)) own ∧ ∀ k ∈ own, w.heap.size ≤ k))
set_option maxRecDepth 100000 in
set_option maxHeartbeats 2000000 in
theorem load_any (s : ByteArray) (hs : s.size ≤ maxLen) (w : World) : Calls Try.prog 21 #[.string s] w (LoadPost s w) := by
  unfold maxLen at hs
  have hquo : Hid ((((s.size : Int)) / 128) = ((s.size / 128 : Nat) : Int)) := Lib.hid (by omega)
  go_enter Try.func21, Try.ntmps21
  go_wp2_with fail
  refine (new_any _ (by omega) (by omega) _).mono ?_
  rintro e w1 ⟨hB, (⟨hno, rfl⟩ | ⟨h1, h2, b, own, rfl, hd, ho⟩)⟩
  · have HN : Hid (¬ (s.size % 128 = 0 ∧ 1 ≤ s.size / 128 ∧ s.size / 128 ≤ 16384)) := Lib.hid (by omega)
    clear hno
    go_wp2
    go_ret2
    exact ⟨hB, .inl ⟨HN.out, rfl⟩⟩
  obtain ⟨n, hn⟩ : ∃ n, s.size / 128 = n := ⟨_, rfl⟩
  rw [show ((s.size : Int) / 128).toNat = n by omega] at hd
  have hn1 : 1 ≤ n := by omega
  have hn2 : n ≤ 16384 := by omega
  have HN := Lib.hid hn
  have HB := Lib.hid hB
  have HO := Lib.hid ho
  by_cases hm : s.size % 128 = 0
  · have hsn : s.size = n * 128 := by omega
    have f1 : ((s.size : Int) / 128 * 128 == (s.size : Int)) = true := by simp; omega
    have f0 : ((s.size : Int) / 128 * 128 != (s.size : Int)) = false := by simp; omega
    have HM := Lib.hid hm
    have HS0 := Lib.hid (Stepped.refl w1 own)
    have HD0 : Hid (IsDisk w1 b ⟨PDsk.loadAt s.data.toList n 0, [], -1⟩ own) := Lib.hid (by rw [PDsk.loadAt_zero]; exact hd)
    have hll : s.data.toList.length = n * 128 := by rw [lsize]; exact hsn
    obtain ⟨hok, gs, os, cs, vl, hb, hsu, hl, e1, e2, e3, hown⟩ := hd
    have hc0 : w1.cell? ⟨b, 0, none⟩ = some (.slice (some ⟨gs, os, none⟩) n cs) := by rw [show w1.cell? ⟨b, 0, none⟩ = some (.slice (some ⟨gs, os, none⟩) (PDsk.new n).sure.length cs) by simp [World.cell?, hb]]; simp [PDsk.new]
    clear hn hB ho hquo h1 h2 hm hok hb hsu hl e1 e2 e3 hown
    go_wp2
    go_loopw [30] (fun iv wr => ∃ i : Nat, i ≤ n ∧ iv = .int .i64 i ∧ Hid (IsDisk wr b ⟨PDsk.loadAt s.data.toList n i, [], -1⟩ own) ∧ Hid (Stepped w1 wr own own)) (fun iv _ => n - (intOf iv).toNat)
    case atStart => exact ⟨0, by omega, rfl, HD0, HS0⟩
    case round =>
      obtain ⟨i, hi, rfl, HD, HS⟩ := hrel
      clear HD0 HS0 hc0 f0 f1
      by_cases hlt : i < n
      · obtain ⟨hok, gs, os, cs, vl, hb, hsu, hl, e1, e2, e3, hown⟩ := HD.out
        have hlen := PDsk.loadAt_length s.data.toList n i
        have hc0 : wr.cell? ⟨b, 0, none⟩ = some (.slice (some ⟨gs, os, none⟩) n cs) := by simp [World.cell?, hb, hlen]
        have hcA := fun (o : Obj) => (((Below.refl wr.heap.size wr).alloc (Nat.le_refl _) o).cell (p := ⟨b, 0, none⟩) (Array.getElem?_eq_some_iff.1 hb).1).trans hc0
        have hth := (HD.out.thereSec (k := i) (by rw [show ((⟨PDsk.loadAt s.data.toList n i, [], -1⟩ : PDsk.Dsk).sure.length = n) from hlen]; rw [hc0]) (by rw [show ((⟨PDsk.loadAt s.data.toList n i, [], -1⟩ : PDsk.Dsk).sure.length = n) from hlen]; exact hlt)).1
        have HGM : Hid (gs ∈ own) := Lib.hid (by rw [hown]; simp)
        have hx := extract_row s i
        have hrl : (PDsk.rowAt s.data.toList i).length = 128 := PDsk.rowAt_length hll hlt
        have hxl : (s.extract (i * 128) (i * 128 + 128)).data.toList = PDsk.rowAt s.data.toList i := by rw [hx]
        have hxs : (s.extract (i * 128) (i * 128 + 128)).size = 128 := by rw [hx, size_mk]; exact hrl
        have hxL : (s.extract (i * 128) (i * 128 + 128)).data.toList.length = 128 := by rw [hxl]; exact hrl
        have i0 : (0 : Int) ≤ i := by omega
        have i1 : (i : Int) < n := by omega
        have hss : (s.size : Int) = n * 128 := by omega
        obtain ⟨A, hA0⟩ : ∃ A, i * 128 = A := ⟨_, rfl⟩
        obtain ⟨B, hB0⟩ : ∃ B, A + 128 = B := ⟨_, rfl⟩
        have hA : (i : Int) * 128 = A := by omega
        have hB : ((i : Int) + 1) * 128 = B := by omega
        have hAB : A ≤ B := by omega
        have hBs : B ≤ s.size := by omega
        have hABi : (A : Int) ≤ B := by omega
        have hBsi : (B : Int) ≤ s.size := by omega
        have hA1 : (A : Int) ≤ 4000000 := by omega
        have hB1 : (B : Int) ≤ 4000000 := by omega
        rw [hA0, hB0] at hxs hxL hxl
        have HE : Hid (∀ W, Below wr.heap.size wr W → IsDisk (W.setCells gs (os + i * 128) (bytesV (s.extract A B).data.toList)) b ⟨PDsk.loadAt s.data.toList n (i + 1), [], -1⟩ own) := Lib.hid fun W hW => by
          have hcW : W.cell? ⟨b, 0, none⟩ = some (.slice (some ⟨gs, os, none⟩) n cs) := (hW.cell (p := ⟨b, 0, none⟩) (Array.getElem?_eq_some_iff.1 hb).1).trans hc0
          have := ((HD.out.below hW).keepSec (k := i) (x := PDsk.rowAt s.data.toList i) (by rw [show ((⟨PDsk.loadAt s.data.toList n i, [], -1⟩ : PDsk.Dsk).sure.length = n) from hlen]; exact hcW) (by rw [show ((⟨PDsk.loadAt s.data.toList n i, [], -1⟩ : PDsk.Dsk).sure.length = n) from hlen]; exact hlt) hrl).1
          unfold PDsk.keep at this
          dsimp only at this
          rw [PDsk.loadAt_set] at this
          rw [hxl]; exact this
        clear hb hsu hl hx hok hll hA0 hB0 hss hsn hxl hrl e1 e2 e3 hown
        have harr := fun (g cap : Nat) (W : World) => run_arrayAt (P := Try.prog) (w := W) 62 5 128 (some ⟨g, 0, none⟩) 128 cap Try.underlying62 (Nat.le_refl _)
        have wr1 : IntKind.i64.wrap (A : Int) = A := IntWalk.i64_in _ (by omega)
        have wr2 : IntKind.i64.wrap ((i : Int) + 1) = (i : Int) + 1 := IntWalk.i64_in _ (by omega)
        have wr3 : IntKind.i64.wrap (B : Int) = B := IntWalk.i64_in _ (by omega)
        generalize hte : s.extract A B = t at *
        go_wp2
        go_region_law (fail)
        all_goals (
          go_wp2
          exact ⟨⟨i + 1, by omega, by go_num, Lib.hid (HE.out _ ((((Below.refl _ wr).alloc (Nat.le_refl _) _).drew).drew)), Lib.hid (HS.out.trans ⟨(Turns.of_below ((((Below.refl _ wr).alloc (Nat.le_refl _) _).drew).drew)).setCells HGM.out _, fun _ h => .inl h⟩)⟩, by simp [intOf]; omega⟩)
      · have him : i = n := by omega
        subst him
        have HF : Hid (IsDisk wr b (PDsk.load s.data.toList i) own) := Lib.hid (by unfold PDsk.load; rw [← PDsk.loadAt_all]; exact HD.out)
        have i1 : ¬ (i : Int) < i := by omega
        have hst := Stepped.below HB.out (Nat.le_refl _) HO.out HS.out
        have HST := Lib.hid hst
        clear hst
        go_wp2
        go_ret2
        exact ⟨HST.out.1, .inr ⟨HM.out, by rw [HN.out]; exact hn1, by rw [HN.out]; exact hn2, b, own, rfl, by rw [HN.out]; exact HF.out, HST.out.2⟩⟩
  · have f1 : ((s.size : Int) / 128 * 128 == (s.size : Int)) = false := by simp; omega
    have f0 : ((s.size : Int) / 128 * 128 != (s.size : Int)) = true := by simp; omega
    have HM := Lib.hid hm
    clear hm hn hd hquo h1 h2 hB ho
    go_wp2
    go_ret2
    exact ⟨HB.out, .inl ⟨fun h => HM.out h.1, rfl⟩⟩
end Go.Proofs.Ytkmgmfahhidbbaa
