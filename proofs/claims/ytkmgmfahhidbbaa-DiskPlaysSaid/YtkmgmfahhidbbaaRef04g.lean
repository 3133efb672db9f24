/-
  The document's disk: Load.
-/
import Derived.Test.YtkmgmfahhidbbaaRef04f
namespace PDsk
def rowAt (s : List UInt8) (i : Nat) : List UInt8 := (s.drop (i * 128)).take 128
def load (s : List UInt8) (n : Nat) : Dsk := ⟨(List.range n).map (rowAt s), [], -1⟩
def loadAt (s : List UInt8) (n i : Nat) : List (List UInt8) := (List.range n).map (fun j => if j < i then rowAt s j else zero)
theorem loadAt_length (s : List UInt8) (n i : Nat) : (loadAt s n i).length = n := by simp [loadAt]
theorem loadAt_zero (s : List UInt8) (n : Nat) : loadAt s n 0 = List.replicate n zero := by
  unfold loadAt
  apply List.ext_getElem
  · simp
  · intro i h1 h2; simp
theorem loadAt_all (s : List UInt8) (n : Nat) : loadAt s n n = (List.range n).map (rowAt s) := by
  unfold loadAt
  exact List.map_congr_left (fun j hj => if_pos (List.mem_range.1 hj))
theorem loadAt_set (s : List UInt8) (n i : Nat) : (loadAt s n i).set i (rowAt s i) = loadAt s n (i + 1) := by
  unfold loadAt
  apply List.ext_getElem
  · simp
  · intro j h1 h2
    rw [List.getElem_set]
    simp only [List.getElem_map, List.getElem_range]
    by_cases h : i = j
    · subst h; simp
    · have h3 : j < i + 1 ↔ j < i := by omega
      simp [h, h3]
theorem rowAt_length {s : List UInt8} {n i : Nat} (hs : s.length = n * 128) (hi : i < n) : (rowAt s i).length = 128 := by
  unfold rowAt
  rw [List.length_take, List.length_drop]
  omega
end PDsk
namespace Go.Proofs.Ytkmgmfahhidbbaa
open Go.RowKit
theorem extract_row (s : ByteArray) (i : Nat) : s.extract (i * 128) (i * 128 + 128) = ⟨(PDsk.rowAt s.data.toList i).toArray⟩ := by
  have := ByteArray.extract_mk s.data.toList (i * 128) (i * 128 + 128)
  rw [Array.toArray_toList] at this
  rw [this, Nat.add_sub_cancel_left]
  rfl
def RLoadPost (s : ByteArray) (w : World) (e : Ending) (w' : World) : Prop := Below w.heap.size w w' ∧
  ((¬ (s.size % 128 = 0 ∧ 1 ≤ s.size / 128 ∧ s.size / 128 ≤ 16384) ∧ e = .returned (.pointer none)) ∨ (s.size % 128 = 0 ∧ 1 ≤ s.size / 128 ∧ s.size / 128 ≤ 16384 ∧ ∃ b own, e = .returned (.pointer (some ⟨b, 0, none⟩)) ∧ IsRef w' b (PDsk.load s.data.toList (s.size / 128)) own ∧ ∀ k ∈ own, w.heap.size ≤ k))
theorem rload_any (s : ByteArray) (hs : s.size ≤ maxLen) (w : World) : Calls Try.prog 22 #[.string s] w (RLoadPost s w) := by
  unfold maxLen at hs
  have hquo : Hid ((((s.size : Int)) / 128) = ((s.size / 128 : Nat) : Int)) := Lib.hid (by omega)
  by_cases hm : s.size % 128 = 0
  · have hmt : ((s.size : Int)) % 128 = 0 := by omega
    have HM := Lib.hid hm
    clear hm
    go_enter Try.func22, Try.ntmps22
    go_wp2_with fail
    refine (rnew_any _ (by omega) (by omega) _).mono ?_
    rintro e w1 ⟨hB, (⟨hno, rfl⟩ | ⟨h1, h2, b, own, rfl, hd, ho⟩)⟩
    · have HN : Hid (¬ (s.size % 128 = 0 ∧ 1 ≤ s.size / 128 ∧ s.size / 128 ≤ 16384)) := Lib.hid (by omega)
      clear hno
      go_wp2
      go_ret
      exact ⟨hB, .inl ⟨HN.out, rfl⟩⟩
    obtain ⟨n, hn⟩ : ∃ n, s.size / 128 = n := ⟨_, rfl⟩
    rw [show ((s.size : Int) / 128).toNat = n by omega] at hd
    have hn1 : 1 ≤ n := by omega
    have hn2 : n ≤ 16384 := by omega
    have hsn : s.size = n * 128 := by omega
    have HN := Lib.hid hn
    have HB := Lib.hid hB
    have HO := Lib.hid ho
    have HS0 := Lib.hid (Stepped.refl w1 own)
    have HD0 : Hid (IsRef w1 b ⟨PDsk.loadAt s.data.toList n 0, [], -1⟩ own) := Lib.hid (by rw [PDsk.loadAt_zero]; exact hd)
    have hll : s.data.toList.length = n * 128 := by rw [lsize]; exact hsn
    clear hd hn hB ho hquo h1 h2 hmt
    go_wp2
    go_loopw [4] (fun iv wr => ∃ i : Nat, i ≤ n ∧ iv = .int .i64 i ∧ Hid (IsRef wr b ⟨PDsk.loadAt s.data.toList n i, [], -1⟩ own) ∧ Hid (Stepped w1 wr own own)) (fun iv _ => n - (intOf iv).toNat)
    case atStart => exact ⟨0, by omega, rfl, HD0, HS0⟩
    case round =>
      obtain ⟨i, hi, rfl, HD, HS⟩ := hrel
      clear HD0 HS0
      obtain ⟨hok, gs, os, cs, vl, hb, hsu, hl, e1, e2, e3, hown⟩ := HD.out
      have hlen := PDsk.loadAt_length s.data.toList n i
      dsimp only at hb hsu
      have hc0 : wr.cell? ⟨b, 0, none⟩ = some (.slice (some ⟨gs, os, none⟩) n cs) := by simp [World.cell?, hb, hlen]
      by_cases hlt : i < n
      · have hcs := hsu.cell (j := i) (by rw [refS_length, hlen]; exact hlt)
        have hfs := hsu.unshut (j := i) (by rw [hlen]; omega)
        have hE := HD.out.setSure hb (k := i) (by rw [show ((⟨PDsk.loadAt s.data.toList n i, [], -1⟩ : PDsk.Dsk).sure.length = n) from hlen]; exact hlt) (PDsk.rowAt s.data.toList i) (PDsk.rowAt_length hll hlt)
        dsimp only at hE
        rw [PDsk.loadAt_set] at hE
        have hx := extract_row s i
        have HE : Hid (IsRef (wr.setCell ⟨gs, os + i, none⟩ (.string (s.extract (i * 128) (i * 128 + 128)))) b ⟨PDsk.loadAt s.data.toList n (i + 1), [], -1⟩ own) := Lib.hid (by rw [hx]; exact hE)
        have HGM : Hid (gs ∈ own) := Lib.hid (by rw [hown]; simp)
        have i0 : (0 : Int) ≤ i := by omega
        have i1 : (i : Int) < n := by omega
        have hss : (s.size : Int) = n * 128 := by omega
        obtain ⟨A, hA0⟩ : ∃ A, i * 128 = A := ⟨_, rfl⟩
        obtain ⟨B, hB0⟩ : ∃ B, A + 128 = B := ⟨_, rfl⟩
        have hA : (i : Int) * 128 = A := by omega
        have hB : (A : Int) + 128 = B := by omega
        have hAB : A ≤ B := by omega
        have hBs : B ≤ s.size := by omega
        have hABi : (A : Int) ≤ B := by omega
        have hBsi : (B : Int) ≤ s.size := by omega
        have hA1 : (A : Int) ≤ 4000000 := by omega
        have hB1 : (B : Int) ≤ 4000000 := by omega
        rw [hA0, hB0] at HE
        clear hb hsu hl hE hx hok hll hA0 hB0 hss hsn
        go_wp2
        go_region
        all_goals (
          have HE2 := Lib.hid (HE.out.below (Below.refl _ _).drew)
          have HS2 := Lib.hid (HS.out.trans ⟨(Turns.cell (j := os + i) (.string (s.extract A B)) HGM.out).drew, fun _ h => .inl h⟩)
          go_wp2
          exact ⟨⟨i + 1, by omega, by go_num, HE2, HS2⟩, by simp [intOf]; omega⟩)
      · have him : i = n := by omega
        subst him
        have HF : Hid (IsRef wr b (PDsk.load s.data.toList i) own) := Lib.hid (by unfold PDsk.load; rw [← PDsk.loadAt_all]; exact HD.out)
        have i1 : ¬ (i : Int) < i := by omega
        have hst := Stepped.below HB.out (Nat.le_refl _) HO.out HS.out
        have HST := Lib.hid hst
        clear hb hsu hl hok hst
        go_wp2
        go_ret
        exact ⟨HST.out.1, .inr ⟨HM.out, by rw [HN.out]; exact hn1, by rw [HN.out]; exact hn2, b, own, rfl, by rw [HN.out]; exact HF.out, HST.out.2⟩⟩
  · have hmt : ¬ ((s.size : Int)) % 128 = 0 := by omega
    have HM := Lib.hid hm
    clear hm
    go_enter Try.func22, Try.ntmps22
    go_wp2
    go_ret
    exact ⟨Below.refl _ _, .inl ⟨fun h => HM.out h.1, rfl⟩⟩
end Go.Proofs.Ytkmgmfahhidbbaa
