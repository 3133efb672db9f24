/-
  FrameTells: the way of a frame of its own in which some bytes are other ones.
-/
import Derived.Test.YtfejjjbcloiddaaTells
import Derived.Test.YtfejjjbcloiddaaWorks
import Derived.Test.YtfejjjbcloiddaaLaw10
namespace Go.Proofs.Ytfejjjbcloiddaa
open Go.RowKit
theorem mk_back (S : ByteArray) : (⟨S.data.toList.toArray⟩ : ByteArray) = S := by simp
theorem at_cell {w wr : World} {p : Option Addr} {k : IntKind} {zs : List Int} (h : zs.map (Value.int k) ≠ [] → ∃ g off, p = some ⟨g, off, none⟩ ∧ g < w.heap.size ∧ ∀ j (h : j < (zs.map (Value.int k)).length), w.cell? ⟨g, off + j, none⟩ = some (zs.map (Value.int k))[j]) (hB : Below w.heap.size w wr) {j : Nat} (hj : j < zs.length) :
    ∃ g off, p = some ⟨g, off, none⟩ ∧ g < w.heap.size ∧ wr.cell? ⟨g, off + j, none⟩ = some (.int k zs[j]) := by
  obtain ⟨g, off, h1, h2, h3⟩ := h (by intro e; have := congrArg List.length e; simp at this; subst this; simp at hj)
  refine ⟨g, off, h1, h2, (hB.cell (p := ⟨g, off + j, none⟩) h2).trans ?_⟩
  rw [h3 j (by simpa using hj)]
  simp
set_option maxRecDepth 100000 in
set_option maxHeartbeats 4000000 in
theorem frameTells_own (lsn : Nat) (text s S : ByteArray) (pa pt : Option Addr) (ca ct : Nat) (az tz : List Int) (n : Int) (hl : lsn < 18446744073709551616) (ht : text.size ≤ 8192) (hs : s.size ≤ 4096) (w : World)
    (ha2 : az.length ≤ ca) (ha3 : ca ≤ 2 ^ 63 - 1) (ht2 : tz.length ≤ ct) (ht3 : ct ≤ 2 ^ 63 - 1)
    (ha : az.map (Value.int .u16) ≠ [] → ∃ g off, pa = some ⟨g, off, none⟩ ∧ g < w.heap.size ∧ ∀ j (h : j < (az.map (Value.int .u16)).length), w.cell? ⟨g, off + j, none⟩ = some (az.map (Value.int .u16))[j])
    (hto : tz.map (Value.int .u8) ≠ [] → ∃ g off, pt = some ⟨g, off, none⟩ ∧ g < w.heap.size ∧ ∀ j (h : j < (tz.map (Value.int .u8)).length), w.cell? ⟨g, off + j, none⟩ = some (tz.map (Value.int .u8))[j])
    (hab : ∀ z ∈ az, 0 ≤ z ∧ z < 65536) (htb : ∀ z ∈ tz, 0 ≤ z ∧ z < 256) (hal : az.length ≤ 8) (htl : tz.length ≤ 8)
    (hn1 : -9223372036854775808 ≤ n) (hn2 : n ≤ 9223372036854775807) (hen : PFrm.encode lsn text.data.toList = (S.data.toList, 0)) (hne : S.toList.isEmpty = false) (hz3 : 14 ≤ S.size) (hz4 : S.size ≤ 9000) :
    Calls Try.prog 5 #[.int .u64 lsn, .string text, .string s, .bool true, .slice pa az.length ca, .slice pt tz.length ct, .int .i64 n] w fun e w' => e = .returned (.bool true) ∧ Below w.heap.size w w' := by
  have HA := Lib.hid ha
  have HT := Lib.hid hto
  have HAB := Lib.hid hab
  have HTB := Lib.hid htb
  have hen2 := Lib.hid hen
  have htm : Hid (text.size ≤ maxLen) := Lib.hid (by unfold maxLen; omega)
  have hB := Below.refl w.heap.size w
  obtain ⟨z, hz⟩ : ∃ z, PFrm.size n = z := ⟨_, rfl⟩
  have hzc : (n < 1 ∧ z = 0) ∨ (1 ≤ n ∧ 4096 < n ∧ z = 0) ∨ (1 ≤ n ∧ n ≤ 4096 ∧ z = n + 14) := by
    rw [← hz]; unfold PFrm.size; split <;> omega
  have hsz := Lib.hid hz
  clear ha hto hab htb hen hz
  go_enter Try.func5, Try.ntmps5
  go_wp2_with fail
  refine (encode_any lsn text hl htm.out _).mono ?_; rintro e w1 ⟨rfl, hb⟩; replace hB := hB.step hb; clear hb
  rw [hen2.out, mk_back]
  go_wp2_with fail
  refine (rencode_any lsn text hl htm.out _).mono ?_; rintro e w2 ⟨rfl, hb⟩; replace hB := hB.step hb; clear hb
  rw [hen2.out, mk_back]
  go_wp2
  have hSm := Sl.of_string w2 w.heap.size hB.size (S ++ S) 5 (by rw [ByteArray.size_append]; unfold maxLen; omega) _ rfl
  have hB0 : Below w.heap.size w ((w2.alloc (Obj.cells (bytesRow (S ++ S) (grownCap w2 (S.size + S.size) 0 5)) 5 ((bytesRow (S ++ S) (grownCap w2 (S.size + S.size) 0 5)).size, (bytesRow (S ++ S) (grownCap w2 (S.size + S.size) 0 5)).size + 1))).drew) := (hB.alloc hB.size _).drew
  rw [ByteArray.size_append] at hSm
  change Sl ((w2.alloc _).drew) _ _ _ _ _ _ at hSm
  have hl0 : (S ++ S).data.toList.length = S.size + S.size := by rw [list_size, ByteArray.size_append]
  generalize (S ++ S).data.toList = L0 at *
  have hg0 := (hB.size)
  generalize ((w2.alloc (Obj.cells (bytesRow (S ++ S) (grownCap w2 (S.size + S.size) 0 5)) 5 ((bytesRow (S ++ S) (grownCap w2 (S.size + S.size) 0 5)).size, (bytesRow (S ++ S) (grownCap w2 (S.size + S.size) 0 5)).size + 1))).drew) = W0 at *
  generalize grownCap w2 (S.size + S.size) 0 5 = cap at *
  generalize w2.heap.size = G at *
  clear hB
  have hL0' := Lib.hid hl0
  clear hl0
  go_loopw [19] (fun iv wr => ∃ (k : Nat) (l : List UInt8), iv = .int .i64 k ∧ k ≤ az.length ∧ k ≤ tz.length ∧ Hid (l.length = S.size + S.size) ∧ Sl wr w.heap.size 5 1 (.slice (some ⟨G, 0, none⟩) (S.size + S.size) cap) (S.size + S.size) (bytesV l) ∧ Below w.heap.size w wr) (fun iv _ => az.length - (intOf iv).toNat)
  case atStart => exact ⟨0, L0, rfl, by omega, by omega, hL0', hSm, hB0⟩
  case round =>
    obtain ⟨k, l, rfl, hk1, hk2, hll, hSl, hB⟩ := hrel
    clear hSm hB0
    by_cases hka : k < az.length
    · by_cases hkt : k < tz.length
      · obtain ⟨ga, oa, rfl, hga, hca⟩ := at_cell HA.out hB hka
        obtain ⟨gt, ot, rfl, hgt, hct⟩ := at_cell HT.out hB hkt
        have hza := HAB.out _ (List.getElem_mem hka)
        have hzt := HTB.out _ (List.getElem_mem hkt)
        generalize az[k] = za at *
        generalize tz[k] = zt at *
        obtain ⟨za, rfl⟩ := Int.eq_ofNat_of_zero_le hza.1
        obtain ⟨zt, rfl⟩ := Int.eq_ofNat_of_zero_le hzt.1
        have hza2 := hza.2
        have hzt2 := hzt.2
        have hj : za % (S.size + S.size) < S.size + S.size := Nat.mod_lt _ (by omega)
        obtain ⟨j, hjj⟩ : ∃ j, za % (S.size + S.size) = j := ⟨_, rfl⟩
        have hcell := hSl.byte (j := j) (by omega)
        have hfro := hSl.unshut (j := j) (by omega)
        rw [Nat.zero_add] at hcell hfro
        have hset := fun v => Lib.hid (hSl.set (j := j) (by omega) v)
        have hmod : (za : Int) % ((S.size : Int) + (S.size : Int)) = j := by rw [← hjj]; simp
        have hmod' := Lib.hid hmod
        have hjj' := Lib.hid hjj
        have j0 : (0 : Int) ≤ j := by omega
        have j1 : (j : Int) < (S.size : Int) + S.size := by omega
        have k0 : (0 : Int) ≤ k := by omega
        have ka : (k : Int) < az.length := by omega
        have kt : (k : Int) < tz.length := by omega
        have hwr : IntKind.i64.wrap (za : Int) = za := IntWalk.i64_in _ (by omega)
        have HSl := Lib.hid hSl
        clear hSl hza hzt hj hjj hk1 hk2
        generalize l.getD j 0 = b at *
        go_wp2
        go_region
        go_wp2
        refine ⟨⟨k + 1, l.set j (UInt8.ofNat zt), by go_num, by omega, by omega, Lib.hid (by rw [List.length_set]; exact hll.out), ?_, (hB.setCell (p := ⟨G, j, none⟩) hg0 _).drew⟩, by simp [intOf]; omega⟩
        have h := (hset (.int .u8 ((UInt8.ofNat zt).toNat : Int))).out
        rw [bytesV_set, Nat.zero_add, show (((UInt8.ofNat zt).toNat : Nat) : Int) = (zt : Int) by rw [UInt8.toNat_ofNat']; omega] at h
        exact h
      · have kt : ¬ (k : Int) < tz.length := by omega
        have hcv := conv_sl hSl
        have hSz : (⟨l.toArray⟩ : ByteArray).size = S.size + S.size := by rw [size_mk]; exact hll.out
        generalize (⟨l.toArray⟩ : ByteArray) = T at *
        have hTs : T.size ≤ 20000 := by omega
        clear hSl hll hSz hkt
        rcases hzc with ⟨hn, rfl⟩ | ⟨hn, hn', rfl⟩ | ⟨hn, hn', rfl⟩
        all_goals (
          go_wp2_with fail
          refine (decode_any T lsn hl (by unfold maxLen; omega) _).mono ?_; rintro e w3 ⟨rfl, hb⟩; replace hB := hB.step hb; clear hb
          go_wp2_with fail
          refine (rdecode_any T lsn hl (by unfold maxLen; omega) _).mono ?_; rintro e w4 ⟨rfl, hb⟩; replace hB := hB.step hb; clear hb
          go_wp2_with fail
          refine (scan_any T lsn hl (by omega) _).mono ?_; rintro e w5 ⟨v1, rfl, hs1, hb⟩; replace hB := hB.step hb; clear hb
          go_wp2_with fail
          refine (rscan_any T lsn hl (by omega) _).mono ?_; rintro e w6 ⟨v2, rfl, hs2, hb⟩; replace hB := hB.step hb
          have hr1 := (Rd.of_sl hs1).below hb
          have hr2 := Rd.of_sl hs2
          clear hb hs1 hs2
          go_wp2_with fail
          refine (texts_same _ _ _ _ hr1 hr2).mono ?_; rintro e w7 ⟨rfl, hb⟩; replace hB := hB.step hb; clear hb hr1 hr2
          go_wp2_with fail
          refine (fsize_any n (by omega) (by omega) _).mono ?_; rintro e w8 ⟨rfl, rfl⟩
          rw [hsz.out]
          go_wp2_with fail
          refine (works10_any _).mono ?_; rintro e w9 ⟨rfl, hb⟩; replace hB := hB.step hb; clear hb
          go_wp2
          go_ret
          exact ⟨rfl, hB⟩)
    · have ka : ¬ (k : Int) < az.length := by omega
      have hcv := conv_sl hSl
      have hSz : (⟨l.toArray⟩ : ByteArray).size = S.size + S.size := by rw [size_mk]; exact hll.out
      generalize (⟨l.toArray⟩ : ByteArray) = T at *
      have hTs : T.size ≤ 20000 := by omega
      clear hSl hll hSz hka
      rcases hzc with ⟨hn, rfl⟩ | ⟨hn, hn', rfl⟩ | ⟨hn, hn', rfl⟩
      all_goals (
        go_wp2_with fail
        refine (decode_any T lsn hl (by unfold maxLen; omega) _).mono ?_; rintro e w3 ⟨rfl, hb⟩; replace hB := hB.step hb; clear hb
        go_wp2_with fail
        refine (rdecode_any T lsn hl (by unfold maxLen; omega) _).mono ?_; rintro e w4 ⟨rfl, hb⟩; replace hB := hB.step hb; clear hb
        go_wp2_with fail
        refine (scan_any T lsn hl (by omega) _).mono ?_; rintro e w5 ⟨v1, rfl, hs1, hb⟩; replace hB := hB.step hb; clear hb
        go_wp2_with fail
        refine (rscan_any T lsn hl (by omega) _).mono ?_; rintro e w6 ⟨v2, rfl, hs2, hb⟩; replace hB := hB.step hb
        have hr1 := (Rd.of_sl hs1).below hb
        have hr2 := Rd.of_sl hs2
        clear hb hs1 hs2
        go_wp2_with fail
        refine (texts_same _ _ _ _ hr1 hr2).mono ?_; rintro e w7 ⟨rfl, hb⟩; replace hB := hB.step hb; clear hb hr1 hr2
        go_wp2_with fail
        refine (fsize_any n (by omega) (by omega) _).mono ?_; rintro e w8 ⟨rfl, rfl⟩
        rw [hsz.out]
        go_wp2_with fail
        refine (works10_any _).mono ?_; rintro e w9 ⟨rfl, hb⟩; replace hB := hB.step hb; clear hb
        go_wp2
        go_ret
        exact ⟨rfl, hB⟩)
end Go.Proofs.Ytfejjjbcloiddaa
