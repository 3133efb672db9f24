/-
  FrameTells returns true where texts are not too long.
-/
import Derived.Test.YtfejjjbcloiddaaTellsL
import Derived.Test.YtfejjjbcloiddaaTellsM
namespace Go.Proofs.Ytfejjjbcloiddaa
open Go.RowKit
theorem frameTells_ok (lsn : Nat) (text s : ByteArray) (own : Bool) (va vt : Value) (az tz : List Int) (n : Int) (hl : lsn < 18446744073709551616) (ht : text.size ≤ 8192) (hs : s.size ≤ 4096)
    (w : World) (ha : Rd w va (az.map (Value.int .u16))) (hto : Rd w vt (tz.map (Value.int .u8))) (hab : ∀ z ∈ az, 0 ≤ z ∧ z < 65536) (htb : ∀ z ∈ tz, 0 ≤ z ∧ z < 256) (hal : az.length ≤ 8) (htl : tz.length ≤ 8)
    (hn1 : -9223372036854775808 ≤ n) (hn2 : n ≤ 9223372036854775807) :
    Calls Try.prog 5 #[.int .u64 lsn, .string text, .string s, .bool own, va, vt, .int .i64 n] w fun e w' => e = .returned (.bool true) ∧ Below w.heap.size w w' := by
  obtain ⟨pa, ca, rfl, ha2, ha3, ha4⟩ := ha
  obtain ⟨pt, ct, rfl, ht2, ht3, ht4⟩ := hto
  rw [List.length_map] at ha2 ht2
  rw [List.length_map, List.length_map]
  cases hm : PFrm.may lsn text.data.toList
  · exact frameTells_not own lsn text s pa pt ca ct az tz n hl ht hs w hal htl hn1 hn2 (enc_not lsn text.data.toList (by rw [hm]; decide))
  · have hen := enc_may lsn text.data.toList hm
    have hfl := PFrm.frame_length lsn text.data.toList
    rw [list_size] at hfl
    obtain ⟨S, hS⟩ : ∃ S : ByteArray, S.data.toList = PFrm.frame lsn text.data.toList := ⟨⟨(PFrm.frame lsn text.data.toList).toArray⟩, by simp⟩
    have hSs : S.size = text.size + 14 := by rw [← list_size, hS, hfl]
    rw [← hS] at hen
    have hne : S.toList.isEmpty = false := by
      rw [bytes_eq]; cases hx : S.data.toList with
      | nil => have := list_size S; rw [hx] at this; simp at this; omega
      | cons a b => rfl
    cases own
    · exact frameTells_by lsn text s S pa pt ca ct az tz n hl ht hs w hal htl hn1 hn2 hen hne (by omega)
    · exact frameTells_own lsn text s S pa pt ca ct az tz n hl ht hs w ha2 ha3 ht2 ht3 ha4 ht4 hab htb hal htl hn1 hn2 hen hne (by omega) (by omega)
end Go.Proofs.Ytfejjjbcloiddaa
