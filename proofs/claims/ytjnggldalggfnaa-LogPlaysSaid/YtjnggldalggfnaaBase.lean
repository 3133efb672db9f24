/-
  Facts on the types of one translation: strings, slices of bytes.
-/
import Derived.Test.YtjnggldalggfnaaRows
import Derived.Test.YtjnggldalggfnaaPlain
import Derived.Test.YtjnggldalggfnaaKit
import Derived.WalkKit
import Derived.ProofKit
import Derived.OpenShut
import Derived.ShutString
import Derived.Deep.WholeRow
import Derived.Deep.MidRow
import Derived.Lib.Hide
namespace Go.Proofs.Ytjnggldalggfnaa
open Go.RowKit
@[go_sem] theorem conv_bytes (w : World) (s : ByteArray) : (convert 9 43 (.string s)).run Try.prog w = .ok (.slice (some ⟨w.heap.size, 0, none⟩) s.size (grownCap w s.size 0 5))
      (w.drew.alloc (.cells (bytesRow s (grownCap w s.size 0 5)) 5 ((bytesRow s (grownCap w s.size 0 5)).size, (bytesRow s (grownCap w s.size 0 5)).size + 1))) :=
  run_bytes_of_string w _ _ _ s Try.underlying9 Try.underlying43 Try.underlying5
theorem elem_u8 : ElemT Try.prog 43 5 1 1 := ElemT.mk' (z := .int .u8 0) Try.underlying43 (by kernel_rfl) rfl (by decide)
theorem conv_sl {w : World} {base : Nat} {v : Value} {n : Nat} {l : List UInt8} (h : Sl w base 5 1 v n (bytesV l)) : (convert 43 9 v).run Try.prog w = .ok (.string ⟨l.toArray⟩) w :=
  run_conv_sl Try.underlying43 Try.underlying5 Try.underlying9 h
theorem make_bytes (n : Nat) (h : n ≤ 140737488355328) (w : World) : (Instr.makeSlice 43 (.int .i64 n) (.int .i64 n)).run Try.prog w = .ok (.slice (some ⟨w.heap.size, 0, none⟩) n n) (w.alloc (.cells (madeB n) 5)) := by
  have E := elem_u8
  obtain ⟨ht, _, i, z, hi, hz, hs, hb, _⟩ := E
  have hz' : i.zero = some (.int .u8 0) := by
    have h0 : (Try.prog.info? 5).map (fun i => (i.zero, i.size, i.bytes)) = some (some (.int .u8 0), 1, 1) := by kernel_rfl
    rw [hi] at h0; simp at h0; exact h0.1
  exact run_make_bytes ht hi hz' hs hb n h w
theorem take_snoc (s : ByteArray) (k : Nat) (h : k < s.size) : s.data.toList.take (k + 1) = s.data.toList.take k ++ [s[k]] := by
  rw [List.take_succ_eq_append_getElem (by simpa using h)]; rfl
theorem ret_str {a b : ByteArray} (h : a = b) : Ending.returned (.string a) = .returned (.string b) := by rw [h]
theorem app_mk (s : ByteArray) (l : List UInt8) : s ++ (⟨l.toArray⟩ : ByteArray) = ⟨(s.data.toList ++ l).toArray⟩ := by
  have := ByteArray.mk_append_mk s.data.toList l
  rw [Array.toArray_toList] at this; exact this
theorem extract_take (s : ByteArray) (n : Nat) : s.extract 0 n = ⟨(s.data.toList.take n).toArray⟩ := by
  have := ByteArray.extract_mk s.data.toList 0 n
  rw [Array.toArray_toList] at this; rw [this]; simp
theorem bytes_eq (s : ByteArray) : s.toList = s.data.toList := ByteArray.toList_eq s
theorem size_mk (l : List UInt8) : (ByteArray.mk l.toArray).size = l.length := rfl
end Go.Proofs.Ytjnggldalggfnaa
