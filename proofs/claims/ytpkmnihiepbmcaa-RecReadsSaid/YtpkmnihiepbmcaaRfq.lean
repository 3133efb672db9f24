/-
  Plain: bytes that are too short or too long are no record. No program in sight.
-/
import Derived.Test.YtpkmnihiepbmcaaPDec
namespace PRec
theorem good_parts {l : List UInt8} (h : good l = true) : may (parse l) = true ∧ enc (parse l) = l := by unfold good at h; simpa using h
theorem good_length {l : List UInt8} (h : good l = true) : 17 ≤ l.length ∧ l.length ≤ 4096 := by
  obtain ⟨h1, h2⟩ := good_parts h
  have := enc_length h1
  rwa [h2] at this
theorem dec_size (l : List UInt8) (h : l.length < 17 ∨ 4096 < l.length) : dec l = (zero, 7) := by
  have : good l = false := by
    cases hg : good l
    · rfl
    · have := good_length hg; omega
  unfold dec; rw [this]; rfl
end PRec
