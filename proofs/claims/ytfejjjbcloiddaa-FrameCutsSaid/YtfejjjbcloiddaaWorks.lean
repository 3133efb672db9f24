/-
  works of layer 10's laws returns true.
-/
import Derived.Test.YtfejjjbcloiddaaFrm
import Derived.Test.YtfejjjbcloiddaaFrame
namespace Go.Proofs.Ytfejjjbcloiddaa
open Go.ChangeShapes Go.WideShapes Go.ChangeAt Go.RowKit
open Go.ChangeMaps (open_string shut_string)
def ex17 : List UInt8 := [0, 3, 0, 0, 0, 0, 0, 0, 0, 7, 179, 253, 230, 160, 97, 98, 99]
theorem x_enc : PFrm.encode 7 [97, 98, 99] = ([0, 3, 0, 0, 0, 0, 0, 0, 0, 7, 179, 253, 230, 160, 97, 98, 99], 0) := by decide +kernel
theorem x_dec1 : PFrm.decode [0, 3, 0, 0, 0, 0, 0, 0, 0, 7, 179, 253, 230, 160, 97, 98, 99, 120] 7 = ([97, 98, 99], 17, 0) := by decide +kernel
theorem x_dec2 : PFrm.decode [0, 3, 0, 0, 0, 0, 0, 0, 0, 7, 179, 253, 230, 160, 97, 98, 99] 8 = ([], 0, 7) := by decide +kernel
theorem x_dec3 : PFrm.decode [0, 3, 0, 0, 0, 0, 0, 0, 0, 7, 179, 253, 230, 160, 97, 98] 7 = ([], 0, 6) := by decide +kernel
theorem x_sz1 : PFrm.size 17 = 31 := by decide +kernel
theorem x_sz2 : PFrm.size 0 = 0 := by decide +kernel
theorem x_app : (⟨#[0, 3, 0, 0, 0, 0, 0, 0, 0, 7, 179, 253, 230, 160, 97, 98, 99]⟩ : ByteArray) ++ ⟨#[120]⟩ = ⟨#[0, 3, 0, 0, 0, 0, 0, 0, 0, 7, 179, 253, 230, 160, 97, 98, 99, 120]⟩ := by decide +kernel
theorem x_ext16 : (⟨#[0, 3, 0, 0, 0, 0, 0, 0, 0, 7, 179, 253, 230, 160, 97, 98, 99]⟩ : ByteArray).extract 0 16 = ⟨#[0, 3, 0, 0, 0, 0, 0, 0, 0, 7, 179, 253, 230, 160, 97, 98]⟩ := by decide +kernel
theorem x_ext10 : ((⟨#[0, 3, 0, 0, 0, 0, 0, 0, 0, 7, 179, 253, 230, 160, 97, 98, 99]⟩ : ByteArray).extract 0 10).toList = [0, 3, 0, 0, 0, 0, 0, 0, 0, 7] := by decide +kernel
theorem x_dec4 : PFrm.decode [0, 3, 0, 0, 0, 0, 0, 0, 0, 7] 7 = ([], 0, 6) := by decide +kernel
set_option maxRecDepth 100000 in
set_option maxHeartbeats 2000000 in
theorem works10_any (w : World) : Calls Try.prog 7 #[] w fun e w' => e = .returned (.bool true) ∧ Below w.heap.size w w' := by
  have e1 := x_enc
  have e2 := x_dec1
  have e3 := x_dec2
  have e4 := x_dec3
  have e5 := x_sz1
  have e6 := x_sz2
  have e7 := x_app
  have e8 := x_ext10
  have hB := Below.refl w.heap.size w
  go_enter Try.func7, Try.ntmps7
  go_wp2_with fail
  refine (encode_any 7 _ (by decide) (by decide) _).mono ?_; rintro e w1 ⟨rfl, hb⟩; replace hB := hB.step hb; clear hb
  go_wp2_with fail
  refine (decode_any _ 7 (by decide) (by decide) _).mono ?_; rintro e w2 ⟨rfl, hb⟩; replace hB := hB.step hb; clear hb
  go_wp2_with fail
  refine (decode_any _ 8 (by decide) (by decide) _).mono ?_; rintro e w3 ⟨rfl, hb⟩; replace hB := hB.step hb; clear hb
  go_wp2_with fail
  rw [x_ext16]
  refine (decode_any _ 7 (by decide) (by decide) _).mono ?_; rintro e w4 ⟨rfl, hb⟩; replace hB := hB.step hb; clear hb
  go_wp2_with fail
  refine (fsize_any 17 (by decide) (by decide) _).mono ?_; rintro e w5 ⟨rfl, rfl⟩
  go_wp2_with fail
  refine (fsize_any 0 (by decide) (by decide) _).mono ?_; rintro e w6 ⟨rfl, rfl⟩
  go_wp2
  go_ret
  exact ⟨rfl, hB⟩
end Go.Proofs.Ytfejjjbcloiddaa
