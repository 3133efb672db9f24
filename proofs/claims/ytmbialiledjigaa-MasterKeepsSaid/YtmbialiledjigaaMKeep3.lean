/-
  MasterKeeps, whatever comes in.
-/
import Derived.Test.YtmbialiledjigaaMKeep2
namespace Go.Proofs.Ytmbialiledjigaa
open Go.RowKit
open PMst (Mst)
theorem masterKeeps_any (v : Value) (l : List Mst) (from' fu : Nat) (hfr : from' < 65536) (hfu : fu < 256) (kp : Bool) (w : World) (h : RdMsts w v l) (hok : ∀ x ∈ l, x.Ok) :
    Calls Try.prog 6 #[v, .int .u16 from', .int .u8 fu, .bool kp] w fun e w' => e = .returned (.bool true) ∧ Below w.heap.size w w' := by
  by_cases h1 : l.length ≤ 20
  · by_cases h2 : l = []
    · subst h2
      obtain ⟨p, c, rfl, h3, h4, h5⟩ := h
      clear h5 hok
      go_enter Try.func6, Try.ntmps6
      go_wp2_with fail
      refine (works12_any _).mono ?_
      rintro e w10 ⟨rfl, hb⟩
      go_wp2
      go_ret
      exact ⟨rfl, hb⟩
    · exact masterKeeps_ok w v l h hok from' fu hfr hfu kp h1 h2
  · obtain ⟨p, c, rfl, h3, h4, h5⟩ := h
    unfold maxLen at h4
    have f1 : (20 : Int) < l.length := by omega
    clear h5 hok
    go_enter Try.func6, Try.ntmps6
    go_wp2_with fail
    refine (works12_any _).mono ?_
    rintro e w10 ⟨rfl, hb⟩
    go_wp2
    go_ret
    exact ⟨rfl, hb⟩
end Go.Proofs.Ytmbialiledjigaa
