/-
  The step from a walk to a law's row: whatever the arguments are, they read behind the call as before, if below the heap's old size nothing has turned.
-/
import Derived.Test.YtjnggldalggfnaaRows
import Derived.Test.YtjnggldalggfnaaKit
import Derived.WalkKit
import Derived.ProofKit
import Derived.OpenShut
import Derived.ShutString
import Derived.SizedLaws
namespace Go.Proofs.Ytjnggldalggfnaa
open Go.ChangeShapes Go.WideShapes Go.ChangeAt Go.RowKit
theorem own : ownKnob Try.prog.godebug = Option.none := by kernel_rfl
theorem laid_out : laidOutB Try.prog = true := by kernel_rfl
theorem size_reach {s : ByteArray} (h : s.data.toList.length ≤ reachBytes) : s.size ≤ 140737488351232 := by
  have e : s.data.toList.length = s.size := by simp
  rw [e] at h; exact h
theorem trodAll_later {H : Type} {enc : TypeId × Value → H} {W W' : World} (hb : Below W.heap.size W W') : ∀ (ts : List TypeId) (vs : List Value) (ds : List (DataW H)) (p : List MemPlace),
    (∀ t ∈ ts, Try.prog.readableRec t = true ∧ t < Try.prog.types.size) → (∀ x ∈ p, x.block < W.heap.size) →
    DataW.TrodAll enc Try.prog W 0 (fun _ => true) true ts vs ds p → DataW.TrodAll enc Try.prog W' 0 (fun b => decide (b < W.heap.size)) true ts vs ds p
  | [], vs, ds, p, _, _, h => by
    cases vs <;> cases ds <;> simp [DataW.TrodAll] at h ⊢
    exact h
  | t :: ts, vs, ds, p, hr, hlt, h => by
    obtain ⟨v, vs', d, ds', p1, p2, rfl, rfl, rfl, h1, h2⟩ := trodAll_cons h
    refine trodAll_cons_mk (Below.trod laid_out (hr t (by simp)).1 (hr t (by simp)).2 h1 hb (fun x hx => hlt x (by simp [hx]))) ?_
    exact trodAll_later hb ts vs' ds' p2 (fun u hu => hr u (by simp [hu])) (fun x hx => hlt x (by simp [hx])) h2
theorem law_post {H : Type} {enc : TypeId × Value → H} {f : Func} {s : ChangeSpec} {W W' : World} {args : Array Value} {ds : List (DataW H)} {before : List MemPlace} (tb : TypeId) (hu : Try.prog.underlying tb = some .bool)
    (hr : ∀ t ∈ f.params.toList, Try.prog.readableRec t = true ∧ t < Try.prog.types.size) (hvars : s.vars = []) (hrt : f.resultTypes = #[tb])
    (hW : DataW.Whole enc Try.prog f.params.toList s.vars false W args.toList ds [] before)
    (hspec : s.fn H (ds ++ []) = { results := [.lit (.bool true)], args := ds }) (hb : Below W.heap.size W W') :
    s.post enc Try.prog f false true false false W args (.bool true) W' := by
  obtain ⟨p, q, hA, hV, rfl, hfz, hnd⟩ := hW
  have hq : q = [] := by rw [hvars] at hV; simpa [DataW.TrodVars] using hV
  subst hq
  have hlt : ∀ x ∈ p, x.block < W.heap.size := fun x hx => by
    have := DataW.Whole.lt (show DataW.Whole enc Try.prog f.params.toList s.vars false W args.toList ds [] (p ++ []) from ⟨p, [], hA, hV, rfl, hfz, hnd⟩)
    simpa using this x (by simp [hx])
  refine ⟨ds, [], p ++ [], [], p, [], ⟨p, [], hA, hV, rfl, hfz, hnd⟩, ?_, ?_, ?_, hb.frame _, fun h => by cases h⟩
  · rw [hspec, hrt]
    exact trodAll_cons_mk (shut_bool hu true) trodAll_mk0
  · rw [hspec]
    exact trodAll_later hb _ _ _ _ hr hlt hA
  · rw [hspec, hvars]
    rfl
end Go.Proofs.Ytjnggldalggfnaa
