/-
  No cell of these rows narrows 'for every input' (looked for: loops, veiled, ifaces, maps, wideKeys, modest, calm, conditions, laid).
  DERIVED. THE GIVEN ROWS OF THIS SEAT. 4 by the template 'for every input the law returns true; each argument reads behind the call as it read before'; 0 by the template 'total and deterministic' (their statements: YtmbialiledjigaaTotals.lean).
  GIVEN WITH THE SEED: the statements are not yours to turn. If you find one false, say at which input.
  Laid BY PROGRAM, IN A SANDBOX (cutbox-rows.mjs): the forced cells as the released guide's own fill.sh prints them over the translation 980ac29655196428… (all of the seat's roots in one cut). By AI agents, Wed Nov 11 2026. No macro, syntax, notation, axiom, sorry.
-/
import Derived.Test.YtmbialiledjigaaChecked
import GoSem.Claim
import GoSem.ClaimJoined
import GoSem.ClaimMapViews
import Derived.JoinedTies
import Derived.KernelRfl
namespace Go.Proofs.Ytmbialiledjigaa
/- THE CELL 'sum', in the pinned program and in every row, IS THE sha256 OF THE DUMP (.gsa) THAT YtmbialiledjigaaProg.lean LOADS. Nothing in Lean hashes anything: it is a label: what it is worth is what the hold of that sum in a sandbox is worth. -/
noncomputable def Try.pinned : Pinned := { name := "ytmbialiledjigaa", sum := "980ac29655196428c01017368339cf130e7cfefd99d0ce9ad562360a5b98e782", checked := Try.checked }
namespace Rows
def none {H : Type} : Left H := { results := [], args := [] }

/-- 'pentimentolaw12.MasterTells': WHATEVER THE INPUT: true; the input reads as it did. -/
def masterTellsSpec : ChangeSpec := { name := "masterTells", fn := fun _ => fun
  | [d1, d2, d3, d4, d5] => { results := [.lit (.bool true)], args := [d1, d2, d3, d4, d5] }
  | _ => none }
def masterTellsRow : OpenClaim := { program := "ytmbialiledjigaa", sum := "980ac29655196428c01017368339cf130e7cfefd99d0ce9ad562360a5b98e782", func := "pentimento/pentimentolaw12.MasterTells", spec := "masterTells", unfollowed := true, recurses := true, apart := false }
def MasterTellsSaid : Prop := masterTellsRow.holds Try.pinned (OpenSpec.ofChange masterTellsSpec)

/-- ITS FALSE NEIGHBOUR: 'it returns false'. Refute it at one input. -/
def masterTellsWrong : ChangeSpec := { name := "masterTells", fn := fun _ => fun
  | [d1, d2, d3, d4, d5] => { results := [.lit (.bool false)], args := [d1, d2, d3, d4, d5] }
  | _ => none }
def MasterTellsWrongFalsely : Prop := masterTellsRow.holds Try.pinned (OpenSpec.ofChange masterTellsWrong)

/-- 'pentimentolaw12.MasterLoads': WHATEVER THE INPUT: true; the input reads as it did. -/
def masterLoadsSpec : ChangeSpec := { name := "masterLoads", fn := fun _ => fun
  | [d1, d2, d3, d4, d5, d6] => { results := [.lit (.bool true)], args := [d1, d2, d3, d4, d5, d6] }
  | _ => none }
def masterLoadsRow : OpenClaim := { program := "ytmbialiledjigaa", sum := "980ac29655196428c01017368339cf130e7cfefd99d0ce9ad562360a5b98e782", func := "pentimento/pentimentolaw12.MasterLoads", spec := "masterLoads", unfollowed := true, recurses := true, apart := false }
def MasterLoadsSaid : Prop := masterLoadsRow.holds Try.pinned (OpenSpec.ofChange masterLoadsSpec)

/-- ITS FALSE NEIGHBOUR: 'it returns false'. Refute it at one input. -/
def masterLoadsWrong : ChangeSpec := { name := "masterLoads", fn := fun _ => fun
  | [d1, d2, d3, d4, d5, d6] => { results := [.lit (.bool false)], args := [d1, d2, d3, d4, d5, d6] }
  | _ => none }
def MasterLoadsWrongFalsely : Prop := masterLoadsRow.holds Try.pinned (OpenSpec.ofChange masterLoadsWrong)

/-- 'pentimentolaw12.MasterBack': WHATEVER THE INPUT: true; the input reads as it did. -/
def masterBackSpec : ChangeSpec := { name := "masterBack", fn := fun _ => fun
  | [d1, d2, d3, d4] => { results := [.lit (.bool true)], args := [d1, d2, d3, d4] }
  | _ => none }
def masterBackRow : OpenClaim := { program := "ytmbialiledjigaa", sum := "980ac29655196428c01017368339cf130e7cfefd99d0ce9ad562360a5b98e782", func := "pentimento/pentimentolaw12.MasterBack", spec := "masterBack", unfollowed := true, recurses := true, apart := false }
def MasterBackSaid : Prop := masterBackRow.holds Try.pinned (OpenSpec.ofChange masterBackSpec)

/-- ITS FALSE NEIGHBOUR: 'it returns false'. Refute it at one input. -/
def masterBackWrong : ChangeSpec := { name := "masterBack", fn := fun _ => fun
  | [d1, d2, d3, d4] => { results := [.lit (.bool false)], args := [d1, d2, d3, d4] }
  | _ => none }
def MasterBackWrongFalsely : Prop := masterBackRow.holds Try.pinned (OpenSpec.ofChange masterBackWrong)

/-- 'pentimentolaw12.MasterKeeps': WHATEVER THE INPUT: true; the input reads as it did. -/
def masterKeepsSpec : ChangeSpec := { name := "masterKeeps", fn := fun _ => fun
  | [d1, d2, d3, d4] => { results := [.lit (.bool true)], args := [d1, d2, d3, d4] }
  | _ => none }
def masterKeepsRow : OpenClaim := { program := "ytmbialiledjigaa", sum := "980ac29655196428c01017368339cf130e7cfefd99d0ce9ad562360a5b98e782", func := "pentimento/pentimentolaw12.MasterKeeps", spec := "masterKeeps", unfollowed := true, recurses := true, apart := false }
def MasterKeepsSaid : Prop := masterKeepsRow.holds Try.pinned (OpenSpec.ofChange masterKeepsSpec)

/-- ITS FALSE NEIGHBOUR: 'it returns false'. Refute it at one input. -/
def masterKeepsWrong : ChangeSpec := { name := "masterKeeps", fn := fun _ => fun
  | [d1, d2, d3, d4] => { results := [.lit (.bool false)], args := [d1, d2, d3, d4] }
  | _ => none }
def MasterKeepsWrongFalsely : Prop := masterKeepsRow.holds Try.pinned (OpenSpec.ofChange masterKeepsWrong)

/- THE SECOND FORM. 'bulk': how many values and letters a reading holds, each counted each time it is reached (what is shared counts as often as it is met; a slice's spare places count too). A statement '..UptoSaid' is the law's where the arguments, and the package variables that the reading takes, are together of bulk at most 1048576: NARROWER than '..Said'. Prove '..Said' where nothing that the law and all that it calls make is longer than what came in: it says more and counts as full. Else prove '..UptoSaid'. A law counts once. -/
mutual
def uptoBulk {H : Type} : DataW H → Nat
  | .lit (.string bytes) => bytes.length + 1
  | .lit _ => 1
  | .nil => 1
  | .ptr d => uptoBulk d + 1
  | .slice elems spare => uptoBulkAll elems + uptoBulkAll spare + 1
  | .agg parts => uptoBulkAll parts + 1
  | .iface _ d => uptoBulk d + 1
  | .map entries => uptoBulkEntries entries + 1
  | .held _ => 1
def uptoBulkAll {H : Type} : List (DataW H) → Nat
  | [] => 0
  | d :: r => uptoBulk d + uptoBulkAll r
def uptoBulkEntries {H : Type} : List (Lit × DataW H) → Nat
  | [] => 0
  | x :: r => uptoBulkEntry x + uptoBulkEntries r
def uptoBulkEntry {H : Type} : Lit × DataW H → Nat
  | (.string bytes, d) => bytes.length + uptoBulk d + 1
  | (_, d) => uptoBulk d + 1
 end
def uptoSmall : (H : Type) → List (DataW H) → Bool := fun _ ds => decide (uptoBulkAll ds ≤ 1048576)
def OpenSpec.upto (s : _root_.Go.ChangeSpec) : _root_.Go.OpenSpec := { _root_.Go.OpenSpec.ofChange s with cond := some uptoSmall }

/-- 'pentimentolaw12.MasterTells', WHERE WHAT IT READS IS OF BULK AT MOST 1048576: true; the input reads as it did. -/
def masterTellsUptoRow : OpenClaim := { program := "ytmbialiledjigaa", sum := "980ac29655196428c01017368339cf130e7cfefd99d0ce9ad562360a5b98e782", func := "pentimento/pentimentolaw12.MasterTells", spec := "masterTells", unfollowed := true, recurses := true, apart := false, narrowed := true }
def MasterTellsUptoSaid : Prop := masterTellsUptoRow.holds Try.pinned (OpenSpec.upto masterTellsSpec)

/-- 'pentimentolaw12.MasterLoads', WHERE WHAT IT READS IS OF BULK AT MOST 1048576: true; the input reads as it did. -/
def masterLoadsUptoRow : OpenClaim := { program := "ytmbialiledjigaa", sum := "980ac29655196428c01017368339cf130e7cfefd99d0ce9ad562360a5b98e782", func := "pentimento/pentimentolaw12.MasterLoads", spec := "masterLoads", unfollowed := true, recurses := true, apart := false, narrowed := true }
def MasterLoadsUptoSaid : Prop := masterLoadsUptoRow.holds Try.pinned (OpenSpec.upto masterLoadsSpec)

/-- 'pentimentolaw12.MasterBack', WHERE WHAT IT READS IS OF BULK AT MOST 1048576: true; the input reads as it did. -/
def masterBackUptoRow : OpenClaim := { program := "ytmbialiledjigaa", sum := "980ac29655196428c01017368339cf130e7cfefd99d0ce9ad562360a5b98e782", func := "pentimento/pentimentolaw12.MasterBack", spec := "masterBack", unfollowed := true, recurses := true, apart := false, narrowed := true }
def MasterBackUptoSaid : Prop := masterBackUptoRow.holds Try.pinned (OpenSpec.upto masterBackSpec)

/-- 'pentimentolaw12.MasterKeeps', WHERE WHAT IT READS IS OF BULK AT MOST 1048576: true; the input reads as it did. -/
def masterKeepsUptoRow : OpenClaim := { program := "ytmbialiledjigaa", sum := "980ac29655196428c01017368339cf130e7cfefd99d0ce9ad562360a5b98e782", func := "pentimento/pentimentolaw12.MasterKeeps", spec := "masterKeeps", unfollowed := true, recurses := true, apart := false, narrowed := true }
def MasterKeepsUptoSaid : Prop := masterKeepsUptoRow.holds Try.pinned (OpenSpec.upto masterKeepsSpec)

end Rows
end Go.Proofs.Ytmbialiledjigaa
