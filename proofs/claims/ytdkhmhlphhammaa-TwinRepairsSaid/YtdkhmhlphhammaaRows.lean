/-
  No cell of these rows narrows 'for every input' (looked for: loops, veiled, ifaces, maps, wideKeys, modest, calm, conditions, laid).
  DERIVED. THE GIVEN ROWS OF THIS SEAT. 3 by the template 'for every input the law returns true; each argument reads behind the call as it read before'; 0 by the template 'total and deterministic' (their statements: YtdkhmhlphhammaaTotals.lean).
  GIVEN WITH THE SEED: the statements are not yours to turn. If you find one false, say at which input.
  Laid BY PROGRAM, IN A SANDBOX (cutbox-rows.mjs): the forced cells as the released guide's own fill.sh prints them over the translation 8eb0c0774c1e11b5… (all of the seat's roots in one cut). By AI agents, Wed Nov 11 2026. No macro, syntax, notation, axiom, sorry.
-/
import Derived.Test.YtdkhmhlphhammaaChecked
import GoSem.Claim
import GoSem.ClaimJoined
import GoSem.ClaimMapViews
import Derived.JoinedTies
import Derived.KernelRfl
namespace Go.Proofs.Ytdkhmhlphhammaa
/- THE CELL 'sum', in the pinned program and in every row, IS THE sha256 OF THE DUMP (.gsa) THAT YtdkhmhlphhammaaProg.lean LOADS. Nothing in Lean hashes anything: it is a label: what it is worth is what the hold of that sum in a sandbox is worth. -/
noncomputable def Try.pinned : Pinned := { name := "ytdkhmhlphhammaa", sum := "8eb0c0774c1e11b55ca22e712955570ce6903e52137c4cb41db5cdf9caee24a6", checked := Try.checked }
namespace Rows
def none {H : Type} : Left H := { results := [], args := [] }

/-- 'pentimentolaw14.TwinRepairs': WHATEVER THE INPUT: true; the input reads as it did. -/
def twinRepairsSpec : ChangeSpec := { name := "twinRepairs", fn := fun _ => fun
  | [d1, d2, d3, d4] => { results := [.lit (.bool true)], args := [d1, d2, d3, d4] }
  | _ => none }
def twinRepairsRow : OpenClaim := { program := "ytdkhmhlphhammaa", sum := "8eb0c0774c1e11b55ca22e712955570ce6903e52137c4cb41db5cdf9caee24a6", func := "pentimento/pentimentolaw14.TwinRepairs", spec := "twinRepairs", unfollowed := true, recurses := true, apart := false }
def TwinRepairsSaid : Prop := twinRepairsRow.holds Try.pinned (OpenSpec.ofChange twinRepairsSpec)

/-- ITS FALSE NEIGHBOUR: 'it returns false'. Refute it at one input. -/
def twinRepairsWrong : ChangeSpec := { name := "twinRepairs", fn := fun _ => fun
  | [d1, d2, d3, d4] => { results := [.lit (.bool false)], args := [d1, d2, d3, d4] }
  | _ => none }
def TwinRepairsWrongFalsely : Prop := twinRepairsRow.holds Try.pinned (OpenSpec.ofChange twinRepairsWrong)

/-- 'pentimentolaw14.TwinWhole': WHATEVER THE INPUT: true; the input reads as it did. -/
def twinWholeSpec : ChangeSpec := { name := "twinWhole", fn := fun _ => fun
  | [d1, d2, d3, d4, d5, d6] => { results := [.lit (.bool true)], args := [d1, d2, d3, d4, d5, d6] }
  | _ => none }
def twinWholeRow : OpenClaim := { program := "ytdkhmhlphhammaa", sum := "8eb0c0774c1e11b55ca22e712955570ce6903e52137c4cb41db5cdf9caee24a6", func := "pentimento/pentimentolaw14.TwinWhole", spec := "twinWhole", unfollowed := true, recurses := true, apart := false }
def TwinWholeSaid : Prop := twinWholeRow.holds Try.pinned (OpenSpec.ofChange twinWholeSpec)

/-- ITS FALSE NEIGHBOUR: 'it returns false'. Refute it at one input. -/
def twinWholeWrong : ChangeSpec := { name := "twinWhole", fn := fun _ => fun
  | [d1, d2, d3, d4, d5, d6] => { results := [.lit (.bool false)], args := [d1, d2, d3, d4, d5, d6] }
  | _ => none }
def TwinWholeWrongFalsely : Prop := twinWholeRow.holds Try.pinned (OpenSpec.ofChange twinWholeWrong)

/-- 'pentimentolaw14.TwinApart': WHATEVER THE INPUT: true; the input reads as it did. -/
def twinApartSpec : ChangeSpec := { name := "twinApart", fn := fun _ => fun
  | [d1, d2, d3, d4] => { results := [.lit (.bool true)], args := [d1, d2, d3, d4] }
  | _ => none }
def twinApartRow : OpenClaim := { program := "ytdkhmhlphhammaa", sum := "8eb0c0774c1e11b55ca22e712955570ce6903e52137c4cb41db5cdf9caee24a6", func := "pentimento/pentimentolaw14.TwinApart", spec := "twinApart", unfollowed := true, recurses := true, apart := false }
def TwinApartSaid : Prop := twinApartRow.holds Try.pinned (OpenSpec.ofChange twinApartSpec)

/-- ITS FALSE NEIGHBOUR: 'it returns false'. Refute it at one input. -/
def twinApartWrong : ChangeSpec := { name := "twinApart", fn := fun _ => fun
  | [d1, d2, d3, d4] => { results := [.lit (.bool false)], args := [d1, d2, d3, d4] }
  | _ => none }
def TwinApartWrongFalsely : Prop := twinApartRow.holds Try.pinned (OpenSpec.ofChange twinApartWrong)

/- THE SECOND FORM. 'bulk': how many values and letters a reading holds, each counted each time it is reached (what is shared counts as often as it is met; a slice's spare places count too). A statement '..UptoSaid' is the law's where the arguments, and the package variables that the reading takes, are together of bulk at most 1048576: NARROWER than '..Said'. Prove '..Said' where nothing that the law and all that it calls make is longer than what came in: it says more and counts as full. Else prove '..UptoSaid'. A law counts once. -/
mutual
def uptoBulk {H : Type} : DataW H → Nat
  | .lit (.string bytes) => bytes.length + 1
  | .lit _ => 1
  | .nil => 1
  | .ptr d => uptoBulk d + 1
  | .slice elems spare => uptoBulkAll elems + uptoBulkAll spare + 1
  | .agg parts => uptoBulkAll parts + 1
  | .iface _ d => uptoBulk d + 1
  | .map entries => uptoBulkEntries entries + 1
  | .held _ => 1
def uptoBulkAll {H : Type} : List (DataW H) → Nat
  | [] => 0
  | d :: r => uptoBulk d + uptoBulkAll r
def uptoBulkEntries {H : Type} : List (Lit × DataW H) → Nat
  | [] => 0
  | x :: r => uptoBulkEntry x + uptoBulkEntries r
def uptoBulkEntry {H : Type} : Lit × DataW H → Nat
  | (.string bytes, d) => bytes.length + uptoBulk d + 1
  | (_, d) => uptoBulk d + 1
 end
def uptoSmall : (H : Type) → List (DataW H) → Bool := fun _ ds => decide (uptoBulkAll ds ≤ 1048576)
def OpenSpec.upto (s : _root_.Go.ChangeSpec) : _root_.Go.OpenSpec := { _root_.Go.OpenSpec.ofChange s with cond := some uptoSmall }

/-- 'pentimentolaw14.TwinRepairs', WHERE WHAT IT READS IS OF BULK AT MOST 1048576: true; the input reads as it did. -/
def twinRepairsUptoRow : OpenClaim := { program := "ytdkhmhlphhammaa", sum := "8eb0c0774c1e11b55ca22e712955570ce6903e52137c4cb41db5cdf9caee24a6", func := "pentimento/pentimentolaw14.TwinRepairs", spec := "twinRepairs", unfollowed := true, recurses := true, apart := false, narrowed := true }
def TwinRepairsUptoSaid : Prop := twinRepairsUptoRow.holds Try.pinned (OpenSpec.upto twinRepairsSpec)

/-- 'pentimentolaw14.TwinWhole', WHERE WHAT IT READS IS OF BULK AT MOST 1048576: true; the input reads as it did. -/
def twinWholeUptoRow : OpenClaim := { program := "ytdkhmhlphhammaa", sum := "8eb0c0774c1e11b55ca22e712955570ce6903e52137c4cb41db5cdf9caee24a6", func := "pentimento/pentimentolaw14.TwinWhole", spec := "twinWhole", unfollowed := true, recurses := true, apart := false, narrowed := true }
def TwinWholeUptoSaid : Prop := twinWholeUptoRow.holds Try.pinned (OpenSpec.upto twinWholeSpec)

/-- 'pentimentolaw14.TwinApart', WHERE WHAT IT READS IS OF BULK AT MOST 1048576: true; the input reads as it did. -/
def twinApartUptoRow : OpenClaim := { program := "ytdkhmhlphhammaa", sum := "8eb0c0774c1e11b55ca22e712955570ce6903e52137c4cb41db5cdf9caee24a6", func := "pentimento/pentimentolaw14.TwinApart", spec := "twinApart", unfollowed := true, recurses := true, apart := false, narrowed := true }
def TwinApartUptoSaid : Prop := twinApartUptoRow.holds Try.pinned (OpenSpec.upto twinApartSpec)

end Rows
end Go.Proofs.Ytdkhmhlphhammaa
