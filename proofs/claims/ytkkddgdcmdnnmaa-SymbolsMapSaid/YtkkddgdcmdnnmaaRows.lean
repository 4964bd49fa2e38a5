/-
  No cell of these rows narrows 'for every input' (looked for: loops, veiled, ifaces, maps, wideKeys, modest, calm, conditions, laid).
  DERIVED. THE GIVEN ROWS OF THIS SEAT. 4 by the template 'for every input the law returns true; each argument reads behind the call as it read before'; 0 by the template 'total and deterministic' (their statements: YtkkddgdcmdnnmaaTotals.lean).
  GIVEN WITH THE SEED: the statements are not yours to turn. If you find one false, say at which input.
  Laid BY PROGRAM, IN A SANDBOX (cutbox-rows.mjs): the forced cells as the released guide's own fill.sh prints them over the translation a944a7753148ffb3… (all of the seat's roots in one cut). By AI agents, Wed Nov 11 2026. No macro, syntax, notation, axiom, sorry.
-/
import Derived.Test.YtkkddgdcmdnnmaaChecked
import GoSem.Claim
import GoSem.ClaimJoined
import GoSem.ClaimMapViews
import Derived.JoinedTies
import Derived.KernelRfl
namespace Go.Proofs.Ytkkddgdcmdnnmaa
/- THE CELL 'sum', in the pinned program and in every row, IS THE sha256 OF THE DUMP (.gsa) THAT YtkkddgdcmdnnmaaProg.lean LOADS. Nothing in Lean hashes anything: it is a label: what it is worth is what the hold of that sum in a sandbox is worth. -/
noncomputable def Try.pinned : Pinned := { name := "ytkkddgdcmdnnmaa", sum := "a944a7753148ffb3b8f60c2a54f9b8f2d7a37d3d86789e246f031bb1bbd7a992", checked := Try.checked }
namespace Rows
def none {H : Type} : Left H := { results := [], args := [] }

/-- 'balerlaw19.SymbolsNil': WHATEVER THE INPUT: true; the input reads as it did. -/
def symbolsNilSpec : ChangeSpec := { name := "symbolsNil", fn := fun _ => fun
  | [d1, d2, d3] => { results := [.lit (.bool true)], args := [d1, d2, d3] }
  | _ => none }
def symbolsNilRow : OpenClaim := { program := "ytkkddgdcmdnnmaa", sum := "a944a7753148ffb3b8f60c2a54f9b8f2d7a37d3d86789e246f031bb1bbd7a992", func := "baler/balerlaw19.SymbolsNil", spec := "symbolsNil", unfollowed := true, recurses := true, apart := false }
def SymbolsNilSaid : Prop := symbolsNilRow.holds Try.pinned (OpenSpec.ofChange symbolsNilSpec)

/-- ITS FALSE NEIGHBOUR: 'it returns false'. Refute it at one input. -/
def symbolsNilWrong : ChangeSpec := { name := "symbolsNil", fn := fun _ => fun
  | [d1, d2, d3] => { results := [.lit (.bool false)], args := [d1, d2, d3] }
  | _ => none }
def SymbolsNilWrongFalsely : Prop := symbolsNilRow.holds Try.pinned (OpenSpec.ofChange symbolsNilWrong)

/-- 'balerlaw19.SymbolsRead': WHATEVER THE INPUT: true; the input reads as it did. -/
def symbolsReadSpec : ChangeSpec := { name := "symbolsRead", fn := fun _ => fun
  | [d1, d2] => { results := [.lit (.bool true)], args := [d1, d2] }
  | _ => none }
def symbolsReadRow : OpenClaim := { program := "ytkkddgdcmdnnmaa", sum := "a944a7753148ffb3b8f60c2a54f9b8f2d7a37d3d86789e246f031bb1bbd7a992", func := "baler/balerlaw19.SymbolsRead", spec := "symbolsRead", unfollowed := true, recurses := true, apart := false }
def SymbolsReadSaid : Prop := symbolsReadRow.holds Try.pinned (OpenSpec.ofChange symbolsReadSpec)

/-- ITS FALSE NEIGHBOUR: 'it returns false'. Refute it at one input. -/
def symbolsReadWrong : ChangeSpec := { name := "symbolsRead", fn := fun _ => fun
  | [d1, d2] => { results := [.lit (.bool false)], args := [d1, d2] }
  | _ => none }
def SymbolsReadWrongFalsely : Prop := symbolsReadRow.holds Try.pinned (OpenSpec.ofChange symbolsReadWrong)

/-- 'balerlaw19.SymbolsMap': WHATEVER THE INPUT: true; the input reads as it did. -/
def symbolsMapSpec : ChangeSpec := { name := "symbolsMap", fn := fun _ => fun
  | [d1, d2, d3] => { results := [.lit (.bool true)], args := [d1, d2, d3] }
  | _ => none }
def symbolsMapRow : OpenClaim := { program := "ytkkddgdcmdnnmaa", sum := "a944a7753148ffb3b8f60c2a54f9b8f2d7a37d3d86789e246f031bb1bbd7a992", func := "baler/balerlaw19.SymbolsMap", spec := "symbolsMap", unfollowed := true, recurses := true, apart := false }
def SymbolsMapSaid : Prop := symbolsMapRow.holds Try.pinned (OpenSpec.ofChange symbolsMapSpec)

/-- ITS FALSE NEIGHBOUR: 'it returns false'. Refute it at one input. -/
def symbolsMapWrong : ChangeSpec := { name := "symbolsMap", fn := fun _ => fun
  | [d1, d2, d3] => { results := [.lit (.bool false)], args := [d1, d2, d3] }
  | _ => none }
def SymbolsMapWrongFalsely : Prop := symbolsMapRow.holds Try.pinned (OpenSpec.ofChange symbolsMapWrong)

/-- 'balerlaw19.SymbolsBack': WHATEVER THE INPUT: true; the input reads as it did. -/
def symbolsBackSpec : ChangeSpec := { name := "symbolsBack", fn := fun _ => fun
  | [d1, d2, d3, d4] => { results := [.lit (.bool true)], args := [d1, d2, d3, d4] }
  | _ => none }
def symbolsBackRow : OpenClaim := { program := "ytkkddgdcmdnnmaa", sum := "a944a7753148ffb3b8f60c2a54f9b8f2d7a37d3d86789e246f031bb1bbd7a992", func := "baler/balerlaw19.SymbolsBack", spec := "symbolsBack", unfollowed := true, recurses := true, apart := false }
def SymbolsBackSaid : Prop := symbolsBackRow.holds Try.pinned (OpenSpec.ofChange symbolsBackSpec)

/-- ITS FALSE NEIGHBOUR: 'it returns false'. Refute it at one input. -/
def symbolsBackWrong : ChangeSpec := { name := "symbolsBack", fn := fun _ => fun
  | [d1, d2, d3, d4] => { results := [.lit (.bool false)], args := [d1, d2, d3, d4] }
  | _ => none }
def SymbolsBackWrongFalsely : Prop := symbolsBackRow.holds Try.pinned (OpenSpec.ofChange symbolsBackWrong)

/- THE SECOND FORM. 'bulk': how many values and letters a reading holds, each counted each time it is reached (what is shared counts as often as it is met; a slice's spare places count too). A statement '..UptoSaid' is the law's where the arguments, and the package variables that the reading takes, are together of bulk at most 1048576: NARROWER than '..Said'. Prove '..Said' where nothing that the law and all that it calls make is longer than what came in: it says more and counts as full. Else prove '..UptoSaid'. A law counts once. -/
mutual
def uptoBulk {H : Type} : DataW H → Nat
  | .lit (.string bytes) => bytes.length + 1
  | .lit _ => 1
  | .nil => 1
  | .ptr d => uptoBulk d + 1
  | .slice elems spare => uptoBulkAll elems + uptoBulkAll spare + 1
  | .agg parts => uptoBulkAll parts + 1
  | .iface _ d => uptoBulk d + 1
  | .map entries => uptoBulkEntries entries + 1
  | .held _ => 1
def uptoBulkAll {H : Type} : List (DataW H) → Nat
  | [] => 0
  | d :: r => uptoBulk d + uptoBulkAll r
def uptoBulkEntries {H : Type} : List (Lit × DataW H) → Nat
  | [] => 0
  | x :: r => uptoBulkEntry x + uptoBulkEntries r
def uptoBulkEntry {H : Type} : Lit × DataW H → Nat
  | (.string bytes, d) => bytes.length + uptoBulk d + 1
  | (_, d) => uptoBulk d + 1
 end
def uptoSmall : (H : Type) → List (DataW H) → Bool := fun _ ds => decide (uptoBulkAll ds ≤ 1048576)
def OpenSpec.upto (s : _root_.Go.ChangeSpec) : _root_.Go.OpenSpec := { _root_.Go.OpenSpec.ofChange s with cond := some uptoSmall }

/-- 'balerlaw19.SymbolsNil', WHERE WHAT IT READS IS OF BULK AT MOST 1048576: true; the input reads as it did. -/
def symbolsNilUptoRow : OpenClaim := { program := "ytkkddgdcmdnnmaa", sum := "a944a7753148ffb3b8f60c2a54f9b8f2d7a37d3d86789e246f031bb1bbd7a992", func := "baler/balerlaw19.SymbolsNil", spec := "symbolsNil", unfollowed := true, recurses := true, apart := false, narrowed := true }
def SymbolsNilUptoSaid : Prop := symbolsNilUptoRow.holds Try.pinned (OpenSpec.upto symbolsNilSpec)

/-- 'balerlaw19.SymbolsRead', WHERE WHAT IT READS IS OF BULK AT MOST 1048576: true; the input reads as it did. -/
def symbolsReadUptoRow : OpenClaim := { program := "ytkkddgdcmdnnmaa", sum := "a944a7753148ffb3b8f60c2a54f9b8f2d7a37d3d86789e246f031bb1bbd7a992", func := "baler/balerlaw19.SymbolsRead", spec := "symbolsRead", unfollowed := true, recurses := true, apart := false, narrowed := true }
def SymbolsReadUptoSaid : Prop := symbolsReadUptoRow.holds Try.pinned (OpenSpec.upto symbolsReadSpec)

/-- 'balerlaw19.SymbolsMap', WHERE WHAT IT READS IS OF BULK AT MOST 1048576: true; the input reads as it did. -/
def symbolsMapUptoRow : OpenClaim := { program := "ytkkddgdcmdnnmaa", sum := "a944a7753148ffb3b8f60c2a54f9b8f2d7a37d3d86789e246f031bb1bbd7a992", func := "baler/balerlaw19.SymbolsMap", spec := "symbolsMap", unfollowed := true, recurses := true, apart := false, narrowed := true }
def SymbolsMapUptoSaid : Prop := symbolsMapUptoRow.holds Try.pinned (OpenSpec.upto symbolsMapSpec)

/-- 'balerlaw19.SymbolsBack', WHERE WHAT IT READS IS OF BULK AT MOST 1048576: true; the input reads as it did. -/
def symbolsBackUptoRow : OpenClaim := { program := "ytkkddgdcmdnnmaa", sum := "a944a7753148ffb3b8f60c2a54f9b8f2d7a37d3d86789e246f031bb1bbd7a992", func := "baler/balerlaw19.SymbolsBack", spec := "symbolsBack", unfollowed := true, recurses := true, apart := false, narrowed := true }
def SymbolsBackUptoSaid : Prop := symbolsBackUptoRow.holds Try.pinned (OpenSpec.upto symbolsBackSpec)

end Rows
end Go.Proofs.Ytkkddgdcmdnnmaa
