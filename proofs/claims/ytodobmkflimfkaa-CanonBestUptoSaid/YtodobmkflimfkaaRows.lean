/-
  No cell of these rows narrows 'for every input' (looked for: loops, veiled, ifaces, maps, wideKeys, modest, calm, conditions, laid).
  DERIVED. THE GIVEN ROWS OF THIS SEAT. 12 by the template 'for every input the law returns true; each argument reads behind the call as it read before'; 0 by the template 'total and deterministic' (their statements: YtodobmkflimfkaaTotals.lean).
  GIVEN WITH THE SEED: the statements are not yours to turn. If you find one false, say at which input.
  Laid BY PROGRAM, IN A SANDBOX (cutbox-rows.mjs): the forced cells as the released guide's own fill.sh prints them over the translation e2fd6732f4930191… (all of the seat's roots in one cut). By AI agents, Wed Nov 11 2026. No macro, syntax, notation, axiom, sorry.
-/
import Derived.Test.YtodobmkflimfkaaChecked
import GoSem.Claim
import GoSem.ClaimJoined
import GoSem.ClaimMapViews
import Derived.JoinedTies
import Derived.KernelRfl
namespace Go.Proofs.Ytodobmkflimfkaa
/- THE CELL 'sum', in the pinned program and in every row, IS THE sha256 OF THE DUMP (.gsa) THAT YtodobmkflimfkaaProg.lean LOADS. Nothing in Lean hashes anything: it is a label: what it is worth is what the hold of that sum in a sandbox is worth. -/
noncomputable def Try.pinned : Pinned := { name := "ytodobmkflimfkaa", sum := "e2fd6732f4930191db894ce7da77812a745472997f4394bfc1f7f5a42ef36626", checked := Try.checked }
namespace Rows
def none {H : Type} : Left H := { results := [], args := [] }

/-- 'balerlaw05.CanonBest': WHATEVER THE INPUT: true; the input reads as it did. -/
def canonBestSpec : ChangeSpec := { name := "canonBest", fn := fun _ => fun
  | [d1, d2] => { results := [.lit (.bool true)], args := [d1, d2] }
  | _ => none }
def canonBestRow : OpenClaim := { program := "ytodobmkflimfkaa", sum := "e2fd6732f4930191db894ce7da77812a745472997f4394bfc1f7f5a42ef36626", func := "baler/balerlaw05.CanonBest", spec := "canonBest", unfollowed := true, recurses := true, apart := false }
def CanonBestSaid : Prop := canonBestRow.holds Try.pinned (OpenSpec.ofChange canonBestSpec)

/-- ITS FALSE NEIGHBOUR: 'it returns false'. Refute it at one input. -/
def canonBestWrong : ChangeSpec := { name := "canonBest", fn := fun _ => fun
  | [d1, d2] => { results := [.lit (.bool false)], args := [d1, d2] }
  | _ => none }
def CanonBestWrongFalsely : Prop := canonBestRow.holds Try.pinned (OpenSpec.ofChange canonBestWrong)

/-- 'balerlaw07.StatesWrite': WHATEVER THE INPUT: true; the input reads as it did. -/
def statesWriteSpec : ChangeSpec := { name := "statesWrite", fn := fun _ => fun
  | [d1, d2] => { results := [.lit (.bool true)], args := [d1, d2] }
  | _ => none }
def statesWriteRow : OpenClaim := { program := "ytodobmkflimfkaa", sum := "e2fd6732f4930191db894ce7da77812a745472997f4394bfc1f7f5a42ef36626", func := "baler/balerlaw07.StatesWrite", spec := "statesWrite", unfollowed := true, recurses := true, apart := false }
def StatesWriteSaid : Prop := statesWriteRow.holds Try.pinned (OpenSpec.ofChange statesWriteSpec)

/-- ITS FALSE NEIGHBOUR: 'it returns false'. Refute it at one input. -/
def statesWriteWrong : ChangeSpec := { name := "statesWrite", fn := fun _ => fun
  | [d1, d2] => { results := [.lit (.bool false)], args := [d1, d2] }
  | _ => none }
def StatesWriteWrongFalsely : Prop := statesWriteRow.holds Try.pinned (OpenSpec.ofChange statesWriteWrong)

/-- 'balerlaw07.StatesBack': WHATEVER THE INPUT: true; the input reads as it did. -/
def statesBackSpec : ChangeSpec := { name := "statesBack", fn := fun _ => fun
  | [d1, d2, d3] => { results := [.lit (.bool true)], args := [d1, d2, d3] }
  | _ => none }
def statesBackRow : OpenClaim := { program := "ytodobmkflimfkaa", sum := "e2fd6732f4930191db894ce7da77812a745472997f4394bfc1f7f5a42ef36626", func := "baler/balerlaw07.StatesBack", spec := "statesBack", unfollowed := true, recurses := true, apart := false }
def StatesBackSaid : Prop := statesBackRow.holds Try.pinned (OpenSpec.ofChange statesBackSpec)

/-- ITS FALSE NEIGHBOUR: 'it returns false'. Refute it at one input. -/
def statesBackWrong : ChangeSpec := { name := "statesBack", fn := fun _ => fun
  | [d1, d2, d3] => { results := [.lit (.bool false)], args := [d1, d2, d3] }
  | _ => none }
def StatesBackWrongFalsely : Prop := statesBackRow.holds Try.pinned (OpenSpec.ofChange statesBackWrong)

/-- 'balerlaw07.StatesFair': WHATEVER THE INPUT: true; the input reads as it did. -/
def statesFairSpec : ChangeSpec := { name := "statesFair", fn := fun _ => fun
  | [d1, d2] => { results := [.lit (.bool true)], args := [d1, d2] }
  | _ => none }
def statesFairRow : OpenClaim := { program := "ytodobmkflimfkaa", sum := "e2fd6732f4930191db894ce7da77812a745472997f4394bfc1f7f5a42ef36626", func := "baler/balerlaw07.StatesFair", spec := "statesFair", unfollowed := true, recurses := true, apart := false }
def StatesFairSaid : Prop := statesFairRow.holds Try.pinned (OpenSpec.ofChange statesFairSpec)

/-- ITS FALSE NEIGHBOUR: 'it returns false'. Refute it at one input. -/
def statesFairWrong : ChangeSpec := { name := "statesFair", fn := fun _ => fun
  | [d1, d2] => { results := [.lit (.bool false)], args := [d1, d2] }
  | _ => none }
def StatesFairWrongFalsely : Prop := statesFairRow.holds Try.pinned (OpenSpec.ofChange statesFairWrong)

/-- 'balerlaw05.CanonWhole': WHATEVER THE INPUT: true; the input reads as it did. -/
def canonWholeSpec : ChangeSpec := { name := "canonWhole", fn := fun _ => fun
  | [d1, d2] => { results := [.lit (.bool true)], args := [d1, d2] }
  | _ => none }
def canonWholeRow : OpenClaim := { program := "ytodobmkflimfkaa", sum := "e2fd6732f4930191db894ce7da77812a745472997f4394bfc1f7f5a42ef36626", func := "baler/balerlaw05.CanonWhole", spec := "canonWhole", unfollowed := true, recurses := true, apart := false }
def CanonWholeSaid : Prop := canonWholeRow.holds Try.pinned (OpenSpec.ofChange canonWholeSpec)

/-- ITS FALSE NEIGHBOUR: 'it returns false'. Refute it at one input. -/
def canonWholeWrong : ChangeSpec := { name := "canonWhole", fn := fun _ => fun
  | [d1, d2] => { results := [.lit (.bool false)], args := [d1, d2] }
  | _ => none }
def CanonWholeWrongFalsely : Prop := canonWholeRow.holds Try.pinned (OpenSpec.ofChange canonWholeWrong)

/-- 'balerlaw07.StatesCarry': WHATEVER THE INPUT: true; the input reads as it did. -/
def statesCarrySpec : ChangeSpec := { name := "statesCarry", fn := fun _ => fun
  | [d1, d2, d3] => { results := [.lit (.bool true)], args := [d1, d2, d3] }
  | _ => none }
def statesCarryRow : OpenClaim := { program := "ytodobmkflimfkaa", sum := "e2fd6732f4930191db894ce7da77812a745472997f4394bfc1f7f5a42ef36626", func := "baler/balerlaw07.StatesCarry", spec := "statesCarry", unfollowed := true, recurses := true, apart := false }
def StatesCarrySaid : Prop := statesCarryRow.holds Try.pinned (OpenSpec.ofChange statesCarrySpec)

/-- ITS FALSE NEIGHBOUR: 'it returns false'. Refute it at one input. -/
def statesCarryWrong : ChangeSpec := { name := "statesCarry", fn := fun _ => fun
  | [d1, d2, d3] => { results := [.lit (.bool false)], args := [d1, d2, d3] }
  | _ => none }
def StatesCarryWrongFalsely : Prop := statesCarryRow.holds Try.pinned (OpenSpec.ofChange statesCarryWrong)

/-- 'balerlaw05.CanonNil': WHATEVER THE INPUT: true; the input reads as it did. -/
def canonNilSpec : ChangeSpec := { name := "canonNil", fn := fun _ => fun
  | [d1, d2] => { results := [.lit (.bool true)], args := [d1, d2] }
  | _ => none }
def canonNilRow : OpenClaim := { program := "ytodobmkflimfkaa", sum := "e2fd6732f4930191db894ce7da77812a745472997f4394bfc1f7f5a42ef36626", func := "baler/balerlaw05.CanonNil", spec := "canonNil", unfollowed := true, recurses := true, apart := false }
def CanonNilSaid : Prop := canonNilRow.holds Try.pinned (OpenSpec.ofChange canonNilSpec)

/-- ITS FALSE NEIGHBOUR: 'it returns false'. Refute it at one input. -/
def canonNilWrong : ChangeSpec := { name := "canonNil", fn := fun _ => fun
  | [d1, d2] => { results := [.lit (.bool false)], args := [d1, d2] }
  | _ => none }
def CanonNilWrongFalsely : Prop := canonNilRow.holds Try.pinned (OpenSpec.ofChange canonNilWrong)

/-- 'balerlaw19.SymbolsRead': WHATEVER THE INPUT: true; the input reads as it did. -/
def symbolsReadSpec : ChangeSpec := { name := "symbolsRead", fn := fun _ => fun
  | [d1, d2] => { results := [.lit (.bool true)], args := [d1, d2] }
  | _ => none }
def symbolsReadRow : OpenClaim := { program := "ytodobmkflimfkaa", sum := "e2fd6732f4930191db894ce7da77812a745472997f4394bfc1f7f5a42ef36626", func := "baler/balerlaw19.SymbolsRead", spec := "symbolsRead", unfollowed := true, recurses := true, apart := false }
def SymbolsReadSaid : Prop := symbolsReadRow.holds Try.pinned (OpenSpec.ofChange symbolsReadSpec)

/-- ITS FALSE NEIGHBOUR: 'it returns false'. Refute it at one input. -/
def symbolsReadWrong : ChangeSpec := { name := "symbolsRead", fn := fun _ => fun
  | [d1, d2] => { results := [.lit (.bool false)], args := [d1, d2] }
  | _ => none }
def SymbolsReadWrongFalsely : Prop := symbolsReadRow.holds Try.pinned (OpenSpec.ofChange symbolsReadWrong)

/-- 'balerlaw05.CanonTells': WHATEVER THE INPUT: true; the input reads as it did. -/
def canonTellsSpec : ChangeSpec := { name := "canonTells", fn := fun _ => fun
  | [d1, d2, d3] => { results := [.lit (.bool true)], args := [d1, d2, d3] }
  | _ => none }
def canonTellsRow : OpenClaim := { program := "ytodobmkflimfkaa", sum := "e2fd6732f4930191db894ce7da77812a745472997f4394bfc1f7f5a42ef36626", func := "baler/balerlaw05.CanonTells", spec := "canonTells", unfollowed := true, recurses := true, apart := false }
def CanonTellsSaid : Prop := canonTellsRow.holds Try.pinned (OpenSpec.ofChange canonTellsSpec)

/-- ITS FALSE NEIGHBOUR: 'it returns false'. Refute it at one input. -/
def canonTellsWrong : ChangeSpec := { name := "canonTells", fn := fun _ => fun
  | [d1, d2, d3] => { results := [.lit (.bool false)], args := [d1, d2, d3] }
  | _ => none }
def CanonTellsWrongFalsely : Prop := canonTellsRow.holds Try.pinned (OpenSpec.ofChange canonTellsWrong)

/-- 'balerlaw05.CanonBack': WHATEVER THE INPUT: true; the input reads as it did. -/
def canonBackSpec : ChangeSpec := { name := "canonBack", fn := fun _ => fun
  | [d1, d2] => { results := [.lit (.bool true)], args := [d1, d2] }
  | _ => none }
def canonBackRow : OpenClaim := { program := "ytodobmkflimfkaa", sum := "e2fd6732f4930191db894ce7da77812a745472997f4394bfc1f7f5a42ef36626", func := "baler/balerlaw05.CanonBack", spec := "canonBack", unfollowed := true, recurses := true, apart := false }
def CanonBackSaid : Prop := canonBackRow.holds Try.pinned (OpenSpec.ofChange canonBackSpec)

/-- ITS FALSE NEIGHBOUR: 'it returns false'. Refute it at one input. -/
def canonBackWrong : ChangeSpec := { name := "canonBack", fn := fun _ => fun
  | [d1, d2] => { results := [.lit (.bool false)], args := [d1, d2] }
  | _ => none }
def CanonBackWrongFalsely : Prop := canonBackRow.holds Try.pinned (OpenSpec.ofChange canonBackWrong)

/-- 'balerlaw19.SymbolsMap': WHATEVER THE INPUT: true; the input reads as it did. -/
def symbolsMapSpec : ChangeSpec := { name := "symbolsMap", fn := fun _ => fun
  | [d1, d2, d3] => { results := [.lit (.bool true)], args := [d1, d2, d3] }
  | _ => none }
def symbolsMapRow : OpenClaim := { program := "ytodobmkflimfkaa", sum := "e2fd6732f4930191db894ce7da77812a745472997f4394bfc1f7f5a42ef36626", func := "baler/balerlaw19.SymbolsMap", spec := "symbolsMap", unfollowed := true, recurses := true, apart := false }
def SymbolsMapSaid : Prop := symbolsMapRow.holds Try.pinned (OpenSpec.ofChange symbolsMapSpec)

/-- ITS FALSE NEIGHBOUR: 'it returns false'. Refute it at one input. -/
def symbolsMapWrong : ChangeSpec := { name := "symbolsMap", fn := fun _ => fun
  | [d1, d2, d3] => { results := [.lit (.bool false)], args := [d1, d2, d3] }
  | _ => none }
def SymbolsMapWrongFalsely : Prop := symbolsMapRow.holds Try.pinned (OpenSpec.ofChange symbolsMapWrong)

/-- 'balerlaw09.WeightsRead': WHATEVER THE INPUT: true; the input reads as it did. -/
def weightsReadSpec : ChangeSpec := { name := "weightsRead", fn := fun _ => fun
  | [d] => { results := [.lit (.bool true)], args := [d] }
  | _ => none }
def weightsReadRow : OpenClaim := { program := "ytodobmkflimfkaa", sum := "e2fd6732f4930191db894ce7da77812a745472997f4394bfc1f7f5a42ef36626", func := "baler/balerlaw09.WeightsRead", spec := "weightsRead", unfollowed := true, recurses := true, apart := false }
def WeightsReadSaid : Prop := weightsReadRow.holds Try.pinned (OpenSpec.ofChange weightsReadSpec)

/-- ITS FALSE NEIGHBOUR: 'it returns false'. Refute it at one input. -/
def weightsReadWrong : ChangeSpec := { name := "weightsRead", fn := fun _ => fun
  | [d] => { results := [.lit (.bool false)], args := [d] }
  | _ => none }
def WeightsReadWrongFalsely : Prop := weightsReadRow.holds Try.pinned (OpenSpec.ofChange weightsReadWrong)

/- THE SECOND FORM. 'bulk': how many values and letters a reading holds, each counted each time it is reached (what is shared counts as often as it is met; a slice's spare places count too). A statement '..UptoSaid' is the law's where the arguments, and the package variables that the reading takes, are together of bulk at most 1048576: NARROWER than '..Said'. Prove '..Said' where nothing that the law and all that it calls make is longer than what came in: it says more and counts as full. Else prove '..UptoSaid'. A law counts once. -/
mutual
def uptoBulk {H : Type} : DataW H → Nat
  | .lit (.string bytes) => bytes.length + 1
  | .lit _ => 1
  | .nil => 1
  | .ptr d => uptoBulk d + 1
  | .slice elems spare => uptoBulkAll elems + uptoBulkAll spare + 1
  | .agg parts => uptoBulkAll parts + 1
  | .iface _ d => uptoBulk d + 1
  | .map entries => uptoBulkEntries entries + 1
  | .held _ => 1
def uptoBulkAll {H : Type} : List (DataW H) → Nat
  | [] => 0
  | d :: r => uptoBulk d + uptoBulkAll r
def uptoBulkEntries {H : Type} : List (Lit × DataW H) → Nat
  | [] => 0
  | x :: r => uptoBulkEntry x + uptoBulkEntries r
def uptoBulkEntry {H : Type} : Lit × DataW H → Nat
  | (.string bytes, d) => bytes.length + uptoBulk d + 1
  | (_, d) => uptoBulk d + 1
 end
def uptoSmall : (H : Type) → List (DataW H) → Bool := fun _ ds => decide (uptoBulkAll ds ≤ 1048576)
def OpenSpec.upto (s : _root_.Go.ChangeSpec) : _root_.Go.OpenSpec := { _root_.Go.OpenSpec.ofChange s with cond := some uptoSmall }

/-- 'balerlaw05.CanonBest', WHERE WHAT IT READS IS OF BULK AT MOST 1048576: true; the input reads as it did. -/
def canonBestUptoRow : OpenClaim := { program := "ytodobmkflimfkaa", sum := "e2fd6732f4930191db894ce7da77812a745472997f4394bfc1f7f5a42ef36626", func := "baler/balerlaw05.CanonBest", spec := "canonBest", unfollowed := true, recurses := true, apart := false, narrowed := true }
def CanonBestUptoSaid : Prop := canonBestUptoRow.holds Try.pinned (OpenSpec.upto canonBestSpec)

/-- 'balerlaw07.StatesWrite', WHERE WHAT IT READS IS OF BULK AT MOST 1048576: true; the input reads as it did. -/
def statesWriteUptoRow : OpenClaim := { program := "ytodobmkflimfkaa", sum := "e2fd6732f4930191db894ce7da77812a745472997f4394bfc1f7f5a42ef36626", func := "baler/balerlaw07.StatesWrite", spec := "statesWrite", unfollowed := true, recurses := true, apart := false, narrowed := true }
def StatesWriteUptoSaid : Prop := statesWriteUptoRow.holds Try.pinned (OpenSpec.upto statesWriteSpec)

/-- 'balerlaw07.StatesBack', WHERE WHAT IT READS IS OF BULK AT MOST 1048576: true; the input reads as it did. -/
def statesBackUptoRow : OpenClaim := { program := "ytodobmkflimfkaa", sum := "e2fd6732f4930191db894ce7da77812a745472997f4394bfc1f7f5a42ef36626", func := "baler/balerlaw07.StatesBack", spec := "statesBack", unfollowed := true, recurses := true, apart := false, narrowed := true }
def StatesBackUptoSaid : Prop := statesBackUptoRow.holds Try.pinned (OpenSpec.upto statesBackSpec)

/-- 'balerlaw07.StatesFair', WHERE WHAT IT READS IS OF BULK AT MOST 1048576: true; the input reads as it did. -/
def statesFairUptoRow : OpenClaim := { program := "ytodobmkflimfkaa", sum := "e2fd6732f4930191db894ce7da77812a745472997f4394bfc1f7f5a42ef36626", func := "baler/balerlaw07.StatesFair", spec := "statesFair", unfollowed := true, recurses := true, apart := false, narrowed := true }
def StatesFairUptoSaid : Prop := statesFairUptoRow.holds Try.pinned (OpenSpec.upto statesFairSpec)

/-- 'balerlaw05.CanonWhole', WHERE WHAT IT READS IS OF BULK AT MOST 1048576: true; the input reads as it did. -/
def canonWholeUptoRow : OpenClaim := { program := "ytodobmkflimfkaa", sum := "e2fd6732f4930191db894ce7da77812a745472997f4394bfc1f7f5a42ef36626", func := "baler/balerlaw05.CanonWhole", spec := "canonWhole", unfollowed := true, recurses := true, apart := false, narrowed := true }
def CanonWholeUptoSaid : Prop := canonWholeUptoRow.holds Try.pinned (OpenSpec.upto canonWholeSpec)

/-- 'balerlaw07.StatesCarry', WHERE WHAT IT READS IS OF BULK AT MOST 1048576: true; the input reads as it did. -/
def statesCarryUptoRow : OpenClaim := { program := "ytodobmkflimfkaa", sum := "e2fd6732f4930191db894ce7da77812a745472997f4394bfc1f7f5a42ef36626", func := "baler/balerlaw07.StatesCarry", spec := "statesCarry", unfollowed := true, recurses := true, apart := false, narrowed := true }
def StatesCarryUptoSaid : Prop := statesCarryUptoRow.holds Try.pinned (OpenSpec.upto statesCarrySpec)

/-- 'balerlaw05.CanonNil', WHERE WHAT IT READS IS OF BULK AT MOST 1048576: true; the input reads as it did. -/
def canonNilUptoRow : OpenClaim := { program := "ytodobmkflimfkaa", sum := "e2fd6732f4930191db894ce7da77812a745472997f4394bfc1f7f5a42ef36626", func := "baler/balerlaw05.CanonNil", spec := "canonNil", unfollowed := true, recurses := true, apart := false, narrowed := true }
def CanonNilUptoSaid : Prop := canonNilUptoRow.holds Try.pinned (OpenSpec.upto canonNilSpec)

/-- 'balerlaw19.SymbolsRead', WHERE WHAT IT READS IS OF BULK AT MOST 1048576: true; the input reads as it did. -/
def symbolsReadUptoRow : OpenClaim := { program := "ytodobmkflimfkaa", sum := "e2fd6732f4930191db894ce7da77812a745472997f4394bfc1f7f5a42ef36626", func := "baler/balerlaw19.SymbolsRead", spec := "symbolsRead", unfollowed := true, recurses := true, apart := false, narrowed := true }
def SymbolsReadUptoSaid : Prop := symbolsReadUptoRow.holds Try.pinned (OpenSpec.upto symbolsReadSpec)

/-- 'balerlaw05.CanonTells', WHERE WHAT IT READS IS OF BULK AT MOST 1048576: true; the input reads as it did. -/
def canonTellsUptoRow : OpenClaim := { program := "ytodobmkflimfkaa", sum := "e2fd6732f4930191db894ce7da77812a745472997f4394bfc1f7f5a42ef36626", func := "baler/balerlaw05.CanonTells", spec := "canonTells", unfollowed := true, recurses := true, apart := false, narrowed := true }
def CanonTellsUptoSaid : Prop := canonTellsUptoRow.holds Try.pinned (OpenSpec.upto canonTellsSpec)

/-- 'balerlaw05.CanonBack', WHERE WHAT IT READS IS OF BULK AT MOST 1048576: true; the input reads as it did. -/
def canonBackUptoRow : OpenClaim := { program := "ytodobmkflimfkaa", sum := "e2fd6732f4930191db894ce7da77812a745472997f4394bfc1f7f5a42ef36626", func := "baler/balerlaw05.CanonBack", spec := "canonBack", unfollowed := true, recurses := true, apart := false, narrowed := true }
def CanonBackUptoSaid : Prop := canonBackUptoRow.holds Try.pinned (OpenSpec.upto canonBackSpec)

/-- 'balerlaw19.SymbolsMap', WHERE WHAT IT READS IS OF BULK AT MOST 1048576: true; the input reads as it did. -/
def symbolsMapUptoRow : OpenClaim := { program := "ytodobmkflimfkaa", sum := "e2fd6732f4930191db894ce7da77812a745472997f4394bfc1f7f5a42ef36626", func := "baler/balerlaw19.SymbolsMap", spec := "symbolsMap", unfollowed := true, recurses := true, apart := false, narrowed := true }
def SymbolsMapUptoSaid : Prop := symbolsMapUptoRow.holds Try.pinned (OpenSpec.upto symbolsMapSpec)

/-- 'balerlaw09.WeightsRead', WHERE WHAT IT READS IS OF BULK AT MOST 1048576: true; the input reads as it did. -/
def weightsReadUptoRow : OpenClaim := { program := "ytodobmkflimfkaa", sum := "e2fd6732f4930191db894ce7da77812a745472997f4394bfc1f7f5a42ef36626", func := "baler/balerlaw09.WeightsRead", spec := "weightsRead", unfollowed := true, recurses := true, apart := false, narrowed := true }
def WeightsReadUptoSaid : Prop := weightsReadUptoRow.holds Try.pinned (OpenSpec.upto weightsReadSpec)

end Rows
end Go.Proofs.Ytodobmkflimfkaa
