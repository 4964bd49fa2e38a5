/-
  No cell of these rows narrows 'for every input' (looked for: loops, veiled, ifaces, maps, wideKeys, modest, calm, conditions, laid).
  DERIVED. THE GIVEN ROWS OF THIS SEAT. 3 by the template 'for every input the law returns true; each argument reads behind the call as it read before'; 0 by the template 'total and deterministic' (their statements: YtaaklikigccdfaaTotals.lean).
  GIVEN WITH THE SEED: the statements are not yours to turn. If you find one false, say at which input.
  Laid BY PROGRAM, IN A SANDBOX (cutbox-rows.mjs): the forced cells as the released guide's own fill.sh prints them over the translation 0baaa0b5836d82ab… (all of the seat's roots in one cut). By AI agents, Wed Nov 11 2026. No macro, syntax, notation, axiom, sorry.
-/
import Derived.Test.YtaaklikigccdfaaChecked
import GoSem.Claim
import GoSem.ClaimJoined
import GoSem.ClaimMapViews
import Derived.JoinedTies
import Derived.KernelRfl
namespace Go.Proofs.Ytaaklikigccdfaa
/- THE CELL 'sum', in the pinned program and in every row, IS THE sha256 OF THE DUMP (.gsa) THAT YtaaklikigccdfaaProg.lean LOADS. Nothing in Lean hashes anything: it is a label: what it is worth is what the hold of that sum in a sandbox is worth. -/
noncomputable def Try.pinned : Pinned := { name := "ytaaklikigccdfaa", sum := "0baaa0b5836d82abdd9430f5894066665300e4ba6b365ca0cb56801c203bb533", checked := Try.checked }
namespace Rows
def none {H : Type} : Left H := { results := [], args := [] }

/-- 'balerlaw09.WeightsRead': WHATEVER THE INPUT: true; the input reads as it did. -/
def weightsReadSpec : ChangeSpec := { name := "weightsRead", fn := fun _ => fun
  | [d] => { results := [.lit (.bool true)], args := [d] }
  | _ => none }
def weightsReadRow : OpenClaim := { program := "ytaaklikigccdfaa", sum := "0baaa0b5836d82abdd9430f5894066665300e4ba6b365ca0cb56801c203bb533", func := "baler/balerlaw09.WeightsRead", spec := "weightsRead", unfollowed := true, recurses := true, apart := false }
def WeightsReadSaid : Prop := weightsReadRow.holds Try.pinned (OpenSpec.ofChange weightsReadSpec)

/-- ITS FALSE NEIGHBOUR: 'it returns false'. Refute it at one input. -/
def weightsReadWrong : ChangeSpec := { name := "weightsRead", fn := fun _ => fun
  | [d] => { results := [.lit (.bool false)], args := [d] }
  | _ => none }
def WeightsReadWrongFalsely : Prop := weightsReadRow.holds Try.pinned (OpenSpec.ofChange weightsReadWrong)

/-- 'balerlaw11.LiteralsRead': WHATEVER THE INPUT: true; the input reads as it did. -/
def literalsReadSpec : ChangeSpec := { name := "literalsRead", fn := fun _ => fun
  | [d1, d2, d3] => { results := [.lit (.bool true)], args := [d1, d2, d3] }
  | _ => none }
def literalsReadRow : OpenClaim := { program := "ytaaklikigccdfaa", sum := "0baaa0b5836d82abdd9430f5894066665300e4ba6b365ca0cb56801c203bb533", func := "baler/balerlaw11.LiteralsRead", spec := "literalsRead", inPlace := ["internal/bytealg.MakeNoZero"], unfollowed := true, recurses := true, apart := false }
def LiteralsReadSaid : Prop := literalsReadRow.holds Try.pinned (OpenSpec.ofChange literalsReadSpec)

/-- ITS FALSE NEIGHBOUR: 'it returns false'. Refute it at one input. -/
def literalsReadWrong : ChangeSpec := { name := "literalsRead", fn := fun _ => fun
  | [d1, d2, d3] => { results := [.lit (.bool false)], args := [d1, d2, d3] }
  | _ => none }
def LiteralsReadWrongFalsely : Prop := literalsReadRow.holds Try.pinned (OpenSpec.ofChange literalsReadWrong)

/-- 'balerlaw13.SequencesBack': WHATEVER THE INPUT: true; the input reads as it did. -/
def sequencesBackSpec : ChangeSpec := { name := "sequencesBack", fn := fun _ => fun
  | [d] => { results := [.lit (.bool true)], args := [d] }
  | _ => none }
def sequencesBackRow : OpenClaim := { program := "ytaaklikigccdfaa", sum := "0baaa0b5836d82abdd9430f5894066665300e4ba6b365ca0cb56801c203bb533", func := "baler/balerlaw13.SequencesBack", spec := "sequencesBack", unfollowed := true, recurses := true, apart := false }
def SequencesBackSaid : Prop := sequencesBackRow.holds Try.pinned (OpenSpec.ofChange sequencesBackSpec)

/-- ITS FALSE NEIGHBOUR: 'it returns false'. Refute it at one input. -/
def sequencesBackWrong : ChangeSpec := { name := "sequencesBack", fn := fun _ => fun
  | [d] => { results := [.lit (.bool false)], args := [d] }
  | _ => none }
def SequencesBackWrongFalsely : Prop := sequencesBackRow.holds Try.pinned (OpenSpec.ofChange sequencesBackWrong)

/- THE SECOND FORM. 'bulk': how many values and letters a reading holds, each counted each time it is reached (what is shared counts as often as it is met; a slice's spare places count too). A statement '..UptoSaid' is the law's where the arguments, and the package variables that the reading takes, are together of bulk at most 1048576: NARROWER than '..Said'. Prove '..Said' where nothing that the law and all that it calls make is longer than what came in: it says more and counts as full. Else prove '..UptoSaid'. A law counts once. -/
mutual
def uptoBulk {H : Type} : DataW H → Nat
  | .lit (.string bytes) => bytes.length + 1
  | .lit _ => 1
  | .nil => 1
  | .ptr d => uptoBulk d + 1
  | .slice elems spare => uptoBulkAll elems + uptoBulkAll spare + 1
  | .agg parts => uptoBulkAll parts + 1
  | .iface _ d => uptoBulk d + 1
  | .map entries => uptoBulkEntries entries + 1
  | .held _ => 1
def uptoBulkAll {H : Type} : List (DataW H) → Nat
  | [] => 0
  | d :: r => uptoBulk d + uptoBulkAll r
def uptoBulkEntries {H : Type} : List (Lit × DataW H) → Nat
  | [] => 0
  | x :: r => uptoBulkEntry x + uptoBulkEntries r
def uptoBulkEntry {H : Type} : Lit × DataW H → Nat
  | (.string bytes, d) => bytes.length + uptoBulk d + 1
  | (_, d) => uptoBulk d + 1
 end
def uptoSmall : (H : Type) → List (DataW H) → Bool := fun _ ds => decide (uptoBulkAll ds ≤ 1048576)
def OpenSpec.upto (s : _root_.Go.ChangeSpec) : _root_.Go.OpenSpec := { _root_.Go.OpenSpec.ofChange s with cond := some uptoSmall }

/-- 'balerlaw09.WeightsRead', WHERE WHAT IT READS IS OF BULK AT MOST 1048576: true; the input reads as it did. -/
def weightsReadUptoRow : OpenClaim := { program := "ytaaklikigccdfaa", sum := "0baaa0b5836d82abdd9430f5894066665300e4ba6b365ca0cb56801c203bb533", func := "baler/balerlaw09.WeightsRead", spec := "weightsRead", unfollowed := true, recurses := true, apart := false, narrowed := true }
def WeightsReadUptoSaid : Prop := weightsReadUptoRow.holds Try.pinned (OpenSpec.upto weightsReadSpec)

/-- 'balerlaw11.LiteralsRead', WHERE WHAT IT READS IS OF BULK AT MOST 1048576: true; the input reads as it did. -/
def literalsReadUptoRow : OpenClaim := { program := "ytaaklikigccdfaa", sum := "0baaa0b5836d82abdd9430f5894066665300e4ba6b365ca0cb56801c203bb533", func := "baler/balerlaw11.LiteralsRead", spec := "literalsRead", inPlace := ["internal/bytealg.MakeNoZero"], unfollowed := true, recurses := true, apart := false, narrowed := true }
def LiteralsReadUptoSaid : Prop := literalsReadUptoRow.holds Try.pinned (OpenSpec.upto literalsReadSpec)

/-- 'balerlaw13.SequencesBack', WHERE WHAT IT READS IS OF BULK AT MOST 1048576: true; the input reads as it did. -/
def sequencesBackUptoRow : OpenClaim := { program := "ytaaklikigccdfaa", sum := "0baaa0b5836d82abdd9430f5894066665300e4ba6b365ca0cb56801c203bb533", func := "baler/balerlaw13.SequencesBack", spec := "sequencesBack", unfollowed := true, recurses := true, apart := false, narrowed := true }
def SequencesBackUptoSaid : Prop := sequencesBackUptoRow.holds Try.pinned (OpenSpec.upto sequencesBackSpec)

end Rows
end Go.Proofs.Ytaaklikigccdfaa
