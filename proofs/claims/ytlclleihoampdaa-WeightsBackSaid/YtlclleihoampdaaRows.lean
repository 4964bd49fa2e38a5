/-
  No cell of these rows narrows 'for every input' (looked for: loops, veiled, ifaces, maps, wideKeys, modest, calm, conditions, laid).
  DERIVED. THE GIVEN ROWS OF THIS SEAT. 7 by the template 'for every input the law returns true; each argument reads behind the call as it read before'; 0 by the template 'total and deterministic' (their statements: YtlclleihoampdaaTotals.lean).
  GIVEN WITH THE SEED: the statements are not yours to turn. If you find one false, say at which input.
  Laid BY PROGRAM, IN A SANDBOX (cutbox-rows.mjs): the forced cells as the released guide's own fill.sh prints them over the translation 75bc1b26d1a0ec69… (all of the seat's roots in one cut). By AI agents, Wed Nov 11 2026. No macro, syntax, notation, axiom, sorry.
-/
import Derived.Test.YtlclleihoampdaaChecked
import GoSem.Claim
import GoSem.ClaimJoined
import GoSem.ClaimMapViews
import Derived.JoinedTies
import Derived.KernelRfl
namespace Go.Proofs.Ytlclleihoampdaa
/- THE CELL 'sum', in the pinned program and in every row, IS THE sha256 OF THE DUMP (.gsa) THAT YtlclleihoampdaaProg.lean LOADS. Nothing in Lean hashes anything: it is a label: what it is worth is what the hold of that sum in a sandbox is worth. -/
noncomputable def Try.pinned : Pinned := { name := "ytlclleihoampdaa", sum := "75bc1b26d1a0ec69fb43de0dbcce315e60bc6c24da4f38a0ffe444c8760e30a0", checked := Try.checked }
namespace Rows
def none {H : Type} : Left H := { results := [], args := [] }

/-- 'balerlaw13.SequencesBack': WHATEVER THE INPUT: true; the input reads as it did. -/
def sequencesBackSpec : ChangeSpec := { name := "sequencesBack", fn := fun _ => fun
  | [d] => { results := [.lit (.bool true)], args := [d] }
  | _ => none }
def sequencesBackRow : OpenClaim := { program := "ytlclleihoampdaa", sum := "75bc1b26d1a0ec69fb43de0dbcce315e60bc6c24da4f38a0ffe444c8760e30a0", func := "baler/balerlaw13.SequencesBack", spec := "sequencesBack", unfollowed := true, recurses := true, apart := false }
def SequencesBackSaid : Prop := sequencesBackRow.holds Try.pinned (OpenSpec.ofChange sequencesBackSpec)

/-- ITS FALSE NEIGHBOUR: 'it returns false'. Refute it at one input. -/
def sequencesBackWrong : ChangeSpec := { name := "sequencesBack", fn := fun _ => fun
  | [d] => { results := [.lit (.bool false)], args := [d] }
  | _ => none }
def SequencesBackWrongFalsely : Prop := sequencesBackRow.holds Try.pinned (OpenSpec.ofChange sequencesBackWrong)

/-- 'balerlaw15.ZstdBehind': WHATEVER THE INPUT: true; the input reads as it did. -/
def zstdBehindSpec : ChangeSpec := { name := "zstdBehind", fn := fun _ => fun
  | [d1, d2, d3] => { results := [.lit (.bool true)], args := [d1, d2, d3] }
  | _ => none }
def zstdBehindRow : OpenClaim := { program := "ytlclleihoampdaa", sum := "75bc1b26d1a0ec69fb43de0dbcce315e60bc6c24da4f38a0ffe444c8760e30a0", func := "baler/balerlaw15.ZstdBehind", spec := "zstdBehind", inPlace := ["internal/bytealg.MakeNoZero"], unfollowed := true, recurses := true, apart := false }
def ZstdBehindSaid : Prop := zstdBehindRow.holds Try.pinned (OpenSpec.ofChange zstdBehindSpec)

/-- ITS FALSE NEIGHBOUR: 'it returns false'. Refute it at one input. -/
def zstdBehindWrong : ChangeSpec := { name := "zstdBehind", fn := fun _ => fun
  | [d1, d2, d3] => { results := [.lit (.bool false)], args := [d1, d2, d3] }
  | _ => none }
def ZstdBehindWrongFalsely : Prop := zstdBehindRow.holds Try.pinned (OpenSpec.ofChange zstdBehindWrong)

/-- 'balerlaw15.ZstdCut': WHATEVER THE INPUT: true; the input reads as it did. -/
def zstdCutSpec : ChangeSpec := { name := "zstdCut", fn := fun _ => fun
  | [d1, d2, d3] => { results := [.lit (.bool true)], args := [d1, d2, d3] }
  | _ => none }
def zstdCutRow : OpenClaim := { program := "ytlclleihoampdaa", sum := "75bc1b26d1a0ec69fb43de0dbcce315e60bc6c24da4f38a0ffe444c8760e30a0", func := "baler/balerlaw15.ZstdCut", spec := "zstdCut", inPlace := ["internal/bytealg.MakeNoZero"], unfollowed := true, recurses := true, apart := false }
def ZstdCutSaid : Prop := zstdCutRow.holds Try.pinned (OpenSpec.ofChange zstdCutSpec)

/-- ITS FALSE NEIGHBOUR: 'it returns false'. Refute it at one input. -/
def zstdCutWrong : ChangeSpec := { name := "zstdCut", fn := fun _ => fun
  | [d1, d2, d3] => { results := [.lit (.bool false)], args := [d1, d2, d3] }
  | _ => none }
def ZstdCutWrongFalsely : Prop := zstdCutRow.holds Try.pinned (OpenSpec.ofChange zstdCutWrong)

/-- 'balerlaw15.ZstdRoom': WHATEVER THE INPUT: true; the input reads as it did. -/
def zstdRoomSpec : ChangeSpec := { name := "zstdRoom", fn := fun _ => fun
  | [d1, d2, d3] => { results := [.lit (.bool true)], args := [d1, d2, d3] }
  | _ => none }
def zstdRoomRow : OpenClaim := { program := "ytlclleihoampdaa", sum := "75bc1b26d1a0ec69fb43de0dbcce315e60bc6c24da4f38a0ffe444c8760e30a0", func := "baler/balerlaw15.ZstdRoom", spec := "zstdRoom", inPlace := ["internal/bytealg.MakeNoZero"], unfollowed := true, recurses := true, apart := false }
def ZstdRoomSaid : Prop := zstdRoomRow.holds Try.pinned (OpenSpec.ofChange zstdRoomSpec)

/-- ITS FALSE NEIGHBOUR: 'it returns false'. Refute it at one input. -/
def zstdRoomWrong : ChangeSpec := { name := "zstdRoom", fn := fun _ => fun
  | [d1, d2, d3] => { results := [.lit (.bool false)], args := [d1, d2, d3] }
  | _ => none }
def ZstdRoomWrongFalsely : Prop := zstdRoomRow.holds Try.pinned (OpenSpec.ofChange zstdRoomWrong)

/-- 'balerlaw09.WeightsBack': WHATEVER THE INPUT: true; the input reads as it did. -/
def weightsBackSpec : ChangeSpec := { name := "weightsBack", fn := fun _ => fun
  | [d1, d2] => { results := [.lit (.bool true)], args := [d1, d2] }
  | _ => none }
def weightsBackRow : OpenClaim := { program := "ytlclleihoampdaa", sum := "75bc1b26d1a0ec69fb43de0dbcce315e60bc6c24da4f38a0ffe444c8760e30a0", func := "baler/balerlaw09.WeightsBack", spec := "weightsBack", unfollowed := true, recurses := true, apart := false }
def WeightsBackSaid : Prop := weightsBackRow.holds Try.pinned (OpenSpec.ofChange weightsBackSpec)

/-- ITS FALSE NEIGHBOUR: 'it returns false'. Refute it at one input. -/
def weightsBackWrong : ChangeSpec := { name := "weightsBack", fn := fun _ => fun
  | [d1, d2] => { results := [.lit (.bool false)], args := [d1, d2] }
  | _ => none }
def WeightsBackWrongFalsely : Prop := weightsBackRow.holds Try.pinned (OpenSpec.ofChange weightsBackWrong)

/-- 'balerlaw11.LiteralsBack': WHATEVER THE INPUT: true; the input reads as it did. -/
def literalsBackSpec : ChangeSpec := { name := "literalsBack", fn := fun _ => fun
  | [d1, d2, d3] => { results := [.lit (.bool true)], args := [d1, d2, d3] }
  | _ => none }
def literalsBackRow : OpenClaim := { program := "ytlclleihoampdaa", sum := "75bc1b26d1a0ec69fb43de0dbcce315e60bc6c24da4f38a0ffe444c8760e30a0", func := "baler/balerlaw11.LiteralsBack", spec := "literalsBack", inPlace := ["internal/bytealg.Count", "internal/bytealg.IndexByte", "internal/bytealg.Index", "internal/bytealg.MakeNoZero"], unfollowed := true, recurses := true, named := ["internal/bytealg.MaxLen"], apart := false }
def LiteralsBackSaid : Prop := literalsBackRow.holds Try.pinned (OpenSpec.ofChange literalsBackSpec)

/-- ITS FALSE NEIGHBOUR: 'it returns false'. Refute it at one input. -/
def literalsBackWrong : ChangeSpec := { name := "literalsBack", fn := fun _ => fun
  | [d1, d2, d3] => { results := [.lit (.bool false)], args := [d1, d2, d3] }
  | _ => none }
def LiteralsBackWrongFalsely : Prop := literalsBackRow.holds Try.pinned (OpenSpec.ofChange literalsBackWrong)

/-- 'balerlaw11.LiteralsTwice': WHATEVER THE INPUT: true; the input reads as it did. -/
def literalsTwiceSpec : ChangeSpec := { name := "literalsTwice", fn := fun _ => fun
  | [d1, d2] => { results := [.lit (.bool true)], args := [d1, d2] }
  | _ => none }
def literalsTwiceRow : OpenClaim := { program := "ytlclleihoampdaa", sum := "75bc1b26d1a0ec69fb43de0dbcce315e60bc6c24da4f38a0ffe444c8760e30a0", func := "baler/balerlaw11.LiteralsTwice", spec := "literalsTwice", inPlace := ["internal/bytealg.Count", "internal/bytealg.IndexByte", "internal/bytealg.Index", "internal/bytealg.MakeNoZero"], unfollowed := true, recurses := true, named := ["internal/bytealg.MaxLen"], apart := false }
def LiteralsTwiceSaid : Prop := literalsTwiceRow.holds Try.pinned (OpenSpec.ofChange literalsTwiceSpec)

/-- ITS FALSE NEIGHBOUR: 'it returns false'. Refute it at one input. -/
def literalsTwiceWrong : ChangeSpec := { name := "literalsTwice", fn := fun _ => fun
  | [d1, d2] => { results := [.lit (.bool false)], args := [d1, d2] }
  | _ => none }
def LiteralsTwiceWrongFalsely : Prop := literalsTwiceRow.holds Try.pinned (OpenSpec.ofChange literalsTwiceWrong)

/- THE SECOND FORM. 'bulk': how many values and letters a reading holds, each counted each time it is reached (what is shared counts as often as it is met; a slice's spare places count too). A statement '..UptoSaid' is the law's where the arguments, and the package variables that the reading takes, are together of bulk at most 1048576: NARROWER than '..Said'. Prove '..Said' where nothing that the law and all that it calls make is longer than what came in: it says more and counts as full. Else prove '..UptoSaid'. A law counts once. -/
mutual
def uptoBulk {H : Type} : DataW H → Nat
  | .lit (.string bytes) => bytes.length + 1
  | .lit _ => 1
  | .nil => 1
  | .ptr d => uptoBulk d + 1
  | .slice elems spare => uptoBulkAll elems + uptoBulkAll spare + 1
  | .agg parts => uptoBulkAll parts + 1
  | .iface _ d => uptoBulk d + 1
  | .map entries => uptoBulkEntries entries + 1
  | .held _ => 1
def uptoBulkAll {H : Type} : List (DataW H) → Nat
  | [] => 0
  | d :: r => uptoBulk d + uptoBulkAll r
def uptoBulkEntries {H : Type} : List (Lit × DataW H) → Nat
  | [] => 0
  | x :: r => uptoBulkEntry x + uptoBulkEntries r
def uptoBulkEntry {H : Type} : Lit × DataW H → Nat
  | (.string bytes, d) => bytes.length + uptoBulk d + 1
  | (_, d) => uptoBulk d + 1
 end
def uptoSmall : (H : Type) → List (DataW H) → Bool := fun _ ds => decide (uptoBulkAll ds ≤ 1048576)
def OpenSpec.upto (s : _root_.Go.ChangeSpec) : _root_.Go.OpenSpec := { _root_.Go.OpenSpec.ofChange s with cond := some uptoSmall }

/-- 'balerlaw13.SequencesBack', WHERE WHAT IT READS IS OF BULK AT MOST 1048576: true; the input reads as it did. -/
def sequencesBackUptoRow : OpenClaim := { program := "ytlclleihoampdaa", sum := "75bc1b26d1a0ec69fb43de0dbcce315e60bc6c24da4f38a0ffe444c8760e30a0", func := "baler/balerlaw13.SequencesBack", spec := "sequencesBack", unfollowed := true, recurses := true, apart := false, narrowed := true }
def SequencesBackUptoSaid : Prop := sequencesBackUptoRow.holds Try.pinned (OpenSpec.upto sequencesBackSpec)

/-- 'balerlaw15.ZstdBehind', WHERE WHAT IT READS IS OF BULK AT MOST 1048576: true; the input reads as it did. -/
def zstdBehindUptoRow : OpenClaim := { program := "ytlclleihoampdaa", sum := "75bc1b26d1a0ec69fb43de0dbcce315e60bc6c24da4f38a0ffe444c8760e30a0", func := "baler/balerlaw15.ZstdBehind", spec := "zstdBehind", inPlace := ["internal/bytealg.MakeNoZero"], unfollowed := true, recurses := true, apart := false, narrowed := true }
def ZstdBehindUptoSaid : Prop := zstdBehindUptoRow.holds Try.pinned (OpenSpec.upto zstdBehindSpec)

/-- 'balerlaw15.ZstdCut', WHERE WHAT IT READS IS OF BULK AT MOST 1048576: true; the input reads as it did. -/
def zstdCutUptoRow : OpenClaim := { program := "ytlclleihoampdaa", sum := "75bc1b26d1a0ec69fb43de0dbcce315e60bc6c24da4f38a0ffe444c8760e30a0", func := "baler/balerlaw15.ZstdCut", spec := "zstdCut", inPlace := ["internal/bytealg.MakeNoZero"], unfollowed := true, recurses := true, apart := false, narrowed := true }
def ZstdCutUptoSaid : Prop := zstdCutUptoRow.holds Try.pinned (OpenSpec.upto zstdCutSpec)

/-- 'balerlaw15.ZstdRoom', WHERE WHAT IT READS IS OF BULK AT MOST 1048576: true; the input reads as it did. -/
def zstdRoomUptoRow : OpenClaim := { program := "ytlclleihoampdaa", sum := "75bc1b26d1a0ec69fb43de0dbcce315e60bc6c24da4f38a0ffe444c8760e30a0", func := "baler/balerlaw15.ZstdRoom", spec := "zstdRoom", inPlace := ["internal/bytealg.MakeNoZero"], unfollowed := true, recurses := true, apart := false, narrowed := true }
def ZstdRoomUptoSaid : Prop := zstdRoomUptoRow.holds Try.pinned (OpenSpec.upto zstdRoomSpec)

/-- 'balerlaw09.WeightsBack', WHERE WHAT IT READS IS OF BULK AT MOST 1048576: true; the input reads as it did. -/
def weightsBackUptoRow : OpenClaim := { program := "ytlclleihoampdaa", sum := "75bc1b26d1a0ec69fb43de0dbcce315e60bc6c24da4f38a0ffe444c8760e30a0", func := "baler/balerlaw09.WeightsBack", spec := "weightsBack", unfollowed := true, recurses := true, apart := false, narrowed := true }
def WeightsBackUptoSaid : Prop := weightsBackUptoRow.holds Try.pinned (OpenSpec.upto weightsBackSpec)

/-- 'balerlaw11.LiteralsBack', WHERE WHAT IT READS IS OF BULK AT MOST 1048576: true; the input reads as it did. -/
def literalsBackUptoRow : OpenClaim := { program := "ytlclleihoampdaa", sum := "75bc1b26d1a0ec69fb43de0dbcce315e60bc6c24da4f38a0ffe444c8760e30a0", func := "baler/balerlaw11.LiteralsBack", spec := "literalsBack", inPlace := ["internal/bytealg.Count", "internal/bytealg.IndexByte", "internal/bytealg.Index", "internal/bytealg.MakeNoZero"], unfollowed := true, recurses := true, named := ["internal/bytealg.MaxLen"], apart := false, narrowed := true }
def LiteralsBackUptoSaid : Prop := literalsBackUptoRow.holds Try.pinned (OpenSpec.upto literalsBackSpec)

/-- 'balerlaw11.LiteralsTwice', WHERE WHAT IT READS IS OF BULK AT MOST 1048576: true; the input reads as it did. -/
def literalsTwiceUptoRow : OpenClaim := { program := "ytlclleihoampdaa", sum := "75bc1b26d1a0ec69fb43de0dbcce315e60bc6c24da4f38a0ffe444c8760e30a0", func := "baler/balerlaw11.LiteralsTwice", spec := "literalsTwice", inPlace := ["internal/bytealg.Count", "internal/bytealg.IndexByte", "internal/bytealg.Index", "internal/bytealg.MakeNoZero"], unfollowed := true, recurses := true, named := ["internal/bytealg.MaxLen"], apart := false, narrowed := true }
def LiteralsTwiceUptoSaid : Prop := literalsTwiceUptoRow.holds Try.pinned (OpenSpec.upto literalsTwiceSpec)

end Rows
end Go.Proofs.Ytlclleihoampdaa
