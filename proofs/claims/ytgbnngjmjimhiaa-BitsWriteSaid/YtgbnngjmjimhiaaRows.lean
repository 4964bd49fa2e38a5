/-
  No cell of these rows narrows 'for every input' (looked for: loops, veiled, ifaces, maps, wideKeys, modest, calm, conditions, laid).
  DERIVED. THE GIVEN ROWS OF THIS SEAT. 8 by the template 'for every input the law returns true; each argument reads behind the call as it read before'; 0 by the template 'total and deterministic' (their statements: YtgbnngjmjimhiaaTotals.lean).
  GIVEN WITH THE SEED: the statements are not yours to turn. If you find one false, say at which input.
  Laid BY PROGRAM, IN A SANDBOX (cutbox-rows.mjs): the forced cells as the released guide's own fill.sh prints them over the translation 92b02948cea45490… (all of the seat's roots in one cut). By AI agents, Wed Nov 11 2026. No macro, syntax, notation, axiom, sorry.
-/
import Derived.Test.YtgbnngjmjimhiaaChecked
import GoSem.Claim
import GoSem.ClaimJoined
import GoSem.ClaimMapViews
import Derived.JoinedTies
import Derived.KernelRfl
namespace Go.Proofs.Ytgbnngjmjimhiaa
/- THE CELL 'sum', in the pinned program and in every row, IS THE sha256 OF THE DUMP (.gsa) THAT YtgbnngjmjimhiaaProg.lean LOADS. Nothing in Lean hashes anything: it is a label: what it is worth is what the hold of that sum in a sandbox is worth. -/
noncomputable def Try.pinned : Pinned := { name := "ytgbnngjmjimhiaa", sum := "92b02948cea454905c50c2c441985ace924e83492acc1340371298ea617b9773", checked := Try.checked }
namespace Rows
def none {H : Type} : Left H := { results := [], args := [] }

/-- 'balerlaw03.TailRead': WHATEVER THE INPUT: true; the input reads as it did. -/
def tailReadSpec : ChangeSpec := { name := "tailRead", fn := fun _ => fun
  | [d1, d2] => { results := [.lit (.bool true)], args := [d1, d2] }
  | _ => none }
def tailReadRow : OpenClaim := { program := "ytgbnngjmjimhiaa", sum := "92b02948cea454905c50c2c441985ace924e83492acc1340371298ea617b9773", func := "baler/balerlaw03.TailRead", spec := "tailRead", unfollowed := true, recurses := true, apart := false }
def TailReadSaid : Prop := tailReadRow.holds Try.pinned (OpenSpec.ofChange tailReadSpec)

/-- ITS FALSE NEIGHBOUR: 'it returns false'. Refute it at one input. -/
def tailReadWrong : ChangeSpec := { name := "tailRead", fn := fun _ => fun
  | [d1, d2] => { results := [.lit (.bool false)], args := [d1, d2] }
  | _ => none }
def TailReadWrongFalsely : Prop := tailReadRow.holds Try.pinned (OpenSpec.ofChange tailReadWrong)

/-- 'balerlaw03.TailWrite': WHATEVER THE INPUT: true; the input reads as it did. -/
def tailWriteSpec : ChangeSpec := { name := "tailWrite", fn := fun _ => fun
  | [d1, d2] => { results := [.lit (.bool true)], args := [d1, d2] }
  | _ => none }
def tailWriteRow : OpenClaim := { program := "ytgbnngjmjimhiaa", sum := "92b02948cea454905c50c2c441985ace924e83492acc1340371298ea617b9773", func := "baler/balerlaw03.TailWrite", spec := "tailWrite", unfollowed := true, recurses := true, apart := false }
def TailWriteSaid : Prop := tailWriteRow.holds Try.pinned (OpenSpec.ofChange tailWriteSpec)

/-- ITS FALSE NEIGHBOUR: 'it returns false'. Refute it at one input. -/
def tailWriteWrong : ChangeSpec := { name := "tailWrite", fn := fun _ => fun
  | [d1, d2] => { results := [.lit (.bool false)], args := [d1, d2] }
  | _ => none }
def TailWriteWrongFalsely : Prop := tailWriteRow.holds Try.pinned (OpenSpec.ofChange tailWriteWrong)

/-- 'balerlaw03.TailBack': WHATEVER THE INPUT: true; the input reads as it did. -/
def tailBackSpec : ChangeSpec := { name := "tailBack", fn := fun _ => fun
  | [d] => { results := [.lit (.bool true)], args := [d] }
  | _ => none }
def tailBackRow : OpenClaim := { program := "ytgbnngjmjimhiaa", sum := "92b02948cea454905c50c2c441985ace924e83492acc1340371298ea617b9773", func := "baler/balerlaw03.TailBack", spec := "tailBack", unfollowed := true, recurses := true, apart := false }
def TailBackSaid : Prop := tailBackRow.holds Try.pinned (OpenSpec.ofChange tailBackSpec)

/-- ITS FALSE NEIGHBOUR: 'it returns false'. Refute it at one input. -/
def tailBackWrong : ChangeSpec := { name := "tailBack", fn := fun _ => fun
  | [d] => { results := [.lit (.bool false)], args := [d] }
  | _ => none }
def TailBackWrongFalsely : Prop := tailBackRow.holds Try.pinned (OpenSpec.ofChange tailBackWrong)

/-- 'balerlaw03.TailNil': WHATEVER THE INPUT: true; the input reads as it did. -/
def tailNilSpec : ChangeSpec := { name := "tailNil", fn := fun _ => fun
  | [d] => { results := [.lit (.bool true)], args := [d] }
  | _ => none }
def tailNilRow : OpenClaim := { program := "ytgbnngjmjimhiaa", sum := "92b02948cea454905c50c2c441985ace924e83492acc1340371298ea617b9773", func := "baler/balerlaw03.TailNil", spec := "tailNil", unfollowed := true, recurses := true, apart := false }
def TailNilSaid : Prop := tailNilRow.holds Try.pinned (OpenSpec.ofChange tailNilSpec)

/-- ITS FALSE NEIGHBOUR: 'it returns false'. Refute it at one input. -/
def tailNilWrong : ChangeSpec := { name := "tailNil", fn := fun _ => fun
  | [d] => { results := [.lit (.bool false)], args := [d] }
  | _ => none }
def TailNilWrongFalsely : Prop := tailNilRow.holds Try.pinned (OpenSpec.ofChange tailNilWrong)

/-- 'balerlaw01.BitsWrite': WHATEVER THE INPUT: true; the input reads as it did. -/
def bitsWriteSpec : ChangeSpec := { name := "bitsWrite", fn := fun _ => fun
  | [d] => { results := [.lit (.bool true)], args := [d] }
  | _ => none }
def bitsWriteRow : OpenClaim := { program := "ytgbnngjmjimhiaa", sum := "92b02948cea454905c50c2c441985ace924e83492acc1340371298ea617b9773", func := "baler/balerlaw01.BitsWrite", spec := "bitsWrite", unfollowed := true, recurses := true, apart := false }
def BitsWriteSaid : Prop := bitsWriteRow.holds Try.pinned (OpenSpec.ofChange bitsWriteSpec)

/-- ITS FALSE NEIGHBOUR: 'it returns false'. Refute it at one input. -/
def bitsWriteWrong : ChangeSpec := { name := "bitsWrite", fn := fun _ => fun
  | [d] => { results := [.lit (.bool false)], args := [d] }
  | _ => none }
def BitsWriteWrongFalsely : Prop := bitsWriteRow.holds Try.pinned (OpenSpec.ofChange bitsWriteWrong)

/-- 'balerlaw01.BitsRead': WHATEVER THE INPUT: true; the input reads as it did. -/
def bitsReadSpec : ChangeSpec := { name := "bitsRead", fn := fun _ => fun
  | [d1, d2] => { results := [.lit (.bool true)], args := [d1, d2] }
  | _ => none }
def bitsReadRow : OpenClaim := { program := "ytgbnngjmjimhiaa", sum := "92b02948cea454905c50c2c441985ace924e83492acc1340371298ea617b9773", func := "baler/balerlaw01.BitsRead", spec := "bitsRead", unfollowed := true, recurses := true, apart := false }
def BitsReadSaid : Prop := bitsReadRow.holds Try.pinned (OpenSpec.ofChange bitsReadSpec)

/-- ITS FALSE NEIGHBOUR: 'it returns false'. Refute it at one input. -/
def bitsReadWrong : ChangeSpec := { name := "bitsRead", fn := fun _ => fun
  | [d1, d2] => { results := [.lit (.bool false)], args := [d1, d2] }
  | _ => none }
def BitsReadWrongFalsely : Prop := bitsReadRow.holds Try.pinned (OpenSpec.ofChange bitsReadWrong)

/-- 'balerlaw01.BitsBack': WHATEVER THE INPUT: true; the input reads as it did. -/
def bitsBackSpec : ChangeSpec := { name := "bitsBack", fn := fun _ => fun
  | [d] => { results := [.lit (.bool true)], args := [d] }
  | _ => none }
def bitsBackRow : OpenClaim := { program := "ytgbnngjmjimhiaa", sum := "92b02948cea454905c50c2c441985ace924e83492acc1340371298ea617b9773", func := "baler/balerlaw01.BitsBack", spec := "bitsBack", unfollowed := true, recurses := true, apart := false }
def BitsBackSaid : Prop := bitsBackRow.holds Try.pinned (OpenSpec.ofChange bitsBackSpec)

/-- ITS FALSE NEIGHBOUR: 'it returns false'. Refute it at one input. -/
def bitsBackWrong : ChangeSpec := { name := "bitsBack", fn := fun _ => fun
  | [d] => { results := [.lit (.bool false)], args := [d] }
  | _ => none }
def BitsBackWrongFalsely : Prop := bitsBackRow.holds Try.pinned (OpenSpec.ofChange bitsBackWrong)

/-- 'balerlaw01.BitsNil': WHATEVER THE INPUT: true; the input reads as it did. -/
def bitsNilSpec : ChangeSpec := { name := "bitsNil", fn := fun _ => fun
  | [d] => { results := [.lit (.bool true)], args := [d] }
  | _ => none }
def bitsNilRow : OpenClaim := { program := "ytgbnngjmjimhiaa", sum := "92b02948cea454905c50c2c441985ace924e83492acc1340371298ea617b9773", func := "baler/balerlaw01.BitsNil", spec := "bitsNil", unfollowed := true, recurses := true, apart := false }
def BitsNilSaid : Prop := bitsNilRow.holds Try.pinned (OpenSpec.ofChange bitsNilSpec)

/-- ITS FALSE NEIGHBOUR: 'it returns false'. Refute it at one input. -/
def bitsNilWrong : ChangeSpec := { name := "bitsNil", fn := fun _ => fun
  | [d] => { results := [.lit (.bool false)], args := [d] }
  | _ => none }
def BitsNilWrongFalsely : Prop := bitsNilRow.holds Try.pinned (OpenSpec.ofChange bitsNilWrong)

/- THE SECOND FORM. 'bulk': how many values and letters a reading holds, each counted each time it is reached (what is shared counts as often as it is met; a slice's spare places count too). A statement '..UptoSaid' is the law's where the arguments, and the package variables that the reading takes, are together of bulk at most 1048576: NARROWER than '..Said'. Prove '..Said' where nothing that the law and all that it calls make is longer than what came in: it says more and counts as full. Else prove '..UptoSaid'. A law counts once. -/
mutual
def uptoBulk {H : Type} : DataW H → Nat
  | .lit (.string bytes) => bytes.length + 1
  | .lit _ => 1
  | .nil => 1
  | .ptr d => uptoBulk d + 1
  | .slice elems spare => uptoBulkAll elems + uptoBulkAll spare + 1
  | .agg parts => uptoBulkAll parts + 1
  | .iface _ d => uptoBulk d + 1
  | .map entries => uptoBulkEntries entries + 1
  | .held _ => 1
def uptoBulkAll {H : Type} : List (DataW H) → Nat
  | [] => 0
  | d :: r => uptoBulk d + uptoBulkAll r
def uptoBulkEntries {H : Type} : List (Lit × DataW H) → Nat
  | [] => 0
  | x :: r => uptoBulkEntry x + uptoBulkEntries r
def uptoBulkEntry {H : Type} : Lit × DataW H → Nat
  | (.string bytes, d) => bytes.length + uptoBulk d + 1
  | (_, d) => uptoBulk d + 1
 end
def uptoSmall : (H : Type) → List (DataW H) → Bool := fun _ ds => decide (uptoBulkAll ds ≤ 1048576)
def OpenSpec.upto (s : _root_.Go.ChangeSpec) : _root_.Go.OpenSpec := { _root_.Go.OpenSpec.ofChange s with cond := some uptoSmall }

/-- 'balerlaw03.TailRead', WHERE WHAT IT READS IS OF BULK AT MOST 1048576: true; the input reads as it did. -/
def tailReadUptoRow : OpenClaim := { program := "ytgbnngjmjimhiaa", sum := "92b02948cea454905c50c2c441985ace924e83492acc1340371298ea617b9773", func := "baler/balerlaw03.TailRead", spec := "tailRead", unfollowed := true, recurses := true, apart := false, narrowed := true }
def TailReadUptoSaid : Prop := tailReadUptoRow.holds Try.pinned (OpenSpec.upto tailReadSpec)

/-- 'balerlaw03.TailWrite', WHERE WHAT IT READS IS OF BULK AT MOST 1048576: true; the input reads as it did. -/
def tailWriteUptoRow : OpenClaim := { program := "ytgbnngjmjimhiaa", sum := "92b02948cea454905c50c2c441985ace924e83492acc1340371298ea617b9773", func := "baler/balerlaw03.TailWrite", spec := "tailWrite", unfollowed := true, recurses := true, apart := false, narrowed := true }
def TailWriteUptoSaid : Prop := tailWriteUptoRow.holds Try.pinned (OpenSpec.upto tailWriteSpec)

/-- 'balerlaw03.TailBack', WHERE WHAT IT READS IS OF BULK AT MOST 1048576: true; the input reads as it did. -/
def tailBackUptoRow : OpenClaim := { program := "ytgbnngjmjimhiaa", sum := "92b02948cea454905c50c2c441985ace924e83492acc1340371298ea617b9773", func := "baler/balerlaw03.TailBack", spec := "tailBack", unfollowed := true, recurses := true, apart := false, narrowed := true }
def TailBackUptoSaid : Prop := tailBackUptoRow.holds Try.pinned (OpenSpec.upto tailBackSpec)

/-- 'balerlaw03.TailNil', WHERE WHAT IT READS IS OF BULK AT MOST 1048576: true; the input reads as it did. -/
def tailNilUptoRow : OpenClaim := { program := "ytgbnngjmjimhiaa", sum := "92b02948cea454905c50c2c441985ace924e83492acc1340371298ea617b9773", func := "baler/balerlaw03.TailNil", spec := "tailNil", unfollowed := true, recurses := true, apart := false, narrowed := true }
def TailNilUptoSaid : Prop := tailNilUptoRow.holds Try.pinned (OpenSpec.upto tailNilSpec)

/-- 'balerlaw01.BitsWrite', WHERE WHAT IT READS IS OF BULK AT MOST 1048576: true; the input reads as it did. -/
def bitsWriteUptoRow : OpenClaim := { program := "ytgbnngjmjimhiaa", sum := "92b02948cea454905c50c2c441985ace924e83492acc1340371298ea617b9773", func := "baler/balerlaw01.BitsWrite", spec := "bitsWrite", unfollowed := true, recurses := true, apart := false, narrowed := true }
def BitsWriteUptoSaid : Prop := bitsWriteUptoRow.holds Try.pinned (OpenSpec.upto bitsWriteSpec)

/-- 'balerlaw01.BitsRead', WHERE WHAT IT READS IS OF BULK AT MOST 1048576: true; the input reads as it did. -/
def bitsReadUptoRow : OpenClaim := { program := "ytgbnngjmjimhiaa", sum := "92b02948cea454905c50c2c441985ace924e83492acc1340371298ea617b9773", func := "baler/balerlaw01.BitsRead", spec := "bitsRead", unfollowed := true, recurses := true, apart := false, narrowed := true }
def BitsReadUptoSaid : Prop := bitsReadUptoRow.holds Try.pinned (OpenSpec.upto bitsReadSpec)

/-- 'balerlaw01.BitsBack', WHERE WHAT IT READS IS OF BULK AT MOST 1048576: true; the input reads as it did. -/
def bitsBackUptoRow : OpenClaim := { program := "ytgbnngjmjimhiaa", sum := "92b02948cea454905c50c2c441985ace924e83492acc1340371298ea617b9773", func := "baler/balerlaw01.BitsBack", spec := "bitsBack", unfollowed := true, recurses := true, apart := false, narrowed := true }
def BitsBackUptoSaid : Prop := bitsBackUptoRow.holds Try.pinned (OpenSpec.upto bitsBackSpec)

/-- 'balerlaw01.BitsNil', WHERE WHAT IT READS IS OF BULK AT MOST 1048576: true; the input reads as it did. -/
def bitsNilUptoRow : OpenClaim := { program := "ytgbnngjmjimhiaa", sum := "92b02948cea454905c50c2c441985ace924e83492acc1340371298ea617b9773", func := "baler/balerlaw01.BitsNil", spec := "bitsNil", unfollowed := true, recurses := true, apart := false, narrowed := true }
def BitsNilUptoSaid : Prop := bitsNilUptoRow.holds Try.pinned (OpenSpec.upto bitsNilSpec)

end Rows
end Go.Proofs.Ytgbnngjmjimhiaa
