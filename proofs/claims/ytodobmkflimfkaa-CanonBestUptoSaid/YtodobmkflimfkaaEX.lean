import Derived.Test.YtodobmkflimfkaaEB
import Derived.Test.YtodobmkflimfkaaRows
set_option linter.unusedVariables false
set_option linter.unusedSimpArgs false
/-
 The compact codes of this seat's functions (printed by wip/dev/Pr.lean.tpl), checked.
-/
namespace Go.Proofs.Ytodobmkflimfkaa
open Go Go.Sx Go.Proofs
end Go.Proofs.Ytodobmkflimfkaa
