/- The chapter's examples, carried out. -/
import Derived.Test.YtojjhcgbbmknmaaX8
namespace Go.Proofs.Ytojjhcgbbmknmaa.Sh
set_option linter.unusedSimpArgs false
set_option linter.unusedVariables false
open Go Go.Proofs
theorem awake18 : Tells 7 [] (.sc (.bool true)) := tells_yes rfl (by kernel_rfl)
end Go.Proofs.Ytojjhcgbbmknmaa.Sh
