/- Registers that are filled. -/
import Derived.Test.YtojjhcgbbmknmaaShWP
import Derived.Test.YtojjhcgbbmknmaaShExec0
namespace Go.Proofs.Ytojjhcgbbmknmaa.Sh
set_option linter.unusedSimpArgs false
set_option linter.unusedVariables false
open Go
theorem fill_cons (t : Tr SV) (n : Nat) (x : SV) (r : List SV) : Tr.fill t n (x :: r) = (t.set n x).fill (n + 1) r := rfl
theorem fill_nil (t : Tr SV) (n : Nat) : Tr.fill t n [] = t := rfl
end Go.Proofs.Ytojjhcgbbmknmaa.Sh
