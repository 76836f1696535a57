/- The chapter's examples, carried out. -/
import Derived.Test.YtojjhcgbbmknmaaShB0
import Derived.Test.YtojjhcgbbmknmaaShEval
namespace Go.Proofs.Ytojjhcgbbmknmaa.Sh
set_option linter.unusedSimpArgs false
set_option linter.unusedVariables false
open Go Go.Proofs
def E00 : Env := ⟨FT.get, fun _ => none⟩
noncomputable def yes (f : Nat) : Bool := match (runN E00 1000000).call f [] St.empty with
  | some (.sc (.bool true), _) => true
  | _ => false
theorem tells_yes {f : Nat} (hk : LV.get f = some 0) (h : yes f = true) : Tells f [] (.sc (.bool true)) := by
  unfold yes at h
  split at h
  · rename_i σ hc
    rw [callN_eq] at hc
    exact ⟨0, hk, 1000000, _, σ, hc, frz_pure rfl⟩
  · cases h
theorem awake18 : Tells 7 [] (.sc (.bool true)) := tells_yes rfl (by kernel_rfl)
end Go.Proofs.Ytojjhcgbbmknmaa.Sh
