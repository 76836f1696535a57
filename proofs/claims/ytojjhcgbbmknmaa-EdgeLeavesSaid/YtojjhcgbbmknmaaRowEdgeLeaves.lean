/- The row: EdgeLeaves answers true, whatever its input, and its input reads behind it as before: no condition. -/
import Derived.Test.YtojjhcgbbmknmaaShL3
import Derived.Test.YtojjhcgbbmknmaaShDec
import Derived.Test.YtojjhcgbbmknmaaShLevOk
import Derived.Test.YtojjhcgbbmknmaaShLay
import Derived.Test.YtojjhcgbbmknmaaRows
namespace Go.Proofs.Ytojjhcgbbmknmaa
set_option linter.unusedSimpArgs false
set_option linter.unusedVariables false
open Go.ChangeShapes Go.WideShapes Go.ChangeAt Go.RowKit
theorem Try.own' : ownKnob Try.prog.godebug = none := by kernel_rfl
theorem Try.laidOut' : laidOutB Try.prog = true := by kernel_rfl
theorem Try.mixed' : Try.prog.follows .mixedOrders = true := by kernel_rfl
theorem Sh.env_ok (k : Nat) (W : World) : Sh.EnvOK Try.prog W (Sh.EV k) := Sh.envAt_ok Try.mixed' Sh.FT_ok Sh.LV_ok Sh.base_ok k W
set_option maxRecDepth 100000 in
theorem edgeLeaves_walk : ∀ ss, Sh.RdA Try.prog 12 Try.f3.params.toList ss → ∃ n σ', Sh.call (Sh.EV 14) n 3 ss Sh.St.empty = some (.sc (.bool true), σ') := by
  intro ss h
  rw [show Try.f3.params.toList = [25, 26] from by kernel_rfl] at h
  obtain ⟨s1, s2, rfl, h1, h2⟩ := Sh.rdA_two h
  obtain ⟨f, rfl, hw⟩ := Sh.arg_func h1
  obtain ⟨o, rfl, hl⟩ := Sh.arg_tiles h2
  obtain ⟨k, hk, ht⟩ := Sh.t_edgeLeaves f o hw hl
  cases hk
  exact ht.call
set_option maxRecDepth 100000 in
theorem edgeLeaves_lifted (os : Os) (started : os.Started) (H : Type) (enc : TypeId × Value → H) :
    ReturnsInHanded {} Try.checked os 3 .any (Rows.edgeLeavesSpec.pre6 enc Try.prog Try.f3 Rows.edgeLeavesRow.domain false) (Rows.edgeLeavesSpec.post enc Try.prog Try.f3 false true false false) :=
  Sh.lifted (C := Try.checked) (tb := 4) 12 Try.own' started (by kernel_rfl) Try.func3
    (ChangeSpec.witness6 (enc := enc) (C := Try.checked) false ⟨#[], #[.agg #[.slice none 0 0, .slice none 0 0], .slice none 0 0], []⟩ 8 (by kernel_rfl) (by kernel_rfl) (by kernel_rfl) (by kernel_rfl))
    Try.laidOut' Try.mixed' rfl (by kernel_rfl) (by kernel_rfl) (fun ds h => by
      match ds, h with
      | [d1, d2], _ => rfl) (by kernel_rfl) _ (Sh.env_ok _) edgeLeaves_walk
theorem EdgeLeaves_holds : Rows.EdgeLeavesSaid :=
  OpenClaim.holds_of_wide 3 Try.f3 rfl rfl rfl rfl rfl rfl rfl ⟨rfl, rfl, rfl, rfl, rfl⟩ rfl rfl rfl rfl rfl (by kernel_rfl) Try.func3 (by kernel_rfl)
    (of_decide_eq_true (by kernel_rfl)) (by unfold Func.isWrapper; first | (rw [if_pos (by decide +kernel)]; kernel_rfl) | (rw [if_neg (by decide +kernel)]; exact ⟨rfl, rfl⟩))
    (fun os started H enc _ => edgeLeaves_lifted os started H enc)
#print axioms EdgeLeaves_holds
end Go.Proofs.Ytojjhcgbbmknmaa
