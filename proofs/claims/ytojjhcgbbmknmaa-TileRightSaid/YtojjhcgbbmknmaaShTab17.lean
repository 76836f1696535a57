/- intarsia/intarsialaw17.awake carried out over a table (written by gentab.py). -/
import Derived.Test.YtojjhcgbbmknmaaX6
import Derived.Test.YtojjhcgbbmknmaaShFns
namespace Go.Proofs.Ytojjhcgbbmknmaa.Sh
set_option linter.unusedSimpArgs false
set_option linter.unusedVariables false
set_option maxRecDepth 100000
open Go Go.Proofs
def E0017 : Env := ⟨FT.get, fun _ => none⟩
def big170 : SV := (.agg [(.lst 1 1 [(.sc (.int .i64 (1)))]), (.lst 3 5 [(.sc .nilsl), (.sc (.int .i64 (1))), (.sc (.int .i64 (0))), (.sc (.int .i64 (1))), (.sc (.int .i64 (0))), (.sc .nilsl), (.sc (.int .i64 (2))), (.sc (.int .i64 (1))), (.sc (.int .i64 (1))), (.sc (.int .i64 (2))), (.sc .nilsl), (.sc (.int .i64 (3))), (.sc (.int .i64 (0))), (.sc (.int .i64 (0))), (.sc (.int .i64 (0)))]), (.lst 3 1 [(.lst 1 1 [(.sc (.int .i64 (1)))]), (.lst 2 1 [(.sc (.int .i64 (1))), (.sc (.int .i64 (2)))]), (.sc .nilsl)]), (.lst 3 1 [(.sc .nilsl), (.lst 2 1 [(.sc (.int .i64 (0))), (.sc (.int .i64 (1)))]), (.lst 1 1 [(.sc (.int .i64 (1)))])])])
theorem tab17_0 : evT E0017 38 [(.lst 1 1 [(.sc (.int .i64 (1)))])] (setL [1]) = true := by kernel_rfl
theorem tab17_1 : evT E0017 38 [(.lst 3 1 [(.sc (.int .i64 (0))), (.sc (.int .i64 (1))), (.sc (.int .i64 (2)))])] (setL [0, 1, 2]) = true := by kernel_rfl
theorem tab17_2 : evT E0017 51 [big170] (setL [0, 1, 2]) = true := by kernel_rfl
theorem tab17_3 : evT E0017 68 [big170, (.sc (.int .i64 (0))), (setL [0, 1, 2]), (.lst 3 1 [(.lst 1 1 [(.sc (.int .i64 (1)))]), (.lst 2 1 [(.sc (.int .i64 (1))), (.sc (.int .i64 (2)))]), (.sc .nilsl)])] (setL [1, 2]) = true := by kernel_rfl
theorem tab17_4 : evT E0017 68 [big170, (.sc (.int .i64 (0))), (setL [0, 1]), (.lst 3 1 [(.lst 1 1 [(.sc (.int .i64 (1)))]), (.lst 2 1 [(.sc (.int .i64 (1))), (.sc (.int .i64 (2)))]), (.sc .nilsl)])] (setL [1]) = true := by kernel_rfl
theorem tab17_5 : evT E0017 73 [(setL [0, 1, 2]), (.sc (.int .i64 (2)))] (setL [0, 1]) = true := by kernel_rfl
theorem tab17_6 : evT E0017 73 [(setL [1]), (.sc (.int .i64 (1)))] (setL []) = true := by kernel_rfl
theorem tab17_7 : evT E0017 81 [big170, (.sc (.int .i64 (0))), (setL [0, 1, 2])] (setL []) = true := by kernel_rfl
theorem tab17_8 : evT E0017 81 [big170, (.sc (.int .i64 (1))), (setL [0, 1, 2])] (setL [1]) = true := by kernel_rfl
theorem tab17_9 : evT E0017 81 [big170, (.sc (.int .i64 (1))), (setL [1])] (setL [1]) = true := by kernel_rfl
theorem tab17_10 : evT E0017 81 [big170, (.sc (.int .i64 (1))), (setL [])] (setL []) = true := by kernel_rfl
theorem tab17_11 : evT E0017 81 [big170, (.sc (.int .i64 (2))), (setL [0, 1, 2])] (setL []) = true := by kernel_rfl
theorem tab17_12 : evT E0017 84 [(setL [2])] (.sc (.int .i64 (1))) = true := by kernel_rfl
theorem tab17_13 : evT E0017 87 [(setL [1]), (setL [0, 1, 2])] (.sc (.bool true)) = true := by kernel_rfl
def T17 : Nat → Option (List (List SV × SV)) := fun f => bif Nat.beq f 38 then some [([(.lst 1 1 [(.sc (.int .i64 (1)))])], (setL [1])), ([(.lst 3 1 [(.sc (.int .i64 (0))), (.sc (.int .i64 (1))), (.sc (.int .i64 (2)))])], (setL [0, 1, 2]))] else bif Nat.beq f 51 then some [([big170], (setL [0, 1, 2]))] else bif Nat.beq f 68 then some [([big170, (.sc (.int .i64 (0))), (setL [0, 1, 2]), (.lst 3 1 [(.lst 1 1 [(.sc (.int .i64 (1)))]), (.lst 2 1 [(.sc (.int .i64 (1))), (.sc (.int .i64 (2)))]), (.sc .nilsl)])], (setL [1, 2])), ([big170, (.sc (.int .i64 (0))), (setL [0, 1]), (.lst 3 1 [(.lst 1 1 [(.sc (.int .i64 (1)))]), (.lst 2 1 [(.sc (.int .i64 (1))), (.sc (.int .i64 (2)))]), (.sc .nilsl)])], (setL [1]))] else bif Nat.beq f 73 then some [([(setL [0, 1, 2]), (.sc (.int .i64 (2)))], (setL [0, 1])), ([(setL [1]), (.sc (.int .i64 (1)))], (setL []))] else bif Nat.beq f 81 then some [([big170, (.sc (.int .i64 (0))), (setL [0, 1, 2])], (setL [])), ([big170, (.sc (.int .i64 (1))), (setL [0, 1, 2])], (setL [1])), ([big170, (.sc (.int .i64 (1))), (setL [1])], (setL [1])), ([big170, (.sc (.int .i64 (1))), (setL [])], (setL [])), ([big170, (.sc (.int .i64 (2))), (setL [0, 1, 2])], (setL []))] else bif Nat.beq f 84 then some [([(setL [2])], (.sc (.int .i64 (1))))] else bif Nat.beq f 87 then some [([(setL [1]), (setL [0, 1, 2])], (.sc (.bool true)))] else none
theorem T17_told : ∀ f t, T17 f = some t → ∀ e ∈ t, Told E0017 f e.1 e.2 := by
  intro f t h
  unfold T17 at h
  cases h38 : Nat.beq f 38 with
  | true =>
    rw [h38] at h
    cases h
    cases Nat.eq_of_beq_eq_true h38
    intro e he
    simp only [List.mem_cons, List.not_mem_nil, or_false] at he
    rcases he with rfl | rfl
    · exact evT_told tab17_0
    · exact evT_told tab17_1
  | false =>
  rw [h38] at h
  replace h : _ = some t := h
  cases h51 : Nat.beq f 51 with
  | true =>
    rw [h51] at h
    cases h
    cases Nat.eq_of_beq_eq_true h51
    intro e he
    simp only [List.mem_cons, List.not_mem_nil, or_false] at he
    subst he
    exact evT_told tab17_2
  | false =>
  rw [h51] at h
  replace h : _ = some t := h
  cases h68 : Nat.beq f 68 with
  | true =>
    rw [h68] at h
    cases h
    cases Nat.eq_of_beq_eq_true h68
    intro e he
    simp only [List.mem_cons, List.not_mem_nil, or_false] at he
    rcases he with rfl | rfl
    · exact evT_told tab17_3
    · exact evT_told tab17_4
  | false =>
  rw [h68] at h
  replace h : _ = some t := h
  cases h73 : Nat.beq f 73 with
  | true =>
    rw [h73] at h
    cases h
    cases Nat.eq_of_beq_eq_true h73
    intro e he
    simp only [List.mem_cons, List.not_mem_nil, or_false] at he
    rcases he with rfl | rfl
    · exact evT_told tab17_5
    · exact evT_told tab17_6
  | false =>
  rw [h73] at h
  replace h : _ = some t := h
  cases h81 : Nat.beq f 81 with
  | true =>
    rw [h81] at h
    cases h
    cases Nat.eq_of_beq_eq_true h81
    intro e he
    simp only [List.mem_cons, List.not_mem_nil, or_false] at he
    rcases he with rfl | rfl | rfl | rfl | rfl
    · exact evT_told tab17_7
    · exact evT_told tab17_8
    · exact evT_told tab17_9
    · exact evT_told tab17_10
    · exact evT_told tab17_11
  | false =>
  rw [h81] at h
  replace h : _ = some t := h
  cases h84 : Nat.beq f 84 with
  | true =>
    rw [h84] at h
    cases h
    cases Nat.eq_of_beq_eq_true h84
    intro e he
    simp only [List.mem_cons, List.not_mem_nil, or_false] at he
    subst he
    exact evT_told tab17_12
  | false =>
  rw [h84] at h
  replace h : _ = some t := h
  cases h87 : Nat.beq f 87 with
  | true =>
    rw [h87] at h
    cases h
    cases Nat.eq_of_beq_eq_true h87
    intro e he
    simp only [List.mem_cons, List.not_mem_nil, or_false] at he
    subst he
    exact evT_told tab17_13
  | false =>
  rw [h87] at h
  replace h : _ = some t := h
  cases h
theorem T17_fn : ∀ f t, T17 f = some t → ∃ sf, FT.get f = some sf := by
  intro f t h
  unfold T17 at h
  cases h38 : Nat.beq f 38 with
  | true => cases Nat.eq_of_beq_eq_true h38; exact ⟨_, rfl⟩
  | false =>
  rw [h38] at h
  cases h51 : Nat.beq f 51 with
  | true => cases Nat.eq_of_beq_eq_true h51; exact ⟨_, rfl⟩
  | false =>
  rw [h51] at h
  cases h68 : Nat.beq f 68 with
  | true => cases Nat.eq_of_beq_eq_true h68; exact ⟨_, rfl⟩
  | false =>
  rw [h68] at h
  cases h73 : Nat.beq f 73 with
  | true => cases Nat.eq_of_beq_eq_true h73; exact ⟨_, rfl⟩
  | false =>
  rw [h73] at h
  cases h81 : Nat.beq f 81 with
  | true => cases Nat.eq_of_beq_eq_true h81; exact ⟨_, rfl⟩
  | false =>
  rw [h81] at h
  cases h84 : Nat.beq f 84 with
  | true => cases Nat.eq_of_beq_eq_true h84; exact ⟨_, rfl⟩
  | false =>
  rw [h84] at h
  cases h87 : Nat.beq f 87 with
  | true => cases Nat.eq_of_beq_eq_true h87; exact ⟨_, rfl⟩
  | false =>
  rw [h87] at h
  cases h
theorem yes17 : Told (tabEnv E0017 T17) 20 [] (.sc (.bool true)) := evT_told (by kernel_rfl)
end Go.Proofs.Ytojjhcgbbmknmaa.Sh
