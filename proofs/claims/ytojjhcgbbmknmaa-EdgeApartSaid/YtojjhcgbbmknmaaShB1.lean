/- Values as the shadow has them: rows of whole numbers, sets of blocks; what is read of them. -/
import Derived.Test.YtojjhcgbbmknmaaShB0
namespace Go.Proofs.Ytojjhcgbbmknmaa.Sh
set_option linter.unusedSimpArgs false
set_option linter.unusedVariables false
open Go Go.Proofs

def ol {α : Type} (o : Option (List α)) : List α := o.getD []
/-- Whole numbers in a row. -/
def intsV : Option (List Int) → SV
  | none => .sc .nilsl
  | some l => .lst l.length 1 (l.map SV.int)
theorem pures_ints (l : List Int) : pures (l.map SV.int) = true := by rw [pures_iff]; intro c hc; obtain ⟨x, _, rfl⟩ := List.mem_map.1 hc; rfl
theorem pure_ints (o : Option (List Int)) : (intsV o).pure = true := by cases o with
  | none => rfl
  | some l => exact pures_ints l
theorem lenSV_ints (o : Option (List Int)) : lenSV (intsV o) = some (ol o).length := by cases o <;> rfl
theorem rowSV_ints (o : Option (List Int)) (σ : St) : rowSV σ (intsV o) = some ((ol o).map SV.int) := by cases o <;> rfl
theorem cut_eq' {cs : List SV} {off n : Nat} (h : off + n ≤ cs.length) : cut cs off n = some ((cs.drop off).take n) := by rw [cut_def]; rw [if_pos h]
theorem cut_whole {cs : List SV} {n : Nat} (h : n = cs.length) : cut cs 0 n = some cs := by subst h; rw [cut_eq' (by omega), List.drop_zero, List.take_length]
theorem cut_one {cs : List SV} {i : Nat} {x : SV} (h : cs[i]? = some x) : cut cs i 1 = some [x] := by
  obtain ⟨h1, h2⟩ := List.getElem?_eq_some_iff.1 h
  rw [cut_eq' (by omega), List.drop_eq_getElem_cons h1]
  simp [h2]
theorem cut_ints {l : List Int} {i : Nat} {x : Int} (h : l[i]? = some x) : cut (l.map SV.int) i 1 = some [.sc (.int .i64 x)] := cut_one (by simp [h, SV.int])
theorem get_of_lt {α : Type} {l : List α} {i : Nat} (h : i < l.length) : ∃ x, l[i]? = some x := ⟨_, List.getElem?_eq_getElem h⟩

theorem cut_get {cs r : List SV} {off n : Nat} (h : cut cs off n = some r) {i : Nat} {x : SV} (hx : r[i]? = some x) : cut cs (off + i) 1 = some [x] := by
  rw [cut_def] at h
  split at h
  · rename_i hle
    cases h
    rw [List.getElem?_take] at hx
    split at hx
    · rw [List.getElem?_drop] at hx
      exact cut_one hx
    · cases hx
  · cases h
theorem cut_less {cs r : List SV} {off n : Nat} (h : cut cs off n = some r) {m : Nat} (hm : m ≤ n) : cut cs off m = some (r.take m) := by
  rw [cut_def] at h
  split at h
  · cases h
    rw [cut_eq' (by omega), List.take_take, Nat.min_eq_left hm]
  · cases h
/-- Numbers of a row. -/
def natCells (l : List Nat) : List SV := l.map fun x : Nat => .sc (.int .i64 (x : Int))
theorem natCells_get {l : List Nat} {i x : Nat} (h : l[i]? = some x) : (natCells l)[i]? = some (.sc (.int .i64 (x : Int))) := by simp [natCells, h]
theorem natCells_len (l : List Nat) : (natCells l).length = l.length := by simp [natCells]
theorem natCells_append (l m : List Nat) : natCells (l ++ m) = natCells l ++ natCells m := by simp [natCells]
theorem concat_of_ne {α : Type} {l : List α} (h : l ≠ []) : ∃ i x, l = i ++ [x] := ⟨l.dropLast, l.getLast h, (List.dropLast_concat_getLast h).symm⟩
/-- A row that has been built is read as it is. -/
theorem frz_sl {σ : St} {id off n sz : Nat} {cs ds : List SV} (h : cellsOf σ id = some cs) (hc : cut cs off (n * sz) = some ds) (hp : pures ds = true) : frz σ 20 (.sl id off n sz) = some (.lst n sz ds) := by
  show frz σ (19 + 1) _ = _
  unfold frz
  rw [if_neg (by simp [SV.pure])]
  simp only [h, Option.bind_some, hc]
  rw [show (19 : Nat) = 18 + 1 from rfl, mapO_pures hp]
  rfl
theorem frz_of_pure {σ : St} {v : SV} (h : v.pure = true) : frz σ 20 v = some v := frz_pure h

/-! ### Sets of blocks -/
def setCells (f : Nat → Bool) : List SV := (List.range 200).map (fun i => .sc (.bool (f i)))
def setV (f : Nat → Bool) : SV := .agg (setCells f)
theorem setCells_len (f : Nat → Bool) : (setCells f).length = 200 := by simp [setCells]
theorem setCells_get {f : Nat → Bool} {i : Nat} (h : i < 200) : (setCells f)[i]? = some (.sc (.bool (f i))) := by simp [setCells, h]
theorem pures_set (f : Nat → Bool) : pures (setCells f) = true := by rw [pures_iff]; intro c hc; obtain ⟨x, _, rfl⟩ := List.mem_map.1 hc; rfl
theorem flats_set (f : Nat → Bool) : flats (setCells f) = true := by rw [flats_iff]; intro c hc; obtain ⟨x, _, rfl⟩ := List.mem_map.1 hc; rfl
theorem pure_set (f : Nat → Bool) : (setV f).pure = true := pures_set f
theorem flat_set (f : Nat → Bool) : (setV f).flat0 = true := flats_set f
theorem frz_setc (σ : St) (f : Nat → Bool) : frz σ 20 (.agg (setCells f)) = some (.agg (setCells f)) := frz_pure (pure_set f)
theorem setCells_none : List.replicate 200 (.sc (.bool false)) = setCells (fun _ => false) := by
  apply List.ext_getElem?
  intro i
  by_cases h : i < 200
  · rw [setCells_get h, List.getElem?_replicate, if_pos h]
  · rw [List.getElem?_replicate, if_neg h, List.getElem?_eq_none (by rw [setCells_len]; omega)]
theorem paste_one {cs : List SV} {i : Nat} {v : SV} (h : i < cs.length) : paste cs i [v] = cs.set i v := by
  rw [paste_def]
  rw [List.set_eq_take_append_cons_drop, if_pos h]
  simp
theorem paste_set {f : Nat → Bool} {i : Nat} (b : Bool) (h : i < 200) : paste (setCells f) i [.sc (.bool b)] = setCells (fun j => if j = i then b else f j) := by
  rw [paste_one (by rw [setCells_len]; exact h)]
  apply List.ext_getElem?
  intro j
  rw [List.getElem?_set]
  by_cases hj : j < 200
  · rw [setCells_get hj]
    by_cases e : i = j
    · subst e; rw [if_pos rfl, if_pos (by rw [setCells_len]; exact h), setCells_get hj, if_pos rfl]
    · rw [if_neg e, setCells_get hj, if_neg (fun e' => e e'.symm)]
  · have : ¬ i = j := by omega
    rw [if_neg this, List.getElem?_eq_none (by rw [setCells_len]; omega), List.getElem?_eq_none (by rw [setCells_len]; omega)]
theorem cut_set {f : Nat → Bool} {i : Nat} (h : i < 200) : cut (setCells f) i 1 = some [.sc (.bool (f i))] := cut_one (setCells_get h)
theorem cut_all {f : Nat → Bool} : cut (setCells f) 0 200 = some (setCells f) := cut_whole (setCells_len f).symm
theorem paste_whole {cs ds : List SV} (h : ds.length = cs.length) : paste cs 0 ds = ds := by
  rw [paste_def]
  rw [List.drop_eq_nil_of_le (by omega)]
  simp
theorem paste_all {f g : Nat → Bool} : paste (setCells f) 0 (setCells g) = setCells g := paste_whole (by rw [setCells_len, setCells_len])
theorem setCells_congr {f g : Nat → Bool} (h : ∀ i, i < 200 → f i = g i) : setCells f = setCells g := by
  unfold setCells
  apply List.map_congr_left
  intro i hi
  rw [h i (List.mem_range.1 hi)]
theorem setCells_inj {f g : Nat → Bool} (h : setCells f = setCells g) : ∀ i, i < 200 → f i = g i := by
  intro i hi
  have h1 := setCells_get (f := f) hi
  rw [h, setCells_get hi] at h1
  injection h1 with h1; injection h1 with h1; injection h1 with h1; exact h1.symm
theorem eqCells_bools {α : Type} (f g : α → Bool) : ∀ l : List α, eqCells 1 (l.map fun i => .sc (.bool (f i))) (l.map fun i => .sc (.bool (g i))) = some (l.all fun i => f i == g i)
  | [] => rfl
  | x :: l => by
    simp only [List.map_cons, eqCells, List.all_cons, eqCells_bools f g l, Option.map_some]
    cases f x <;> cases g x <;> simp
def setEq (f g : Nat → Bool) : Bool := (List.range 200).all fun i => f i == g i
theorem setEq_iff {f g : Nat → Bool} : setEq f g = true ↔ ∀ i, i < 200 → f i = g i := by simp [setEq]
theorem eqSV_set (f g : Nat → Bool) : eqSV 5 200 (.agg (setCells f)) (.agg (setCells g)) = some (setEq f g) := by
  have h : Nat.beq (setCells f).length 200 = true := by rw [setCells_len]; rfl
  unfold eqSV
  simp only [h, Bool.and_true]
  show eqCells 1 (setCells f) (setCells g) = _
  unfold setCells
  rw [eqCells_bools]; rfl
end Go.Proofs.Ytojjhcgbbmknmaa.Sh
