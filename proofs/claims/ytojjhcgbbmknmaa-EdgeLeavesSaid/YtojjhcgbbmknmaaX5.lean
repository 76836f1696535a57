/- Several texts, merged: Regions that draw their order: what an operation of the shadow hangs on. And more. -/
import Derived.Test.YtojjhcgbbmknmaaX1
import Derived.Test.YtojjhcgbbmknmaaX4
import Derived.DataElems
import Derived.SizedLaws
import Derived.ProofKit

/- Regions that draw their order: what an operation of the shadow hangs on. -/
namespace Go.Proofs.Ytojjhcgbbmknmaa.Sh
set_option linter.unusedSimpArgs false
set_option linter.unusedVariables false
open Go

section
variable {t t' : Tr SV} {σ σ' : St} {v : SV} {so : SOp}

def Agree (t t' : Tr SV) (l : List Nat) : Prop := ∀ i ∈ l, getT t i = getT t' i
theorem Agree.left {a b : List Nat} (h : Agree t t' (a ++ b)) : Agree t t' a := fun i hi => h i (List.mem_append_left _ hi)
theorem Agree.right {a b : List Nat} (h : Agree t t' (a ++ b)) : Agree t t' b := fun i hi => h i (List.mem_append_right _ hi)
theorem opd_congr {x : Opd} (h : Agree t t' (opdTmps x)) : x.ev t = x.ev t' := by
  cases x with
  | t n => exact h n (by simp [opdTmps])
  | k v => rfl
theorem opds_congr : ∀ {l : List Opd}, Agree t t' (l.flatMap opdTmps) → l.map (·.ev t) = l.map (·.ev t')
  | [], _ => rfl
  | x :: r, h => by
    rw [List.flatMap_cons] at h
    simp only [List.map_cons, opd_congr h.left, opds_congr h.right]
theorem loI_congr {x : Option Opd} (h : Agree t t' (optTmps x)) : loI t x = loI t' x := by
  cases x with
  | none => rfl
  | some x => simp only [loI, opd_congr (show Agree t t' (opdTmps x) from h)]
theorem hiI_congr {n : Nat} {x : Option Opd} (h : Agree t t' (optTmps x)) : hiI n t x = hiI n t' x := by
  cases x with
  | none => rfl
  | some x => simp only [hiI, opd_congr (show Agree t t' (opdTmps x) from h)]
theorem bounds_congr {n : Nat} {x y : Option Opd} (h : Agree t t' (optTmps x)) (k : Agree t t' (optTmps y)) : bounds n t x y = bounds n t' x y := by
  simp only [bounds, loI_congr h, hiI_congr k]
theorem parts_congr : ∀ {l : List (Nat × Nat × Opd)} {cs : List SV}, Agree t t' (l.flatMap fun p => opdTmps p.2.2) → fillParts t cs l = fillParts t' cs l
  | [], _, _ => rfl
  | (o, n, x) :: r, cs, h => by
    rw [List.flatMap_cons] at h
    simp only [fillParts, opd_congr (x := x) h.left]
    split
    · exact parts_congr h.right
    · rfl

theorem sop_congr (h : Agree t t' (sopTmps so)) : sop so t σ = sop so t' σ := by
  cases so with
  | mv x => simp only [sop, opd_congr (x := x) h]
  | box x => simp only [sop, opd_congr (x := x) h]
  | load _ _ x => simp only [sop, opd_congr (x := x) h]
  | un _ x => simp only [sop, opd_congr (x := x) h]
  | conv _ x => simp only [sop, opd_congr (x := x) h]
  | fieldA _ x => simp only [sop, opd_congr (x := x) h]
  | field _ _ _ x => simp only [sop, opd_congr (x := x) h]
  | extract x _ => simp only [sop, opd_congr (x := x) h]
  | lenSl x => simp only [sop, opd_congr (x := x) h]
  | lenMap x => simp only [sop, opd_congr (x := x) h]
  | nilchk x => simp only [sop, opd_congr (x := x) h]
  | pick a b c => simp only [sop, opd_congr (x := a) h.left.left, opd_congr (x := b) h.left.right, opd_congr (x := c) h.right]
  | mapset a b c => simp only [sop, opd_congr (x := a) h.left.left, opd_congr (x := b) h.left.right, opd_congr (x := c) h.right]
  | alloc _ => rfl
  | mkmap => rfl
  | lenArr _ => rfl
  | build zs l => simp only [sop, parts_congr (l := l) h]
  | buildSl _ zs _ l => simp only [sop, parts_congr (l := l) h]
  | store _ a b => simp only [sop, opd_congr (x := a) h.left, opd_congr (x := b) h.right]
  | bin _ _ _ a b => simp only [sop, opd_congr (x := a) h.left, opd_congr (x := b) h.right]
  | mksl _ _ _ a b => simp only [sop, opd_congr (x := a) h.left, opd_congr (x := b) h.right]
  | indexArr _ _ a b => simp only [sop, opd_congr (x := a) h.left, opd_congr (x := b) h.right]
  | indexSl _ a b => simp only [sop, opd_congr (x := a) h.left, opd_congr (x := b) h.right]
  | index _ _ _ a b => simp only [sop, opd_congr (x := a) h.left, opd_congr (x := b) h.right]
  | append _ _ _ a b => simp only [sop, opd_congr (x := a) h.left, opd_congr (x := b) h.right]
  | lookup _ _ a b => simp only [sop, opd_congr (x := a) h.left, opd_congr (x := b) h.right]
  | mkfn _ a b => simp only [sop, opds_congr (l := a) h.left, opds_congr (l := b) h.right]
  | slc _ x a b => simp only [sop, opd_congr (x := x) h.left.left, bounds_congr (x := a) (y := b) h.left.right h.right]
  | slcArr _ _ x a b => simp only [sop, opd_congr (x := x) h.left.left, bounds_congr (x := a) (y := b) h.left.right h.right]
  | call f l => rfl
  | bad => rfl
  | minmax _ a b => simp only [sop, opd_congr (x := a) h.left, opd_congr (x := b) h.right]
  | copy _ a b => simp only [sop, opd_congr (x := a) h.left, opd_congr (x := b) h.right]
  | idxStr a b => simp only [sop, opd_congr (x := a) h.left, opd_congr (x := b) h.right]
  | clear _ _ a => simp only [sop, opd_congr (x := a) h]

theorem one_congr {E : Env} {n : Nat} (h : Agree t t' (sopTmps so)) : one E n so t σ = one E n so t' σ := by
  cases n with
  | zero => rfl
  | succ n =>
    by_cases hso : ∃ f l, so = .call f l
    · obtain ⟨f, l, rfl⟩ := hso
      simp only [one, opd_congr (x := f) h.left, opds_congr (l := l) h.right]
    · have : ∀ t, one E (n + 1) so t σ = sop so t σ := fun t => by
        cases so <;> first | rfl | exact absurd ⟨_, _, rfl⟩ hso
      rw [this, this]; exact sop_congr h
theorem wantedS_congr {g : Option (Nat × Bool)} (h : ∀ i b, g = some (i, b) → getT t i = getT t' i) : wantedS t g = wantedS t' g := by
  cases g with
  | none => rfl
  | some p => simp only [wantedS, h p.1 p.2 rfl]
theorem stepTmps_op {s : Step} (h : Agree t t' (stepTmps s)) : Agree t t' (sopTmps s.op) := fun i hi => h i (List.mem_append_right _ hi)
theorem stepTmps_guard {s : Step} (h : Agree t t' (stepTmps s)) : wantedS t s.guard = wantedS t' s.guard :=
  wantedS_congr fun i b e => h i (by simp [stepTmps, e])

/-- Kinds. -/
theorem one_sop {E : Env} {n : Nat} (hk : sopKd so ≠ .big) (h : one E n so t σ = some (v, σ')) : sop so t σ = some (v, σ') := by
  cases n with
  | zero => simp [one] at h
  | succ n => cases so <;> first | exact h | simp [sopKd] at hk

theorem map_inv {α : Type} {x : Option α} {f : α → SV × St} (h : x.map f = some (v, σ')) : ∃ u, x = some u ∧ f u = (v, σ') := Option.map_eq_some_iff.1 h

theorem pure_form (hk : sopKd so = .pure) (σ σ2 : St) : sop so t σ = (sop so t σ2).map (fun p => (p.1, σ)) := by
  cases so <;> simp only [sopKd, reduceCtorEq] at hk <;> simp only [sop] <;> (repeat' split) <;>
    first
    | rfl
    | (simp only [Option.map_map, Function.comp_def]; done)
    | (rename_i a b _; cases hb : Nat.beq _ _ <;> simp [Option.map_map, Function.comp_def, hb]; done)
    | skip
theorem pure_any (hk : sopKd so = .pure) (h : sop so t σ = some (v, σ')) : σ' = σ ∧ ∀ σ2, sop so t σ2 = some (v, σ2) := by
  have e := pure_form (t := t) hk σ σ
  rw [h] at e
  simp only [Option.map_some, Option.some.injEq, Prod.mk.injEq, true_and] at e
  refine ⟨e, fun σ2 => ?_⟩
  rw [pure_form hk σ2 σ, h]; rfl

theorem alloc_push (hk : sopKd so = .alloc) (h : sop so t σ = some (v, σ')) : ∃ ob, σ' = σ.push ob := by
  cases so <;> simp only [sopKd, reduceCtorEq] at hk <;> simp only [sop] at h
  all_goals (repeat' split at h)
  all_goals first | (cases h; done) | (simp only [Option.some.injEq, Prod.mk.injEq] at h; exact ⟨_, h.2.symm⟩) | (obtain ⟨u, h1, h2⟩ := map_inv h; simp only [Prod.mk.injEq] at h2; exact ⟨_, h2.2.symm⟩)

theorem get_push_old {i : Nat} {o ob : Ob} (hf : ∀ i, σ.next ≤ i → σ.get i = none) (h : σ.get i = some o) : (σ.push ob).get i = some o := by
  show (Tr.set _ _ _).get i = _
  rw [Tr.get_set]
  by_cases hi : i = σ.next
  · rw [hf i (by omega)] at h; cases h
  · rw [if_neg hi]; exact h
theorem cells_push_old {i : Nat} {cs : List SV} {ob : Ob} (hf : ∀ i, σ.next ≤ i → σ.get i = none) (h : cellsOf σ i = some cs) : cellsOf (σ.push ob) i = some cs := by
  unfold cellsOf at h ⊢
  split at h
  · rename_i e; rw [get_push_old hf e]; exact h
  · cases h
theorem load_push {ag : Bool} {n : Nat} {x : SV} {ob : Ob} (hf : ∀ i, σ.next ≤ i → σ.get i = none) (h : loadSV σ ag n x = some v) : loadSV (σ.push ob) ag n x = some v := by
  cases x <;> simp only [loadSV] at h ⊢ <;> try (first | exact h | cases h; done)
  obtain ⟨cs, h1, h2⟩ := Option.bind_eq_some_iff.1 h
  rw [cells_push_old hf h1]; exact h2
theorem reads_push (hk : sopKd so = .reads) (h : sop so t σ = some (v, σ')) : σ' = σ ∧ ((∀ i, σ.next ≤ i → σ.get i = none) → ∀ ob, sop so t (σ.push ob) = some (v, σ.push ob)) := by
  cases so <;> simp only [sopKd, reduceCtorEq] at hk
  case load ag n a =>
    simp only [sop] at h ⊢
    obtain ⟨u, h1, h2⟩ := map_inv h
    cases h2
    exact ⟨rfl, fun hf ob => by rw [load_push hf h1]; rfl⟩
  case slcArr n sz x lo hi =>
    simp only [sop] at h ⊢
    split at h
    · obtain ⟨cs, h1, h2⟩ := Option.bind_eq_some_iff.1 h
      split at h2
      · rename_i hle
        obtain ⟨u, h3, h4⟩ := map_inv h2
        cases h4
        refine ⟨rfl, fun hf ob => ?_⟩
        rw [cells_push_old hf h1]
        simp only [Option.bind_some, if_pos hle, h3]; rfl
      · cases h2
    · cases h
  case lenMap x =>
    simp only [sop] at h ⊢
    split at h
    · cases h; exact ⟨rfl, fun _ _ => rfl⟩
    · split at h
      · rename_i e
        cases h
        exact ⟨rfl, fun hf ob => by rw [get_push_old hf e]⟩
      · cases h
    · cases h
  case lookup z ok m k =>
    simp only [sop] at h ⊢
    split at h
    · split at h
      · split at h
        · rename_i hall
          split at h
          · cases h; exact ⟨rfl, fun _ _ => by simp [*]⟩
          · cases h; exact ⟨rfl, fun _ _ => by simp [*]⟩
        · cases h
      · split at h
        · rename_i e
          split at h
          · rename_i hall
            split at h
            · rename_i hfk; cases h; exact ⟨rfl, fun hf ob => by rw [get_push_old hf e]; simp only [if_pos hall, hfk]⟩
            · rename_i hfk; cases h; exact ⟨rfl, fun hf ob => by rw [get_push_old hf e]; simp only [if_pos hall, hfk]⟩
          · cases h
        · cases h
      · cases h
    · cases h

theorem beq_true {a b : Nat} (h : Nat.beq a b = true) : a = b := Nat.eq_of_beq_eq_true h
mutual
theorem same_eq : ∀ {a b : SV}, a.same b = true → a = b
  | .sc a, b, h => by cases b <;> simp_all [SV.same]
  | .agg a, b, h => by
    cases b <;> simp only [SV.same, Bool.false_eq_true] at h
    rw [sames_eq h]
  | .tup a, b, h => by
    cases b <;> simp only [SV.same, Bool.false_eq_true] at h
    rw [sames_eq h]
  | .sl .., b, h => by
    cases b <;> simp only [SV.same, Bool.false_eq_true, Bool.and_eq_true] at h
    rw [beq_true h.1.1.1, beq_true h.1.1.2, beq_true h.1.2, beq_true h.2]
  | .lst .., b, h => by
    cases b <;> simp only [SV.same, Bool.false_eq_true, Bool.and_eq_true] at h
    rw [beq_true h.1.1, beq_true h.1.2, sames_eq h.2]
  | .ptr .., b, h => by
    cases b <;> simp only [SV.same, Bool.false_eq_true, Bool.and_eq_true] at h
    rw [beq_true h.1, beq_true h.2]
  | .iptr .., b, h => by
    cases b <;> simp only [SV.same, Bool.false_eq_true, Bool.and_eq_true] at h
    rw [sames_eq h.1, beq_true h.2]
  | .fn .., b, h => by
    cases b <;> simp only [SV.same, Bool.false_eq_true, Bool.and_eq_true] at h
    rw [beq_true h.1.1, sames_eq h.1.2, sames_eq h.2]
  | .yld _, b, h => by
    cases b <;> simp only [SV.same, Bool.false_eq_true] at h
    rw [beq_true h]
  | .mp _, b, h => by
    cases b <;> simp only [SV.same, Bool.false_eq_true] at h
    rw [beq_true h]
theorem sames_eq : ∀ {a b : List SV}, sames a b = true → a = b
  | [], b, h => by cases b <;> simp_all [sames]
  | x :: r, b, h => by
    cases b with
    | nil => simp [sames] at h
    | cons y s =>
      simp only [sames, Bool.and_eq_true] at h
      rw [same_eq h.1, sames_eq h.2]
end
end

section
variable (E : Env)
/-- The run of steps, told step by step. -/
structure Trace (n : Nat) (ss : List Step) (T : Nat → Tr SV) (Z : Nat → St) (R : Nat → SV) : Prop where
  put : ∀ j s, ss[j]? = some s → T (j + 1) = putD (T j) s.dst (R j)
  run : ∀ j s, ss[j]? = some s → (wantedS (T j) s.guard = some true ∧ (∃ k, k < n ∧ one E k s.op (T j) (Z j) = some (R j, Z (j + 1))) ∧ recheck (T j) (Z (j + 1)) s.re = true) ∨
    (wantedS (T j) s.guard = some false ∧ R j = .undef ∧ Z (j + 1) = Z j)
variable {E}
theorem trace : ∀ {ss : List Step} {n : Nat} {t t' : Tr SV} {σ σ' : St}, steps E n ss t σ = some (t', σ') → ∃ T Z R, T 0 = t ∧ Z 0 = σ ∧ T ss.length = t' ∧ Z ss.length = σ' ∧ Trace E n ss T Z R
  | [], 0, t, t', σ, σ', h => by simp [steps] at h
  | [], n + 1, t, t', σ, σ', h => by
    simp only [steps, Option.some.injEq, Prod.mk.injEq] at h
    exact ⟨fun _ => t, fun _ => σ, fun _ => .undef, rfl, rfl, h.1, h.2, ⟨fun j s h => by simp at h, fun j s h => by simp at h⟩⟩
  | s :: ss, 0, t, t', σ, σ', h => by simp [steps] at h
  | s :: ss, n + 1, t, t', σ, σ', h => by
    have fin : ∀ (r : SV) (σ1 : St), steps E n ss (putD t s.dst r) σ1 = some (t', σ') →
        ((wantedS t s.guard = some true ∧ (∃ k, k < n + 1 ∧ one E k s.op t σ = some (r, σ1)) ∧ recheck t σ1 s.re = true) ∨ (wantedS t s.guard = some false ∧ r = .undef ∧ σ1 = σ)) →
        ∃ T Z R, T 0 = t ∧ Z 0 = σ ∧ T (s :: ss).length = t' ∧ Z (s :: ss).length = σ' ∧ Trace E (n + 1) (s :: ss) T Z R := by
      intro r σ1 h1 h2
      obtain ⟨T, Z, R, e1, e2, e3, e4, e5⟩ := trace h1
      refine ⟨fun j => match j with | 0 => t | j + 1 => T j, fun j => match j with | 0 => σ | j + 1 => Z j, fun j => match j with | 0 => r | j + 1 => R j, rfl, rfl, e3, e4, ⟨fun j x hx => ?_, fun j x hx => ?_⟩⟩
      · cases j with
        | zero => simp at hx; subst hx; exact e1
        | succ j => exact e5.put j x (by simpa using hx)
      · cases j with
        | zero =>
          simp at hx; subst hx
          show (wantedS t s.guard = some true ∧ (∃ k, k < n + 1 ∧ one E k s.op t σ = some (r, Z 0)) ∧ recheck t (Z 0) s.re = true) ∨ (wantedS t s.guard = some false ∧ r = .undef ∧ Z 0 = σ)
          rw [e2]; exact h2
        | succ j =>
          rcases e5.run j x (by simpa using hx) with ⟨g1, ⟨k, g2, g3⟩, g4⟩ | g
          · exact .inl ⟨g1, ⟨k, by omega, g3⟩, g4⟩
          · exact .inr g
    simp only [steps] at h
    split at h
    · rename_i hw
      split at h
      · rename_i v σ1 hone
        cases hre : recheck t σ1 s.re with
        | false => simp [hre] at h
        | true =>
          simp only [hre, cond_true] at h
          exact fin v σ1 h (.inl ⟨hw, ⟨n, by omega, hone⟩, hre⟩)
      · cases h
    · rename_i hw
      exact fin .undef σ h (.inr ⟨hw, rfl, rfl⟩)
    · cases h
end
end Go.Proofs.Ytojjhcgbbmknmaa.Sh

/- Regions that draw their order: what has been looked at when they were turned into steps. -/
namespace Go.Proofs.Ytojjhcgbbmknmaa.Sh
set_option linter.unusedSimpArgs false
set_option linter.unusedVariables false
open Go

theorem mkItms_mem : ∀ {n : Nat} {l : List Oper} {ss : List Step} {x : Itm}, x ∈ mkItms n l ss → ∃ k o, l[k]? = some o ∧ ss[k]? = some x.s ∧ x.i = n + k ∧ x.ps = predsOf o
  | n, [], ss, x, h => by simp [mkItms] at h
  | n, o :: r, [], x, h => by simp [mkItms] at h
  | n, o :: r, s :: ss, x, h => by
    simp only [mkItms, List.mem_cons] at h
    rcases h with rfl | h
    · exact ⟨0, o, rfl, rfl, rfl, rfl⟩
    · obtain ⟨k, o', h1, h2, h3, h4⟩ := mkItms_mem h
      exact ⟨k + 1, o', by simpa using h1, by simpa using h2, by omega, h4⟩
theorem compSteps_get {P : Program} {N : Nat} {ops : Array Oper} : ∀ {l : List Oper} {ss : List Step} {k : Nat} {o : Oper} {s : Step}, compSteps P N ops l = some ss → l[k]? = some o → ss[k]? = some s → compStep P N ops o = some s
  | [], ss, k, o, s, h, h1, h2 => by simp at h1
  | o' :: r, ss, k, o, s, h, h1, h2 => by
    simp only [compSteps] at h
    split at h
    · rename_i s' ss' g1 g2
      cases h
      cases k with
      | zero => simp at h1 h2; subst h1 h2; exact g1
      | succ k => exact compSteps_get g2 (by simpa using h1) (by simpa using h2)
    · cases h
theorem pickReady_mem {done : List Nat} {big : Bool} : ∀ {rem r : List Itm} {x : Itm}, pickReady done big rem = some (x, r) → x ∈ rem ∧ ∀ y ∈ r, y ∈ rem
  | [], r, x, h => by simp [pickReady] at h
  | z :: rem, r, x, h => by
    simp only [pickReady] at h
    split at h
    · cases h; exact ⟨by simp, fun y hy => by simp [hy]⟩
    · obtain ⟨⟨y, l⟩, h1, h2⟩ := Option.map_eq_some_iff.1 h
      cases h2
      obtain ⟨g1, g2⟩ := pickReady_mem h1
      refine ⟨by simp [g1], fun y hy => ?_⟩
      rcases List.mem_cons.1 hy with rfl | hy
      · simp
      · simp [g2 y hy]
theorem canonGo_mem : ∀ {f : Nat} {done : List Nat} {rem : List Itm} {x : Itm}, x ∈ canonGo f done rem → x ∈ rem
  | 0, done, rem, x, h => by simp [canonGo] at h
  | f + 1, done, rem, x, h => by
    simp only [canonGo] at h
    split at h
    · rename_i y r hp
      obtain ⟨g1, g2⟩ := pickReady_mem hp
      rcases List.mem_cons.1 h with rfl | h
      · exact g1
      · exact g2 x (canonGo_mem h)
    · split at h
      · rename_i y r hp
        obtain ⟨g1, g2⟩ := pickReady_mem hp
        rcases List.mem_cons.1 h with rfl | h
        · exact g1
        · exact g2 x (canonGo_mem h)
      · simp at h

theorem lastBig_none : ∀ {l : List Itm} {b : Option Nat}, (∀ z ∈ l, isBig z.s = false) → lastBig l b = b
  | [], b, _ => rfl
  | x :: r, b, h => by
    simp only [lastBig]
    rw [h x (by simp)]
    exact lastBig_none fun z hz => h z (by simp [hz])
theorem lastBig_some : ∀ {l : List Itm} {b : Option Nat} {k : Nat} {z : Itm}, l[k]? = some z → isBig z.s = true → ∃ k' z', l[k']? = some z' ∧ isBig z'.s = true ∧ lastBig l b = some z'.i ∧ k ≤ k'
  | [], b, k, z, h, _ => by simp at h
  | x :: r, b, k, z, h, hb => by
    simp only [lastBig]
    by_cases hr : ∃ (k : Nat) (z : Itm), r[k]? = some z ∧ isBig z.s = true
    · obtain ⟨k1, z1, g1, g2⟩ := hr
      cases k with
      | zero =>
        obtain ⟨k', z', e1, e2, e3, e4⟩ := lastBig_some (b := if isBig x.s = true then some x.i else b) g1 g2
        exact ⟨k' + 1, z', by simpa using e1, e2, e3, by omega⟩
      | succ k =>
        obtain ⟨k', z', e1, e2, e3, e4⟩ := lastBig_some (b := if isBig x.s = true then some x.i else b) (show r[k]? = some z by simpa using h) hb
        exact ⟨k' + 1, z', by simpa using e1, e2, e3, by omega⟩
    · have hno : ∀ y ∈ r, isBig y.s = false := fun y hy => by
        obtain ⟨k, hk⟩ := List.mem_iff_getElem?.1 hy
        cases e : isBig y.s with
        | false => rfl
        | true => exact absurd ⟨k, y, hk, e⟩ hr
      cases k with
      | zero =>
        simp at h; subst h
        rw [lastBig_none hno, if_pos hb]
        exact ⟨0, x, rfl, hb, rfl, Nat.le_refl _⟩
      | succ k => exact absurd ⟨k, z, by simpa using h, hb⟩ hr

/-- The checks, at one item. -/
structure ChkAt (a : Anc) (all ahead : List Itm) (x : Itm) : Prop where
  preds : ∀ p ∈ x.ps, ∃ y ∈ ahead, y.i = p
  idx : ∀ y ∈ ahead, y.i ≠ x.i
  dst : ∀ y ∈ ahead, ∀ d e, y.s.dst = some d → x.s.dst = some e → d ≠ e
  own : ∀ y ∈ all, ∀ d, y.s.dst = some d → d ∈ stepTmps x.s → y.i = x.i ∨ y.i ∈ ancOf a x.i ∨ x.i ∈ ancOf a y.i
  big : ∀ b, lastBig ahead none = some b → b ∈ ancOf a x.i
  rd : sopKd x.s.op = .reads → (∃ d, x.s.dst = some d) ∧ ∀ y ∈ all, ∀ d, y.s.dst = some d → d ∈ stepTmps x.s → y.i ∈ ancOf a x.i
theorem drawChk_at {a : Anc} {all : List Itm} : ∀ {l ahead : List Itm} {j : Nat} {x : Itm}, drawChk a all ahead l = true → l[j]? = some x → ChkAt a all (ahead ++ l.take j) x
  | [], ahead, j, x, h, hx => by simp at hx
  | z :: r, ahead, j, x, h, hx => by
    unfold drawChk at h
    rw [Bool.and_eq_true] at h
    obtain ⟨h, hrest⟩ := h
    cases j with
    | succ j =>
      have := drawChk_at hrest (show r[j]? = some x by simpa using hx)
      simpa using this
    | zero =>
      simp at hx; subst hx
      simp only [Bool.and_eq_true] at h
      obtain ⟨⟨⟨⟨h1, h2⟩, h3⟩, h4⟩, h5⟩ := h
      simp only [List.take_zero, List.append_nil]
      refine ⟨fun p hp => ?_, fun y hy => ?_, fun y hy d e hd he => ?_, fun y hy d hd hm => ?_, fun b hb => ?_, fun hk => ?_⟩
      · have := List.all_eq_true.1 h1 p hp
        obtain ⟨y, hy, e⟩ := List.any_eq_true.1 this
        exact ⟨y, hy, by simpa using e⟩
      · have := List.all_eq_true.1 h2 y hy
        simp only [Bool.and_eq_true] at this
        simpa using this.1
      · have := List.all_eq_true.1 h2 y hy
        simp only [Bool.and_eq_true, hd, he] at this
        simpa using this.2
      · have := List.all_eq_true.1 h3 y hy
        simp only [hd, Bool.or_eq_true, beq_iff_eq, Bool.not_eq_true', List.contains_eq_mem, decide_eq_true_eq, decide_eq_false_iff_not] at this
        rcases this with e | (e | e) | e
        · exact .inl e
        · exact absurd hm e
        · exact .inr (.inl e)
        · exact .inr (.inr e)
      · rw [hb] at h4
        simpa using h4
      · simp only [hk, Bool.or_eq_true, Bool.and_eq_true, ne_eq, not_true_eq_false, decide_false, Bool.false_eq_true, false_or] at h5
        obtain ⟨h6, h7⟩ := h5
        refine ⟨Option.isSome_iff_exists.1 h6, fun y hy d hd hm => ?_⟩
        have := List.all_eq_true.1 h7 y hy
        simp only [hd, Bool.or_eq_true, Bool.not_eq_true', List.contains_eq_mem, decide_eq_true_eq, decide_eq_false_iff_not] at this
        rcases this with e | e
        · exact absurd hm e
        · exact e

theorem ancGo_ok {l : List Itm} : ∀ {r : List Itm} {acc : Anc}, (∀ x ∈ r, x ∈ l) →
    (∀ p ∈ acc, ∃ x ∈ l, x.i = p.1 ∧ ∀ L : Nat → Prop, (∀ y ∈ l, L y.i → ∀ q ∈ y.ps, L q) → (∀ q ∈ x.ps, L q) → ∀ q ∈ p.2, L q) →
    ∀ p ∈ ancGo acc r, ∃ x ∈ l, x.i = p.1 ∧ ∀ L : Nat → Prop, (∀ y ∈ l, L y.i → ∀ q ∈ y.ps, L q) → (∀ q ∈ x.ps, L q) → ∀ q ∈ p.2, L q
  | [], acc, _, h => h
  | x :: r, acc, hr, h => by
    simp only [ancGo]
    refine ancGo_ok (fun y hy => hr y (by simp [hy])) fun p hp => ?_
    rcases List.mem_cons.1 hp with rfl | hp
    · refine ⟨x, hr x (by simp), rfl, fun L hL hx q hq => ?_⟩
      rcases List.mem_append.1 hq with hq | hq
      · exact hx q hq
      · obtain ⟨p, hp1, hp2⟩ := List.mem_flatMap.1 hq
        unfold ancOf at hp2
        split at hp2
        · rename_i e hf
          obtain ⟨y, hy1, hy2, hy3⟩ := h e (List.mem_of_find?_eq_some hf)
          have := List.find?_some hf
          simp only [beq_iff_eq] at this
          refine hy3 L hL (hL y hy1 ?_) q hp2
          rw [hy2, this]; exact hx p hp1
        · simp at hp2
    · exact h p hp

structure DrawF (P : Program) (N : Nat) (ops : Array Oper) (a : Anc) (l : List Itm) : Prop where
  op : ∀ (j : Nat) (x : Itm), l[j]? = some x → ∃ o, ops[x.i]? = some o ∧ compStep P N ops o = some x.s ∧ x.ps = predsOf o
  cover : ∀ i, i < ops.size → ∃ (j : Nat) (x : Itm), l[j]? = some x ∧ x.i = i
  len : l.length = ops.size
  preds : ∀ (j : Nat) (x : Itm), l[j]? = some x → ∀ p ∈ x.ps, ∃ (j' : Nat) (y : Itm), j' < j ∧ l[j']? = some y ∧ y.i = p
  idx : ∀ (j j' : Nat) (x y : Itm), l[j]? = some x → l[j']? = some y → x.i = y.i → j = j'
  dst : ∀ (j j' : Nat) (x y : Itm) (d : Nat), l[j]? = some x → l[j']? = some y → x.s.dst = some d → y.s.dst = some d → j = j'
  own : ∀ (j j' : Nat) (x y : Itm) (d : Nat), l[j]? = some x → l[j']? = some y → y.s.dst = some d → d ∈ stepTmps x.s → j' = j ∨ y.i ∈ ancOf a x.i ∨ x.i ∈ ancOf a y.i
  big : ∀ (j j' : Nat) (x y : Itm), j' < j → l[j]? = some x → l[j']? = some y → isBig y.s = true → ∃ (j'' : Nat) (z : Itm), j' ≤ j'' ∧ j'' < j ∧ l[j'']? = some z ∧ isBig z.s = true ∧ z.i ∈ ancOf a x.i
  rd : ∀ (j : Nat) (x : Itm), l[j]? = some x → sopKd x.s.op = .reads → (∃ d, x.s.dst = some d) ∧ ∀ (j' : Nat) (y : Itm) (d : Nat), l[j']? = some y → y.s.dst = some d → d ∈ stepTmps x.s → y.i ∈ ancOf a x.i
  anc : ∀ (j : Nat) (x : Itm), l[j]? = some x → ∀ L : Nat → Prop, (∀ (j : Nat) (y : Itm), l[j]? = some y → L y.i → ∀ p ∈ y.ps, L p) → (∀ p ∈ x.ps, L p) → ∀ q ∈ ancOf a x.i, L q

theorem mem_take_get {α : Type} {l : List α} {j : Nat} {y : α} (h : y ∈ l.take j) : ∃ k, k < j ∧ l[k]? = some y := by
  obtain ⟨k, hk⟩ := List.mem_iff_getElem?.1 h
  rw [List.getElem?_take] at hk
  split at hk
  · exact ⟨k, by assumption, hk⟩
  · cases hk
theorem get_mem_take {α : Type} {l : List α} {j k : Nat} {y : α} (hk : k < j) (h : l[k]? = some y) : y ∈ l.take j :=
  List.mem_iff_getElem?.2 ⟨k, by rw [List.getElem?_take, if_pos hk]; exact h⟩

theorem drawItms_ok {P : Program} {N : Nat} {ops : Array Oper} {a : Anc} {l : List Itm} (h : drawItms P N ops = some (a, l)) : DrawF P N ops a l := by
  unfold drawItms at h
  split at h
  · rename_i ss hss
    simp only at h
    split at h
    · rename_i hc
      rw [Bool.and_eq_true] at hc
      obtain ⟨h1, h2⟩ := hc
      simp only [Option.some.injEq, Prod.mk.injEq] at h
      obtain ⟨ha, hl⟩ := h
      rw [hl] at h1 h2 ha
      rw [ha] at h2
      unfold idxChk at h1
      rw [Bool.and_eq_true] at h1
      have hat : ∀ (j : Nat) (x : Itm), l[j]? = some x → ChkAt a l (l.take j) x := fun j x hx => by simpa using drawChk_at h2 hx
      have idx0 : ∀ (j j' : Nat) (x y : Itm), j' < j → l[j]? = some x → l[j']? = some y → y.i ≠ x.i := fun j j' x y hlt hx hy => (hat j x hx).idx y (get_mem_take hlt hy)
      have hidx : ∀ (j j' : Nat) (x y : Itm), l[j]? = some x → l[j']? = some y → x.i = y.i → j = j' := fun j j' x y hx hy e => by
        rcases Nat.lt_trichotomy j j' with hlt | heq | hgt
        · exact absurd e (idx0 j' j y x hlt hy hx)
        · exact heq
        · exact absurd e.symm (idx0 j j' x y hgt hx hy)
      refine ⟨fun j x hx => ?_, fun i hi => ?_, of_decide_eq_true h1.1, fun j x hx p hp => ?_, hidx, fun j j' x y d hx hy hd he => ?_, fun j j' x y d hx hy hd hm => ?_, fun j j' x y hlt hx hy hb => ?_, fun j x hx hk => ?_, fun j x hx L hL hp q hq => ?_⟩
      · have hm : x ∈ mkItms 0 ops.toList ss := by
          have : x ∈ l := List.mem_of_getElem? hx
          rw [← hl] at this
          exact canonGo_mem this
        obtain ⟨k, o, g1, g2, g3, g4⟩ := mkItms_mem hm
        refine ⟨o, ?_, compSteps_get hss g1 g2, g4⟩
        rw [g3]; simpa using g1
      · obtain ⟨x, hx, e⟩ := List.any_eq_true.1 (List.all_eq_true.1 h1.2 i (List.mem_range.2 hi))
        obtain ⟨j, hj⟩ := List.mem_iff_getElem?.1 hx
        exact ⟨j, x, hj, by simpa using e⟩
      · obtain ⟨y, hy, e⟩ := (hat j x hx).preds p hp
        obtain ⟨k, hk, hy⟩ := mem_take_get hy
        exact ⟨k, y, hk, hy, e⟩
      · rcases Nat.lt_trichotomy j j' with hlt | heq | hgt
        · exact absurd rfl ((hat j' y hy).dst x (get_mem_take hlt hx) d d hd he)
        · exact heq
        · exact absurd rfl ((hat j x hx).dst y (get_mem_take hgt hy) d d he hd)
      · rcases (hat j x hx).own y (List.mem_of_getElem? hy) d hd hm with e | e
        · exact .inl (hidx _ _ _ _ hy hx e)
        · exact .inr e
      · obtain ⟨k', z', e1, e2, e3, e4⟩ := lastBig_some (l := l.take j) (b := none) (k := j') (z := y) (by rw [List.getElem?_take, if_pos hlt]; exact hy) hb
        have hk' : k' < j ∧ l[k']? = some z' := by
          rw [List.getElem?_take] at e1
          split at e1
          · exact ⟨by assumption, e1⟩
          · cases e1
        exact ⟨k', z', e4, hk'.1, hk'.2, e2, (hat j x hx).big _ e3⟩
      · obtain ⟨g1, g2⟩ := (hat j x hx).rd hk
        exact ⟨g1, fun j' y d hy hd hm => g2 y (List.mem_of_getElem? hy) d hd hm⟩
      · have hall := ancGo_ok (l := l) (r := l) (acc := []) (fun x hx => hx) (by simp)
        rw [ha] at hall
        unfold ancOf at hq
        split at hq
        · rename_i e hf
          obtain ⟨y, hy1, hy2, hy3⟩ := hall e (List.mem_of_find?_eq_some hf)
          have he := List.find?_some hf
          simp only [beq_iff_eq] at he
          obtain ⟨k, hk⟩ := List.mem_iff_getElem?.1 hy1
          have : k = j := hidx _ _ _ _ hk hx (hy2.trans he)
          subst this
          rw [hx] at hk; cases hk
          refine hy3 L (fun z hz hLz => ?_) hp q hq
          obtain ⟨kz, hkz⟩ := List.mem_iff_getElem?.1 hz
          exact hL kz z hkz hLz
        · simp at hq
    · cases h
  · cases h

theorem withRe_get {a : Anc} : ∀ {l ahead : List Itm} {j : Nat}, (withRe a ahead l)[j]? = (l[j]?).map fun x => if isBig x.s then { x with s := { x.s with re := reOf a (ahead ++ l.take j) x } } else x
  | [], ahead, j => by simp [withRe]
  | x :: r, ahead, 0 => by simp [withRe]
  | x :: r, ahead, j + 1 => by
    simp only [withRe, List.getElem?_cons_succ, List.take_succ_cons]
    rw [withRe_get]
    simp
theorem withRe_len {a : Anc} : ∀ {l ahead : List Itm}, (withRe a ahead l).length = l.length
  | [], ahead => rfl
  | x :: r, ahead => by simp [withRe, withRe_len]
end Go.Proofs.Ytojjhcgbbmknmaa.Sh

/- Regions that draw their order: whatever order is drawn, what is computed is what the order at hand computes. -/
namespace Go.Proofs.Ytojjhcgbbmknmaa.Sh
set_option linter.unusedSimpArgs false
set_option linter.unusedVariables false
open Go Go.RowKit

def lis (L : Array Bool) (i : Nat) : Prop := L.getD i false = true
theorem lis_set {L : Array Bool} {i q : Nat} (h : i < L.size) : lis (L.setIfInBounds i true) q ↔ (q = i ∨ lis L q) := by
  unfold lis
  by_cases hq : q = i
  · subst hq
    simp [Array.getD, h]
  · rw [getD_set_ne false (Ne.symm hq)]
    simp [hq]

theorem TR.congr {w0 : World} {ρ : Rho} {t t' : Tr SV} {N : Nat} {a : Array Value} (h : TR w0 ρ t N a) (k : ∀ d, getT t d = getT t' d) : TR w0 ρ t' N a := ⟨h.1, fun i => by rw [← k i]; exact h.2 i⟩

theorem getT_putD_ne {t : Tr SV} {dst : Option Nat} {v : SV} {d : Nat} (h : dst ≠ some d) : getT (putD t dst v) d = getT t d := by
  cases dst with
  | none => rfl
  | some e => simp only [putD]; rw [getT_set, if_neg (fun e' => h (by rw [e']))]
theorem getT_putD_eq {t : Tr SV} {dst : Option Nat} {v : SV} {d : Nat} (h : dst = some d) : getT (putD t dst v) d = v := by
  subst h; simp only [putD]; rw [getT_set, if_pos rfl]

theorem MKS.lay {B : Nat} {ρ : Rho} {w : World} {ds : List Deferred} (h : MKS B ρ w ds) (id n : Nat) (o : Obj) : MKS B (ρ.put id ⟨w.heap.size, 0, n⟩) (w.alloc o) ds := by
  obtain ⟨bs, h1, h2, h3⟩ := h
  refine ⟨bs, h1, h2, fun b hb => ?_⟩
  obtain ⟨g1, g2, g3⟩ := h3 b hb
  have hlt := (Array.getElem?_eq_some_iff.1 g1).1
  refine ⟨by rw [Below.heap_alloc _ _ _ hlt]; exact g1, g2, fun i p e => ?_⟩
  simp only [Rho.put] at e
  split at e
  · cases e; simp; omega
  · exact g3 i p e

section
variable (P : Program) (E : Env) (n N : Nat) (ops : Array Oper) (a : Anc) (l : List Itm) (T : Nat → Tr SV) (Z : Nat → St) (R : Nat → SV)

/-- The run at hand, told by the items. -/
structure LT : Prop where
  D : DrawF P N ops a l
  put : ∀ (j : Nat) (x : Itm), l[j]? = some x → T (j + 1) = putD (T j) x.s.dst (R j)
  run : ∀ (j : Nat) (x : Itm), l[j]? = some x → (wantedS (T j) x.s.guard = some true ∧ (∃ k, k < n ∧ one E k x.s.op (T j) (Z j) = some (R j, Z (j + 1))) ∧ (isBig x.s = true → recheck (T j) (Z (j + 1)) (reOf a (l.take j) x) = true)) ∨
    (wantedS (T j) x.s.guard = some false ∧ R j = .undef ∧ Z (j + 1) = Z j)

variable (w0 : World) (B : Nat) (ρ : Rho) (σ : St) (w : World)
structure Inv (L : Array Bool) (p : Nat) (tS : Tr SV) (ρ' : Rho) (a' : Act) (w' : World) : Prop where
  sz : L.size = ops.size
  closed : ∀ (j : Nat) (x : Itm), l[j]? = some x → lis L x.i → ∀ q ∈ x.ps, lis L q
  hi : p ≤ l.length
  above : ∀ (j : Nat) (x : Itm), p ≤ j → l[j]? = some x → ¬ lis L x.i
  below : ∀ (j : Nat) (x : Itm), j < p → l[j]? = some x → isBig x.s = true → lis L x.i
  tr : TR w0 ρ' tS N a'.tmps
  t1 : ∀ (j : Nat) (x : Itm) (d : Nat), l[j]? = some x → x.s.dst = some d → lis L x.i → getT tS d = R j
  t2 : ∀ d : Nat, (∀ (j : Nat) (x : Itm), l[j]? = some x → x.s.dst = some d → ¬ lis L x.i) → getT tS d = getT (T 0) d
  step : Step1 P w0 ρ σ w ρ' (Z p) w'
  marks : MKS B ρ' w' a'.defers
  mono : ∀ j, j < p → (Z j).next ≤ (Z (j + 1)).next
  pend : ∀ (j : Nat) (x : Itm), j < p → l[j]? = some x → ¬ lis L x.i → wantedS (T j) x.s.guard = some true →
    (sopKd x.s.op = .reads → sop x.s.op (T j) (Z p) = some (R j, Z p)) ∧
    (sopKd x.s.op = .alloc → σ.next ≤ (Z j).next ∧ (Z j).next < (Z (j + 1)).next ∧ (Z (j + 1)).next ≤ (Z p).next ∧ ρ' (Z j).next = none ∧ (Z p).get (Z j).next = (Z (j + 1)).get (Z j).next)
def NB (p : Nat) : Prop := p = l.length ∨ ∃ x : Itm, l[p]? = some x ∧ isBig x.s = true
variable {P E n N ops a l T Z R w0 B ρ σ w}
variable {L : Array Bool} {p : Nat} {tS : Tr SV} {ρ' : Rho} {a' : Act} {w' : World}

theorem LT.val1 (h : LT P E n N ops a l T Z R) : ∀ (j : Nat), j ≤ l.length → ∀ (j' : Nat) (y : Itm) (d : Nat), j' < j → l[j']? = some y → y.s.dst = some d → getT (T j) d = R j' := by
  intro j
  induction j with
  | zero => intro _ j' y d hlt; omega
  | succ j ih =>
    intro hj j' y d hlt hy hd
    obtain ⟨x, hx⟩ : ∃ x, l[j]? = some x := ⟨_, List.getElem?_eq_getElem (by omega)⟩
    rw [h.put j x hx]
    by_cases he : j' = j
    · subst he; rw [hx] at hy; cases hy
      exact getT_putD_eq hd
    · rw [getT_putD_ne (fun e => he (h.D.dst _ _ _ _ _ hy hx hd e))]
      exact ih (by omega) j' y d (by omega) hy hd
theorem LT.val0 (h : LT P E n N ops a l T Z R) : ∀ (j : Nat), j ≤ l.length → ∀ (d : Nat), (∀ (j' : Nat) (y : Itm), j' < j → l[j']? = some y → y.s.dst ≠ some d) → getT (T j) d = getT (T 0) d := by
  intro j
  induction j with
  | zero => intro _ d _; rfl
  | succ j ih =>
    intro hj d hn
    obtain ⟨x, hx⟩ : ∃ x, l[j]? = some x := ⟨_, List.getElem?_eq_getElem (by omega)⟩
    rw [h.put j x hx, getT_putD_ne (hn j x (by omega) hx)]
    exact ih (by omega) d (fun j' y hlt hy => hn j' y (by omega) hy)

theorem lt_len {j : Nat} {x : Itm} (h : l[j]? = some x) : j < l.length := (List.getElem?_eq_some_iff.1 h).1

theorem LT.anc_lt (h : LT P E n N ops a l T Z R) {j : Nat} {x : Itm} (hx : l[j]? = some x) {q : Nat} (hq : q ∈ ancOf a x.i) : ∃ (k : Nat) (z : Itm), k < j ∧ l[k]? = some z ∧ z.i = q := by
  refine h.D.anc j x hx (fun q => ∃ (k : Nat) (z : Itm), k < j ∧ l[k]? = some z ∧ z.i = q) ?_ ?_ q hq
  · rintro j1 y hy ⟨k, z, hk, hz, e⟩ q hq
    have : j1 = k := h.D.idx _ _ _ _ hy hz e.symm
    subst this
    obtain ⟨k', z', h1, h2, h3⟩ := h.D.preds j1 y hy q hq
    exact ⟨k', z', by omega, h2, h3⟩
  · intro q hq
    exact h.D.preds j x hx q hq
theorem Inv.anc_lis (I : Inv P N ops l T Z R w0 B ρ σ w L p tS ρ' a' w') (h : LT P E n N ops a l T Z R) {j : Nat} {x : Itm} (hx : l[j]? = some x) (hr : ∀ q ∈ x.ps, lis L q) {q : Nat} (hq : q ∈ ancOf a x.i) : lis L q :=
  h.D.anc j x hx (lis L) (fun j y hy hl => I.closed j y hy hl) hr q hq

theorem Inv.agree (I : Inv P N ops l T Z R w0 B ρ σ w L p tS ρ' a' w') (h : LT P E n N ops a l T Z R) {j : Nat} {x : Itm} (hx : l[j]? = some x) (hr : ∀ q ∈ x.ps, lis L q) (hu : ¬ lis L x.i) : Agree tS (T j) (stepTmps x.s) := by
  intro d hd
  have hjl := Nat.le_of_lt (lt_len hx)
  by_cases hw : ∃ (j' : Nat) (y : Itm), l[j']? = some y ∧ y.s.dst = some d
  · obtain ⟨j', y, hy, hyd⟩ := hw
    have none_ : ¬ lis L y.i → j ≤ j' → getT tS d = getT (T j) d := fun hny hle => by
      rw [I.t2 d (fun k z hz hzd => by rw [show z = y by
            have := h.D.dst _ _ _ _ _ hz hy hzd hyd
            subst this; rw [hz] at hy; cases hy; rfl]; exact hny),
        h.val0 j hjl d (fun k z hk hz hzd => by have := h.D.dst _ _ _ _ _ hz hy hzd hyd; omega)]
    rcases h.D.own j j' x y d hx hy hyd hd with e | e | e
    · subst e
      rw [hx] at hy; cases hy
      exact none_ hu (Nat.le_refl _)
    · obtain ⟨k, z, hk, hz, hzi⟩ := h.anc_lt hx e
      have : k = j' := h.D.idx _ _ _ _ hz hy hzi
      subst this
      rw [I.t1 k y d hy hyd (I.anc_lis h hx hr e), h.val1 j hjl k y d hk hy hyd]
    · obtain ⟨k, z, hk, hz, hzi⟩ := h.anc_lt hy e
      have : k = j := h.D.idx _ _ _ _ hz hx hzi
      subst this
      refine none_ (fun hl => hu ?_) (by omega)
      exact I.anc_lis h hy (I.closed j' y hy hl) e
  · rw [I.t2 d (fun k z hz hzd => absurd ⟨k, z, hz, hzd⟩ hw), h.val0 j hjl d (fun k z _ hz hzd => hw ⟨k, z, hz, hzd⟩)]

theorem isBig_kd {s : Step} : isBig s = false ↔ sopKd s.op ≠ .big := by simp [isBig]

theorem Inv.adv1 (I : Inv P N ops l T Z R w0 B ρ σ w L p tS ρ' a' w') (h : LT P E n N ops a l T Z R) {x : Itm} (hx : l[p]? = some x) (hb : isBig x.s = false) : Inv P N ops l T Z R w0 B ρ σ w L (p + 1) tS ρ' a' w' := by
  have hk := isBig_kd.1 hb
  have hfresh := I.step.sr.fresh
  have hZ : Z (p + 1) = Z p ∨ ∃ ob, Z (p + 1) = (Z p).push ob := by
    rcases h.run p x hx with ⟨h1, ⟨k, _, h2⟩, _⟩ | ⟨_, _, h3⟩
    · have h2 := one_sop hk h2
      cases hkk : sopKd x.s.op with
      | big => exact absurd hkk hk
      | pure => exact .inl (pure_any hkk h2).1
      | reads => exact .inl (reads_push hkk h2).1
      | alloc => exact .inr (alloc_push hkk h2)
    · exact .inl h3
  have hnx : (Z p).next ≤ (Z (p + 1)).next := by
    rcases hZ with e | ⟨ob, e⟩ <;> rw [e] <;> simp
  refine ⟨I.sz, I.closed, lt_len hx, fun j y hj => I.above j y (by omega), fun j y hj hy hby => ?_, I.tr, I.t1, I.t2, ?_, I.marks, fun j hj => ?_, fun j y hj hy hny hwy => ?_⟩
  · by_cases e : j = p
    · subst e; rw [hx] at hy; cases hy; rw [hb] at hby; cases hby
    · exact I.below j y (by omega) hy hby
  · rcases hZ with e | ⟨ob, e⟩
    · rw [e]; exact I.step
    · rw [e]; exact I.step.push ob
  · by_cases e : j = p
    · subst e; exact hnx
    · exact I.mono j (by omega)
  · by_cases e : j = p
    · subst e
      rw [hx] at hy; cases hy
      rcases h.run j x hx with ⟨h1, ⟨k, _, h2⟩, _⟩ | ⟨h1, _⟩
      · have h2 := one_sop hk h2
        refine ⟨fun hkk => ?_, fun hkk => ?_⟩
        · have := (reads_push hkk h2).1
          rw [this] at h2 ⊢; exact h2
        · obtain ⟨ob, e⟩ := alloc_push hkk h2
          refine ⟨I.step.nxt, by rw [e]; simp, Nat.le_refl _, ?_, rfl⟩
          cases e' : ρ' (Z j).next with
          | none => rfl
          | some q => have := I.step.sr.dom _ _ e'; omega
      · rw [hwy] at h1; cases h1
    · obtain ⟨g1, g2⟩ := I.pend j y (by omega) hy hny hwy
      refine ⟨fun hkk => ?_, fun hkk => ?_⟩
      · rcases hZ with e | ⟨ob, e⟩
        · rw [e]; exact g1 hkk
        · rw [e]; exact (reads_push hkk (g1 hkk)).2 hfresh ob
      · obtain ⟨e1, e2, e3, e4, e5⟩ := g2 hkk
        refine ⟨e1, e2, by omega, e4, ?_⟩
        rcases hZ with e | ⟨ob, e⟩
        · rw [e]; exact e5
        · rw [e, St.get_push, if_neg (by omega)]; exact e5

theorem Inv.adv (h : LT P E n N ops a l T Z R) : ∀ (k p : Nat), l.length - p ≤ k → Inv P N ops l T Z R w0 B ρ σ w L p tS ρ' a' w' → ∃ p', Inv P N ops l T Z R w0 B ρ σ w L p' tS ρ' a' w' ∧ NB l p' := by
  intro k
  induction k with
  | zero =>
    intro p hp I
    have := I.hi
    exact ⟨p, I, .inl (by omega)⟩
  | succ k ih =>
    intro p hp I
    have := I.hi
    by_cases he : p = l.length
    · exact ⟨p, I, .inl he⟩
    · obtain ⟨x, hx⟩ : ∃ x, l[p]? = some x := ⟨_, List.getElem?_eq_getElem (by omega)⟩
      cases hb : isBig x.s with
      | true => exact ⟨p, I, .inr ⟨x, hx, hb⟩⟩
      | false => exact ih (p + 1) (by omega) (I.adv1 h hx hb)

/-- Behind an item. -/
theorem Inv.upd (I : Inv P N ops l T Z R w0 B ρ σ w L p tS ρ' a' w') (h : LT P E n N ops a l T Z R) {j : Nat} {x : Itm} (hx : l[j]? = some x) (hr : ∀ q ∈ x.ps, lis L q) {p' : Nat} {ρ'' : Rho} {w'' : World} {u : Value} {o : Oper} (hod : o.dst = x.s.dst) (hok' : dstOk N x.s.dst = true)
    (hok : OK w0 ρ'' (R j) u) (hstep : Step1 P w0 ρ σ w ρ'' (Z p') w'') (hext : Ext ρ' ρ'') (hmk : MKS B ρ'' w'' a'.defers) (hp : (p' = p ∧ j < p) ∨ (p' = p + 1 ∧ j = p)) (hnx : (Z p).next ≤ (Z p').next)
    (hnew : ∀ (k : Nat) (y : Itm), k < p → k ≠ j → l[k]? = some y → ¬ lis L y.i → wantedS (T k) y.s.guard = some true → sopKd y.s.op = .alloc → ρ'' (Z k).next = none ∧ (Z p').get (Z k).next = (Z p).get (Z k).next)
    (hread : ∀ (k : Nat) (y : Itm), k < p → k ≠ j → l[k]? = some y → ¬ lis L y.i → wantedS (T k) y.s.guard = some true → sopKd y.s.op = .reads → sop y.s.op (T k) (Z p') = some (R k, Z p')) :
    Inv P N ops l T Z R w0 B ρ σ w (L.setIfInBounds x.i true) p' (putD tS x.s.dst (R j)) ρ'' (a'.put o.dst u) w'' := by
  have hi : x.i < L.size := by
    obtain ⟨o, ho, _⟩ := h.D.op j x hx
    rw [I.sz]; exact (Array.getElem?_eq_some_iff.1 ho).1
  have hjl := lt_len hx
  have hl' : ∀ q, lis (L.setIfInBounds x.i true) q ↔ (q = x.i ∨ lis L q) := fun q => lis_set hi
  refine ⟨by rw [Array.size_setIfInBounds]; exact I.sz, fun k y hy hl q hq => ?_, by have := I.hi; omega, fun k y hk hy hl => ?_, fun k y hk hy hb => ?_, ?_, fun k y d hy hd hl => ?_, fun d hd => ?_, hstep, ?_, fun k hk => ?_, fun k y hk hy hny hwy => ?_⟩
  · rcases (hl' _).1 hl with e | e
    · have : k = j := h.D.idx _ _ _ _ hy hx e
      subst this
      rw [hx] at hy; cases hy
      exact (hl' q).2 (.inr (hr q hq))
    · exact (hl' q).2 (.inr (I.closed k y hy e q hq))
  · rcases (hl' _).1 hl with e | e
    · have : k = j := h.D.idx _ _ _ _ hy hx e
      omega
    · exact I.above k y (by omega) hy e
  · refine (hl' _).2 ?_
    by_cases e : k = j
    · subst e; rw [hx] at hy; cases hy; exact .inl rfl
    · exact .inr (I.below k y (by omega) hy hb)
  · rw [hod]; exact (I.tr.mono hext).put hok' hok
  · by_cases e : k = j
    · subst e; rw [hx] at hy; cases hy; exact getT_putD_eq hd
    · rw [getT_putD_ne (fun e' => e (h.D.dst _ _ _ _ _ hy hx hd e'))]
      refine I.t1 k y d hy hd ?_
      rcases (hl' _).1 hl with e' | e'
      · exact absurd (h.D.idx _ _ _ _ hy hx e') e
      · exact e'
  · rw [getT_putD_ne (fun e => hd j x hx e ((hl' _).2 (.inl rfl)))]
    exact I.t2 d (fun k y hy hyd hl => hd k y hy hyd ((hl' _).2 (.inr hl)))
  · have : (a'.put o.dst u).defers = a'.defers := by unfold Act.put; split <;> rfl
    rw [this]; exact hmk
  · by_cases e : k < p
    · exact I.mono k e
    · have : k = p := by omega
      subst this
      rcases hp with ⟨e1, _⟩ | ⟨e1, _⟩
      · omega
      · rw [← e1]; exact hnx
  · have hkj : k ≠ j := fun e => by subst e; rw [hx] at hy; cases hy; exact hny ((hl' _).2 (.inl rfl))
    have hkp : k < p := by omega
    have hny' : ¬ lis L y.i := fun hl => hny ((hl' _).2 (.inr hl))
    refine ⟨fun hkk => hread k y hkp hkj hy hny' hwy hkk, fun hkk => ?_⟩
    obtain ⟨e1, e2, e3, e4, e5⟩ := (I.pend k y hkp hy hny' hwy).2 hkk
    obtain ⟨g1, g2⟩ := hnew k y hkp hkj hy hny' hwy hkk
    exact ⟨e1, e2, by omega, g1, g2.trans e5⟩
end
end Go.Proofs.Ytojjhcgbbmknmaa.Sh

/- Regions that draw their order: the rounds of the draw. -/
namespace Go.Proofs.Ytojjhcgbbmknmaa.Sh
set_option linter.unusedSimpArgs false
set_option linter.unusedVariables false
open Go Go.RowKit

section
variable {P : Program} {E : Env} {n N : Nat} {ops : Array Oper} {a : Anc} {l : List Itm} {T : Nat → Tr SV} {Z : Nat → St} {R : Nat → SV}
variable {w0 : World} {B : Nat} {ρ : Rho} {σ : St} {w : World}
variable {L : Array Bool} {p : Nat} {tS : Tr SV} {ρ' : Rho} {a' : Act} {w' : World}

theorem recheck_mem {t : Tr SV} {σ : St} : ∀ {l : List (Nat × Option (Nat × Bool) × SOp)} {d : Nat} {g : Option (Nat × Bool)} {o : SOp}, recheck t σ l = true → (d, g, o) ∈ l → wantedS t g = some true → ∃ v σ', sop o t σ = some (v, σ') ∧ v.same (getT t d) = true
  | [], d, g, o, _, h, _ => by simp at h
  | (d', g', o') :: r, d, g, o, h, hm, hw => by
    simp only [recheck, Bool.and_eq_true] at h
    rcases List.mem_cons.1 hm with e | hm
    · simp only [Prod.mk.injEq] at e
      obtain ⟨rfl, rfl, rfl⟩ := e
      have h := h.1
      simp only [hw] at h
      split at h
      · rename_i v σ' e; exact ⟨v, σ', e, h⟩
      · cases h
    · exact recheck_mem h.2 hm hw

theorem Inv.mono_le (I : Inv P N ops l T Z R w0 B ρ σ w L p tS ρ' a' w') : ∀ {k j : Nat}, k ≤ j → j ≤ p → (Z k).next ≤ (Z j).next := by
  intro k j hkj
  induction hkj with
  | refl => intro _; exact Nat.le_refl _
  | step h ih => intro hj; exact Nat.le_trans (ih (by omega)) (I.mono _ (by omega))

theorem Inv.exec1 (h : LT P E n N ops a l T Z R) (I : Inv P N ops l T Z R w0 B ρ σ w L p tS ρ' a' w') (nb : NB l p) (h1 : ∀ k, k < n → OneOK P w0 E k) {ro : Option Nat} {m : Nat} {Q : Exit → Act → World → Prop} (hlo : B ≤ w.heap.size) (hrd : ∀ l0, ro = some l0 → ∃ r : Loop, w.heap[l0]? = some (Obj.loop r))
    {j : Nat} {x : Itm} (hx : l[j]? = some x) (hr : ∀ q ∈ x.ps, lis L q) (hu : ¬ lis L x.i) {K : Act → World → Prop}
    (hK : ∀ p' tS' ρ'' a'' w'', Inv P N ops l T Z R w0 B ρ σ w (L.setIfInBounds x.i true) p' tS' ρ'' a'' w'' → NB l p' → K a'' w'') : wpOpIn (FR ro) m P ops Q x.i K a' w' := by
  obtain ⟨o, ho, hcs, _⟩ := h.D.op j x hx
  obtain ⟨c1, c2, c3, c4, c5⟩ := compStep_eq hcs
  have hag := I.agree h hx hr hu
  have hjp : j ≤ p := by
    rcases Nat.lt_or_ge p j with hlt | hge
    · rcases nb with e | ⟨y, hy, hby⟩
      · have := lt_len hx; omega
      · obtain ⟨k, z, g1, g2, g3, g4, g5⟩ := h.D.big j p x y hlt hx hy hby
        exact absurd (I.anc_lis h hx hr g5) (I.above k z g1 g3)
    · exact hge
  have hjb : isBig x.s = false → j < p := fun hb => by
    rcases Nat.lt_or_ge j p with e | e
    · exact e
    · have : j = p := by omega
      subst this
      rcases nb with e | ⟨y, hy, hby⟩
      · have := lt_len hx; omega
      · rw [hx] at hy; cases hy; rw [hb] at hby; cases hby
  have adv : ∀ p' tS' ρ'' a'' w'', Inv P N ops l T Z R w0 B ρ σ w (L.setIfInBounds x.i true) p' tS' ρ'' a'' w'' → K a'' w'' := fun p' tS' ρ'' a'' w'' I' => by
    obtain ⟨p2, I2, nb2⟩ := Inv.adv h _ p' (Nat.le_refl _) I'
    exact hK p2 tS' ρ'' a'' w'' I2 nb2
  unfold wpOpIn
  simp only [ho]
  rcases h.run j x hx with ⟨hw, ⟨k, hk, hone⟩, hre⟩ | ⟨hw, hR, hZ⟩
  · have hwS : wantedS tS x.s.guard = some true := (stepTmps_guard hag).trans hw
    rw [if_pos (wanted_ok c2 I.tr hwS)]
    cases hb : isBig x.s with
    | true =>
      have hkb : sopKd x.s.op = .big := by simpa [isBig] using hb
      have hjp' : j = p := by
        rcases Nat.lt_or_ge j p with e | e
        · exact absurd (I.below j x e hx hb) hu
        · omega
      subst hjp'
      have hone' : one E k x.s.op tS (Z j) = some (R j, Z (j + 1)) := (one_congr (stepTmps_op hag)).trans hone
      have hrs : RS P w0 B ρ' (Z j) tS N ro a' w' := ⟨I.step.sr, I.tr, I.marks, Nat.le_trans hlo I.step.size, fun l0 e => by obtain ⟨r, hr⟩ := hrd l0 e; exact I.step.loops l0 r hr⟩
      refine h1 k hk o x.s.op N tS (Z j) _ _ c1 hone' ro m B ρ' a' w' hrs _ _ ?_
      rintro u w'' ⟨ρ'', hok, hst⟩
      refine adv (j + 1) _ ρ'' _ w'' (I.upd h hx hr c3 c4 hok (I.step.trans hst) hst.ext (I.marks.step hst) (.inr ⟨rfl, rfl⟩) hst.nxt ?_ ?_)
      · intro k' y hk' hkj hy hny hwy hkk
        obtain ⟨e1, e2, e3, e4, e5⟩ := (I.pend k' y hk' hy hny hwy).2 hkk
        refine ⟨?_, hst.keep _ (by omega) e4⟩
        cases e : ρ'' (Z k').next with
        | none => rfl
        | some q =>
          rcases hst.newid _ _ e with g | g
          · rw [e4] at g; cases g
          · omega
      · intro k' y hk' hkj hy hny hwy hkk
        obtain ⟨⟨d, hd⟩, hdr⟩ := h.D.rd k' y hy hkk
        have hmem : (d, y.s.guard, y.s.op) ∈ reOf a (l.take j) x := by
          unfold reOf
          refine List.mem_filterMap.2 ⟨y, List.mem_filter.2 ⟨get_mem_take hk' hy, ?_⟩, by simp [hd]⟩
          simp only [hkk, decide_true, Bool.true_and, Bool.not_eq_true', List.contains_eq_mem, decide_eq_false_iff_not]
          exact fun hm => hny (I.anc_lis h hx hr hm)
        have hag2 : Agree (T j) (T k') (stepTmps y.s) := by
          intro d' hd'
          have hjl := Nat.le_of_lt (lt_len hx)
          by_cases hwr : ∃ (j' : Nat) (z : Itm), l[j']? = some z ∧ z.s.dst = some d'
          · obtain ⟨j', z, hz, hzd⟩ := hwr
            obtain ⟨k2, z2, g1, g2, g3⟩ := h.anc_lt hy (hdr j' z d' hz hzd hd')
            have : k2 = j' := h.D.idx _ _ _ _ g2 hz g3
            subst this
            rw [h.val1 j hjl k2 z d' (by omega) hz hzd, h.val1 k' (by omega) k2 z d' g1 hz hzd]
          · rw [h.val0 j hjl d' (fun k z _ hz hzd => hwr ⟨k, z, hz, hzd⟩), h.val0 k' (by omega) d' (fun k z _ hz hzd => hwr ⟨k, z, hz, hzd⟩)]
        obtain ⟨v, σv, g1, g2⟩ := recheck_mem (hre hb) hmem ((stepTmps_guard hag2).trans hwy)
        rw [sop_congr (stepTmps_op hag2)] at g1
        have := (reads_push hkk g1).1
        subst this
        rw [same_eq g2, h.val1 j (Nat.le_of_lt (lt_len hx)) k' y d hk' hy hd] at g1
        exact g1
    | false =>
      have hkb := isBig_kd.1 hb
      have hlt := hjb hb
      have hsop := one_sop hkb hone
      obtain ⟨pd1, pd2⟩ := I.pend j x hlt hx hu hw
      have plain : sop x.s.op tS (Z p) = some (R j, Z p) → OpDoes P ro m o a' w' (fun u w'' => ∃ ρ'', OK w0 ρ'' (R j) u ∧ Step1 P w0 ρ' (Z p) w' ρ'' (Z p) w'') → o.wpIn (FR ro) m P a' w' K Q := by
        intro _ hdoes
        refine hdoes _ _ ?_
        rintro u w'' ⟨ρ'', hok, hst⟩
        refine adv p _ ρ'' _ w'' (I.upd h hx hr c3 c4 hok (I.step.trans hst) hst.ext (I.marks.step hst) (.inl ⟨rfl, hlt⟩) (Nat.le_refl _) ?_ ?_)
        · intro k' y hk' hkj hy hny hwy hkk
          obtain ⟨e1, e2, e3, e4, e5⟩ := (I.pend k' y hk' hy hny hwy).2 hkk
          refine ⟨?_, rfl⟩
          cases e : ρ'' (Z k').next with
          | none => rfl
          | some q =>
            rcases hst.newid _ _ e with g | g
            · rw [e4] at g; cases g
            · omega
        · intro k' y hk' hkj hy hny hwy hkk
          exact (I.pend k' y hk' hy hny hwy).1 hkk
      have hncall : ∀ f l, x.s.op ≠ .call f l := fun f l e => hkb (by rw [e]; rfl)
      cases hkk : sopKd x.s.op with
      | big => exact absurd hkk hkb
      | pure =>
        have hs2 : sop x.s.op tS (Z p) = some (R j, Z p) := by rw [sop_congr (stepTmps_op hag)]; exact (pure_any hkk hsop).2 (Z p)
        exact plain hs2 (sop_does c1 hncall I.step.sr I.tr hs2)
      | reads =>
        have hs2 : sop x.s.op tS (Z p) = some (R j, Z p) := by rw [sop_congr (stepTmps_op hag)]; exact pd1 hkk
        exact plain hs2 (sop_does c1 hncall I.step.sr I.tr hs2)
      | alloc =>
        have hs2 : sop x.s.op tS (Z j) = some (R j, Z (j + 1)) := by rw [sop_congr (stepTmps_op hag)]; exact hsop
        obtain ⟨ob, hob, hy⟩ := alloc_sound c1 hkk I.tr hs2
        obtain ⟨O, nn, u, hrun, hl⟩ := hy w'
        obtain ⟨e1, e2, e3, e4, e5⟩ := pd2 hkk
        obtain ⟨q1, q2⟩ := hl _ (Ext.put (p := ⟨w'.heap.size, 0, nn⟩) e4) (Rho.put_self _ _ _)
        have hst := Step1.lay I.step (o := O) (n := nn) e1 (by omega) e4 (by rw [e5, hob, St.get_push, if_pos rfl]; exact q2)
        refine opDoes_run c1 hrun (.inl rfl) K Q ?_
        rintro _ _ ⟨rfl, rfl⟩
        refine adv p _ _ _ _ (I.upd h hx hr c3 c4 q1 hst (Ext.put e4) (I.marks.lay _ _ _) (.inl ⟨rfl, hlt⟩) (Nat.le_refl _) ?_ ?_)
        · intro k' y hk' hkj hy hny hwy hkk'
          obtain ⟨f1, f2, f3, f4, f5⟩ := (I.pend k' y hk' hy hny hwy).2 hkk'
          refine ⟨?_, rfl⟩
          have hne : (Z k').next ≠ (Z j).next := by
            rcases Nat.lt_or_ge k' j with e | e
            · have := I.mono_le (k := k' + 1) (j := j) (by omega) (by omega); omega
            · have := I.mono_le (k := j + 1) (j := k') (by omega) (by omega); omega
          simp only [Rho.put, if_neg hne]; exact f4
        · intro k' y hk' hkj hy hny hwy hkk'
          exact (I.pend k' y hk' hy hny hwy).1 hkk'
  · have hwS : wantedS tS x.s.guard = some false := (stepTmps_guard hag).trans hw
    rw [if_neg (by rw [wanted_ok c2 I.tr hwS]; simp)]
    refine ⟨fun _ _ => trivial, ?_⟩
    by_cases hlt : j < p
    · refine adv p _ ρ' _ w' (I.upd h hx hr c3 c4 (u := Go.undef) (by rw [hR]; exact OK.mk_undef) I.step (Ext.refl _) I.marks (.inl ⟨rfl, hlt⟩) (Nat.le_refl _) ?_ ?_)
      · intro k' y hk' hkj hy hny hwy hkk
        obtain ⟨e1, e2, e3, e4, e5⟩ := (I.pend k' y hk' hy hny hwy).2 hkk
        exact ⟨e4, rfl⟩
      · intro k' y hk' hkj hy hny hwy hkk
        exact (I.pend k' y hk' hy hny hwy).1 hkk
    · have : j = p := by omega
      subst this
      refine adv (j + 1) _ ρ' _ w' (I.upd h hx hr c3 c4 (u := Go.undef) (by rw [hR]; exact OK.mk_undef) (by rw [hZ]; exact I.step) (Ext.refl _) I.marks (.inr ⟨rfl, rfl⟩) (by rw [hZ]; exact Nat.le_refl _) ?_ ?_)
      · intro k' y hk' hkj hy hny hwy hkk
        obtain ⟨e1, e2, e3, e4, e5⟩ := (I.pend k' y hk' hy hny hwy).2 hkk
        exact ⟨e4, by rw [hZ]⟩
      · intro k' y hk' hkj hy hny hwy hkk
        rw [hZ]
        exact (I.pend k' y hk' hy hny hwy).1 hkk

theorem filt_lt {f g : Nat → Bool} (hle : ∀ x, g x = true → f x = true) : ∀ {l : List Nat} {i : Nat}, i ∈ l → f i = true → g i = false → (l.filter g).length < (l.filter f).length
  | [], i, h, _, _ => by simp at h
  | x :: r, i, h, h1, h2 => by
    have hmono : ∀ r : List Nat, (r.filter g).length ≤ (r.filter f).length := by
      intro r
      induction r with
      | nil => simp
      | cons y r ih =>
        simp only [List.filter_cons]
        cases hg : g y with
        | true => rw [hle y hg]; simpa using ih
        | false => cases f y <;> simp <;> omega
    simp only [List.filter_cons]
    rcases List.mem_cons.1 h with rfl | h
    · rw [h1, h2]
      have := hmono r
      simp; omega
    · have := filt_lt hle h h1 h2
      cases hg : g x with
      | true => rw [hle x hg]; simpa using this
      | false => cases f x <;> simp <;> omega

theorem Inv.fin (I : Inv P N ops l T Z R w0 B ρ σ w L p tS ρ' a' w') (h : LT P E n N ops a l T Z R) (hall : ∀ (j : Nat) (x : Itm), l[j]? = some x → lis L x.i) (nb : NB l p) {Q : Exit → Act → World → Prop}
    (hQ : ∀ a' w' ρ', TR w0 ρ' (T l.length) N a'.tmps → MKS B ρ' w' a'.defers → Step1 P w0 ρ σ w ρ' (Z l.length) w' → Q .normal a' w') : Region.ready .any ops L = [] ∧ Q .normal a' w' := by
  constructor
  · cases hrd : Region.ready .any ops L with
    | nil => rfl
    | cons i r =>
      have hi : i ∈ Region.ready .any ops L := by rw [hrd]; simp
      rw [mem_ready] at hi
      obtain ⟨hi0, o, ho, _⟩ := hi
      have hlt := (Array.getElem?_eq_some_iff.1 ho).1
      have hs : i < L.size := by rw [I.sz]; exact hlt
      obtain ⟨j, x, hx, rfl⟩ := h.D.cover i hlt
      have := hall j x hx
      unfold lis at this
      simp only [Array.getD, hs, dif_pos] at hi0 this
      rw [hi0] at this; cases this
  · have hp : p = l.length := by
      rcases nb with e | ⟨x, hx, _⟩
      · exact e
      · exact absurd (hall p x hx) (I.above p x (Nat.le_refl _) hx)
    subst hp
    refine hQ a' w' ρ' (I.tr.congr fun d => ?_) I.marks I.step
    by_cases hw : ∃ (j : Nat) (y : Itm), l[j]? = some y ∧ y.s.dst = some d
    · obtain ⟨j, y, hy, hd⟩ := hw
      rw [I.t1 j y d hy hd (hall j y hy), h.val1 _ (Nat.le_refl _) j y d (lt_len hy) hy hd]
    · rw [I.t2 d (fun k z hz hzd => absurd ⟨k, z, hz, hzd⟩ hw), h.val0 _ (Nat.le_refl _) d (fun k z _ hz hzd => hw ⟨k, z, hz, hzd⟩)]

def unl (n : Nat) (L : Array Bool) : Nat := ((List.range n).filter fun i => !L.getD i false).length

theorem Inv.any (h : LT P E n N ops a l T Z R) (h1 : ∀ k, k < n → OneOK P w0 E k) {ro : Option Nat} {m : Nat} {Q : Exit → Act → World → Prop} (hlo : B ≤ w.heap.size) (hrd : ∀ l0, ro = some l0 → ∃ r : Loop, w.heap[l0]? = some (Obj.loop r))
    (hQ : ∀ a' w' ρ', TR w0 ρ' (T l.length) N a'.tmps → MKS B ρ' w' a'.defers → Step1 P w0 ρ σ w ρ' (Z l.length) w' → Q .normal a' w') : ∀ (fuel : Nat) (L : Array Bool) (p : Nat) (tS : Tr SV) (ρ' : Rho) (a' : Act) (w' : World), unl ops.size L ≤ fuel →
    Inv P N ops l T Z R w0 B ρ σ w L p tS ρ' a' w' → NB l p → wpAnyIn (FR ro) m P .any ops Q fuel L a' w' := by
  intro fuel
  induction fuel with
  | zero =>
    intro L p tS ρ' a' w' hf I nb
    have hall : ∀ (j : Nat) (x : Itm), l[j]? = some x → lis L x.i := fun j x hx => by
      obtain ⟨o, ho, _⟩ := h.D.op j x hx
      have hlt := (Array.getElem?_eq_some_iff.1 ho).1
      have h0 : unl ops.size L = 0 := by omega
      unfold unl at h0
      rw [List.length_eq_zero_iff, List.filter_eq_nil_iff] at h0
      have := h0 x.i (List.mem_range.2 hlt)
      simpa [lis] using this
    exact I.fin h hall nb hQ
  | succ fuel ih =>
    intro L p tS ρ' a' w' hf I nb
    refine ⟨fun hready => ?_, fun i hi => ?_⟩
    · have hall : ∀ (j : Nat) (x : Itm), l[j]? = some x → lis L x.i := by
        intro j
        induction j using Nat.strongRecOn with
        | _ j ihj =>
          intro x hx
          obtain ⟨o, ho, hcs, hps⟩ := h.D.op j x hx
          have hlt := (Array.getElem?_eq_some_iff.1 ho).1
          cases hl : L.getD x.i false with
          | true => exact hl
          | false =>
            exfalso
            have : x.i ∈ Region.ready .any ops L := by
              rw [mem_ready]
              refine ⟨?_, o, ho, fun e he hb => ?_⟩
              · have hs : x.i < L.size := by rw [I.sz]; exact hlt
                simp only [Array.getD, hs, dif_pos] at hl ⊢
                exact hl
              · have hm : e.on ∈ x.ps := by
                  rw [hps]
                  exact List.mem_map.2 ⟨e, List.mem_filter.2 ⟨by simpa using he, hb⟩, rfl⟩
                obtain ⟨j', y, g1, g2, g3⟩ := h.D.preds j x hx _ hm
                have := ihj j' g1 y g2
                rw [g3] at this; exact this
            rw [hready] at this; simp at this
      exact (I.fin h hall nb hQ).2
    · rw [mem_ready] at hi
      obtain ⟨hi0, o, ho, hpre⟩ := hi
      have hlt := (Array.getElem?_eq_some_iff.1 ho).1
      have hs : i < L.size := by rw [I.sz]; exact hlt
      obtain ⟨j, x, hx, rfl⟩ := h.D.cover i hlt
      obtain ⟨o', ho', hcs, hps⟩ := h.D.op j x hx
      rw [ho] at ho'; cases ho'
      have hl0 : L.getD x.i false = false := by
        simp only [Array.getD, hs, dif_pos] at hi0 ⊢
        exact hi0
      refine I.exec1 h nb h1 hlo hrd hx (fun q hq => ?_) (by unfold lis; rw [hl0]; simp) ?_
      · rw [hps] at hq
        obtain ⟨e, he, rfl⟩ := List.mem_map.1 hq
        obtain ⟨he1, he2⟩ := List.mem_filter.1 he
        exact hpre e (by simpa using he1) he2
      · intro p' tS' ρ'' a'' w'' I' nb'
        refine ih _ p' tS' ρ'' a'' w'' ?_ I' nb'
        have : unl ops.size (L.setIfInBounds x.i true) < unl ops.size L := by
          refine filt_lt (fun q hq => ?_) (List.mem_range.2 hlt) (by simp [hl0]) ?_
          · by_cases e : q = x.i
            · subst e; simp [hl0]
            · rw [getD_set_ne false (Ne.symm e)] at hq; exact hq
          · have : lis (L.setIfInBounds x.i true) x.i := (lis_set hs).2 (.inl rfl)
            unfold lis at this
            rw [this]; rfl
        omega

theorem draw_ok (hm : P.follows .mixedOrders = true) : DrawOK P w0 E := by
  intro n h1 N ops ss t σ t' σ' hc hs ro m B ρ a w id Q hr hQ
  simp only [compReg, if_true, Option.map_eq_some_iff] at hc
  obtain ⟨⟨an, l⟩, hd, hss⟩ := hc
  have D := drawItms_ok hd
  obtain ⟨T, Z, R, e1, e2, e3, e4, tr⟩ := trace hs
  have hlen : ss.length = l.length := by rw [← hss]; simp [withRe_len]
  have hget : ∀ (j : Nat) (x : Itm), l[j]? = some x → ss[j]? = some ((if isBig x.s then { x with s := { x.s with re := reOf an (l.take j) x } } else x : Itm).s) := fun j x hx => by
    rw [← hss, List.getElem?_map, withRe_get, hx]; simp
  have hlt : LT P E n N ops an l T Z R := by
    refine ⟨D, fun j x hx => ?_, fun j x hx => ?_⟩
    · have := tr.put j _ (hget j x hx)
      rw [this]
      cases isBig x.s <;> rfl
    · have := tr.run j _ (hget j x hx)
      cases hb : isBig x.s with
      | true => rw [hb] at this; simpa using this
      | false =>
        rw [hb] at this
        rcases this with ⟨g1, g2, g3⟩ | g
        · exact .inl ⟨g1, g2, fun e => by cases e⟩
        · exact .inr g
  refine wpIn_region_any hm ?_
  have hnl : ∀ q, ¬ lis (Array.replicate ops.size false) q := fun q hq => by
    unfold lis at hq
    rw [Array.getD_eq_getD_getElem?, Array.getElem?_replicate] at hq
    split at hq <;> simp at hq
  have I0 : Inv P N ops l T Z R w0 B ρ σ w (Array.replicate ops.size false) 0 t ρ a w.drew := by
    refine ⟨by simp, fun j x _ hl => absurd hl (hnl _), Nat.zero_le _, fun j x _ _ => hnl _, fun j x hj => by omega, hr.tr, fun j x d _ _ hl => absurd hl (hnl _), fun d _ => by rw [e1], ?_, hr.marks.step (Step1.drew hr.sr), fun j hj => by omega, fun j x hj => by omega⟩
    rw [e2]; exact Step1.drew hr.sr
  obtain ⟨p, I1, nb⟩ := Inv.adv hlt _ 0 (Nat.le_refl _) I0
  refine Inv.any hlt h1 hr.lo hr.rd ?_ ops.size _ p t ρ a _ ?_ I1 nb
  · intro a' w' ρ' k1 k2 k3
    rw [← hlen, e3] at k1
    rw [← hlen, e4] at k3
    exact hQ a' w' ρ' k1 k2 k3
  · unfold unl
    exact Nat.le_trans (List.length_filter_le _ _) (by simp)
end
end Go.Proofs.Ytojjhcgbbmknmaa.Sh

/- Arguments: what is read of them, as values of the shadow that lie where they lay. -/
namespace Go.Proofs.Ytojjhcgbbmknmaa.Sh
set_option linter.unusedSimpArgs false
set_option linter.unusedVariables false
open Go Go.RowKit

/-- Types of whole numbers, truths, texts, records, rows and arrays of these; records without gaps. -/
def flatT (P : Program) : Nat → TypeId → Bool
  | 0, _ => false
  | d + 1, t =>
    match P.underlying t with
    | some .bool => true
    | some (.int _) => true
    | some .string => true
    | some (.slice e) => decide (0 < P.cellsOf e) && decide (0 < P.bytesOf e) && flatT P d e
    | some (.struct fs) => fs.toList.all (fun f => flatT P d f.type) && decide (fs.toList.foldl (fun (o : Option Nat) f => match o with
        | some o => if o = f.offset then some (o + P.cellsOf f.type) else none
        | none => none) (some 0) = some (P.cellsOf t))
    | some (.array n e) => decide (0 < P.cellsOf e) && decide (n * P.cellsOf e = P.cellsOf t) && flatT P d e
    | _ => false

/-- What cells of a type are. -/
def Rd (P : Program) : Nat → TypeId → List SV → Prop
  | 0, _, _ => False
  | d + 1, t, ss =>
    match P.underlying t with
    | some .bool => ∃ b, ss = [.sc (.bool b)]
    | some (.int k) => ∃ n, ss = [.sc (.int k n)] ∧ (Lit.int k n).wf = true
    | some .string => ∃ s, ss = [.sc (.str s)]
    | some (.slice e) => ss = [.sc .nilsl] ∨ ∃ ls : List (List SV), ss = [.lst ls.length (P.cellsOf e) ls.flatten] ∧ ls.length ≤ 2 ^ 47 ∧ ∀ l ∈ ls, l.length = P.cellsOf e ∧ Rd P d e l
    | some (.struct fs) => ss.length = P.cellsOf t ∧ ∀ f ∈ fs.toList, Rd P d f.type ((ss.drop f.offset).take (P.cellsOf f.type))
    | some (.array n e) => ss.length = P.cellsOf t ∧ ∀ i, i < n → Rd P d e ((ss.drop (i * P.cellsOf e)).take (P.cellsOf e))
    | _ => False

section
variable {P : Program} {w : World} {H : Type} {enc : TypeId × Value → H} {sp : Nat → Bool}

theorem mapM_some {α β : Type} {f : α → Option β} : ∀ {l : List α} {r : List β}, l.mapM f = some r → ∀ (i : Nat) (x : α), l[i]? = some x → ∃ y : β, r[i]? = some y ∧ f x = some y
  | [], r, h, i, x, hx => by simp at hx
  | a :: l, r, h, i, x, hx => by
    rw [List.mapM_cons] at h
    cases ha : f a with
    | none => simp [ha] at h
    | some b =>
      cases hr : l.mapM f with
      | none => simp [ha, hr] at h
      | some r' =>
        simp [ha, hr] at h
        subst h
        cases i with
        | zero => simp at hx; subst hx; exact ⟨b, by simp, ha⟩
        | succ i =>
          obtain ⟨y, h1, h2⟩ := mapM_some hr i x (by simpa using hx)
          exact ⟨y, by simpa using h1, h2⟩
theorem mapM_len {α β : Type} {f : α → Option β} : ∀ {l : List α} {r : List β}, l.mapM f = some r → r.length = l.length
  | [], r, h => by simp at h; subst h; rfl
  | a :: l, r, h => by
    rw [List.mapM_cons] at h
    cases ha : f a with
    | none => simp [ha] at h
    | some b =>
      cases hr : l.mapM f with
      | none => simp [ha, hr] at h
      | some r' => simp [ha, hr] at h; subst h; simp [mapM_len hr]

def R0 : Rho := ⟨fun _ => none, fun _ _ => False⟩

/-- Pieces, one behind the other. -/
theorem pieces {Q : Nat → List SV → Prop} {c : Nat} {cs : List Value} : ∀ (n : Nat), (∀ i, i < n → ∃ ss, OKs w R0 ss ((cs.drop (i * c)).take c) ∧ allOne ss ∧ Q i ss) → n * c ≤ cs.length →
    ∃ ls : List (List SV), ls.length = n ∧ OKs w R0 ls.flatten (cs.take (n * c)) ∧ allOne ls.flatten ∧ ∀ i l, ls[i]? = some l → l.length = c ∧ Q i l := by
  intro n
  induction n with
  | zero => intro _ _; exact ⟨[], rfl, by simp [OKs, VRs, wfs], by simp [allOne], by simp⟩
  | succ n ih =>
    intro h hl
    have e : (n + 1) * c = n * c + c := by rw [Nat.add_mul, Nat.one_mul]
    obtain ⟨ls, h1, h2, h3, h4⟩ := ih (fun i hi => h i (by omega)) (by omega)
    obtain ⟨ss, g1, g2, g3⟩ := h n (by omega)
    have hsl : ss.length = c := by have := g1.len; simp at this; omega
    refine ⟨ls ++ [ss], by simp [h1], ?_, ?_, fun i l hl' => ?_⟩
    · rw [List.flatten_append, e, List.take_add]
      simpa using h2.append g1
    · rw [List.flatten_append]
      simpa using allOne_append h3 (by simpa using g2)
    · rw [List.getElem?_append] at hl'
      split at hl'
      · exact h4 i l hl'
      · rename_i hge
        have : i = n := by
          have := (List.getElem?_eq_some_iff.1 hl').1
          simp at this; omega
        subst this
        simp [h1] at hl'
        subst hl'
        exact ⟨hsl, g3⟩

theorem flatten_piece {c : Nat} : ∀ {ls : List (List SV)} {i : Nat} {l : List SV}, (∀ x ∈ ls, x.length = c) → ls[i]? = some l → (ls.flatten.drop (i * c)).take c = l
  | [], i, l, _, h => by simp at h
  | x :: r, 0, l, hx, h => by
    simp at h; subst h
    have := hx x (by simp)
    simp [← this]
  | x :: r, i + 1, l, hx, h => by
    have hxl := hx x (by simp)
    have := flatten_piece (ls := r) (i := i) (l := l) (fun y hy => hx y (by simp [hy])) (by simpa using h)
    rw [List.flatten_cons, show (i + 1) * c = x.length + i * c by rw [Nat.add_mul, hxl]; omega, List.drop_append, List.drop_eq_nil_of_le (by omega)]
    simpa using this

/-- Fields, one behind the other. -/
theorem fields {d : Nat} {cs : List Value} (Q : TypeId → List SV → Prop) : ∀ (fs : List Field) (o : Nat) (tot : Nat), fs.foldl (fun (o : Option Nat) f => match o with
        | some o => if o = f.offset then some (o + P.cellsOf f.type) else none
        | none => none) (some o) = some tot → (∀ f ∈ fs, ∃ ss, OKs w R0 ss ((cs.drop f.offset).take (P.cellsOf f.type)) ∧ allOne ss ∧ Q f.type ss) → tot ≤ cs.length →
    o ≤ tot ∧ ∃ ss, OKs w R0 ss ((cs.drop o).take (tot - o)) ∧ allOne ss ∧ ss.length = tot - o ∧ ∀ f ∈ fs, o ≤ f.offset ∧ Q f.type ((ss.drop (f.offset - o)).take (P.cellsOf f.type)) := by
  intro fs
  induction fs with
  | nil =>
    intro o tot h _ _
    simp at h; subst h
    exact ⟨Nat.le_refl _, [], by simp [OKs, VRs, wfs], by simp [allOne], by simp, by simp⟩
  | cons f fs ih =>
    intro o tot h hf htot
    simp only [List.foldl_cons] at h
    by_cases ho : o = f.offset
    · rw [if_pos ho] at h
      obtain ⟨h1, ss, h2, h3, h4, h5⟩ := ih _ tot h (fun g hg => hf g (by simp [hg])) htot
      obtain ⟨s0, g1, g2, g4⟩ := hf f (by simp)
      have g3 : s0.length = P.cellsOf f.type := by have := g1.len; simp at this; omega
      refine ⟨by omega, s0 ++ ss, ?_, allOne_append g2 h3, by simp [g3, h4]; omega, fun g hg => ?_⟩
      · have : (cs.drop o).take (tot - o) = (cs.drop f.offset).take (P.cellsOf f.type) ++ (cs.drop (o + P.cellsOf f.type)).take (tot - (o + P.cellsOf f.type)) := by
          rw [show tot - o = P.cellsOf f.type + (tot - (o + P.cellsOf f.type)) by omega, List.take_add, List.drop_drop, ho]
        rw [this]
        exact g1.append h2
      · rcases List.mem_cons.1 hg with rfl | hg
        · refine ⟨by omega, ?_⟩
          have : ((s0 ++ ss).drop (g.offset - o)).take (P.cellsOf g.type) = s0 := by
            rw [show g.offset - o = 0 by omega, List.drop_zero, ← g3]; simp
          rw [this]; exact g4
        · obtain ⟨k1, k2⟩ := h5 g hg
          refine ⟨by omega, ?_⟩
          have : (s0 ++ ss).drop (g.offset - o) = ss.drop (g.offset - (o + P.cellsOf f.type)) := by
            rw [List.drop_append, List.drop_eq_nil_of_le (by omega)]
            simp
            congr 1
            omega
          rw [this]; exact k2
    · rw [if_neg ho] at h
      exfalso
      clear ih hf
      induction fs with
      | nil => simp at h
      | cons g fs ih => simp only [List.foldl_cons] at h; exact ih h

theorem cells?_get {base : Nat} {A : Addr} {n : Nat} {cs : List Value} (h : w.cells? base A n = some cs) : base ≤ A.block ∧ cs.length = n ∧ ∀ i u, cs[i]? = some u → w.cell? (A.add i) = some u := by
  unfold World.cells? at h
  split at h
  · rename_i hb
    have hl := mapM_len h
    simp at hl
    refine ⟨hb, hl, fun i u hu => ?_⟩
    have hi : i < n := by have := (List.getElem?_eq_some_iff.1 hu).1; omega
    obtain ⟨y, h1, h2⟩ := mapM_some h i i (by simp [hi])
    rw [hu] at h1; cases h1
    exact h2
  · cases h

theorem cell_lt {A : Addr} {u : Value} (h : w.cell? A = some u) : A.block < w.heap.size := by
  unfold World.cell? at h
  split at h
  · rename_i e
    exact (Array.getElem?_eq_some_iff.1 e).1
  · cases h

theorem cell_spot {A : Addr} {u : Value} (h : w.cell? A = some u) : A.spot = none := by
  unfold World.cell? at h
  split at h
  · split at h
    · cases h
    · rename_i e; cases hs : A.spot with
      | none => rfl
      | some x => rw [hs] at e; simp at e
  · cases h

/-- A row, element by element. -/
theorem rows {Q : List SV → Prop} {c : Nat} {A : Addr} : ∀ (n : Nat), (∀ i, i < n → ∃ ss csi, w.cells? 0 (A.add (i * c)) c = some csi ∧ OKs w R0 ss csi ∧ allOne ss ∧ Q ss) →
    ∃ (ls : List (List SV)) (vs : List Value), ls.length = n ∧ OKs w R0 ls.flatten vs ∧ allOne ls.flatten ∧ vs.length = n * c ∧ (∀ k u, vs[k]? = some u → w.cell? (A.add k) = some u) ∧ ∀ l ∈ ls, l.length = c ∧ Q l := by
  intro n
  induction n with
  | zero => intro _; exact ⟨[], [], rfl, by simp [OKs, VRs, wfs], by simp [allOne], by simp, by simp, by simp⟩
  | succ n ih =>
    intro h
    have e : (n + 1) * c = n * c + c := by rw [Nat.add_mul, Nat.one_mul]
    obtain ⟨ls, vs, h1, h2, h3, h4, h5, h6⟩ := ih (fun i hi => h i (by omega))
    obtain ⟨ss, csi, g0, g1, g2, g3⟩ := h n (by omega)
    obtain ⟨_, q1, q2⟩ := cells?_get g0
    have hsl : ss.length = c := by have := g1.len; omega
    refine ⟨ls ++ [ss], vs ++ csi, by simp [h1], ?_, ?_, by simp [h4, q1, e], fun k u hk => ?_, fun l hl => ?_⟩
    · rw [List.flatten_append]
      simpa using h2.append g1
    · rw [List.flatten_append]
      simpa using allOne_append h3 (by simpa using g2)
    · rw [List.getElem?_append] at hk
      split at hk
      · exact h5 k u hk
      · rename_i hge
        have := q2 _ _ hk
        rw [Addr.add_add] at this
        rw [show k = n * c + (k - vs.length) by omega]; exact this
    · rcases List.mem_append.1 hl with hl | hl
      · exact h6 l hl
      · simp at hl; subst hl; exact ⟨hsl, g3⟩

theorem OKs.one_mk {s : SV} {u : Value} (h : OK w R0 s u) : OKs w R0 [s] [u] := ⟨VRs.cons h.1 VRs.nil, h.2, trivial⟩

theorem trod_bool' {fuel : Nat} {t : TypeId} {cs : List Value} {x : DataW H × List MemPlace} (hu : P.underlying t = some .bool) (h : DataW.trod enc P w 0 sp true (fuel + 1) t cs = some x) : ∃ b, cs = [.bool b] := by
  unfold DataW.trod at h
  rw [hu] at h
  cases cs with
  | nil => simp at h
  | cons v r => cases r with
    | nil => cases v <;> simp at h; exact ⟨_, rfl⟩
    | cons _ _ => cases v <;> simp at h
theorem trod_int' {fuel : Nat} {t : TypeId} {k : IntKind} {cs : List Value} {x : DataW H × List MemPlace} (hu : P.underlying t = some (.int k)) (h : DataW.trod enc P w 0 sp true (fuel + 1) t cs = some x) : ∃ n, cs = [.int k n] ∧ (Lit.int k n).wf = true := by
  unfold DataW.trod at h
  rw [hu] at h
  cases cs with
  | nil => simp at h
  | cons v r => cases r with
    | nil =>
      cases v <;> simp at h
      obtain ⟨⟨rfl, h1⟩, _⟩ := h
      exact ⟨_, rfl, h1⟩
    | cons _ _ => cases v <;> simp at h
theorem trod_string' {fuel : Nat} {t : TypeId} {cs : List Value} {x : DataW H × List MemPlace} (hu : P.underlying t = some .string) (h : DataW.trod enc P w 0 sp true (fuel + 1) t cs = some x) : ∃ b, cs = [.string b] := by
  unfold DataW.trod at h
  rw [hu] at h
  cases cs with
  | nil => simp at h
  | cons v r => cases r with
    | nil => cases v <;> simp at h; exact ⟨_, rfl⟩
    | cons _ _ => cases v <;> simp at h
theorem weights_mem_all {e : TypeId} : ∀ {ds : List (DataW H)} {i : Nat} {d : DataW H}, ds[i]? = some d → ∀ n ∈ d.weights P e, n ∈ DataW.weightsAll P e ds
  | [], i, d, h, n, _ => by simp at h
  | d0 :: ds, 0, d, h, n, hn => by
    simp only [List.getElem?_cons_zero, Option.some.injEq] at h
    subst h
    simp only [DataW.weightsAll, List.mem_append]
    exact .inl hn
  | d0 :: ds, i + 1, d, h, n, hn => by
    simp only [List.getElem?_cons_succ] at h
    simp only [DataW.weightsAll, List.mem_append]
    exact .inr (weights_mem_all h n hn)
theorem trod_struct' {fuel : Nat} {t : TypeId} {fs : Array Field} {cs : List Value} {x : DataW H × List MemPlace} (hu : P.underlying t = some (.struct fs)) (h : DataW.trod enc P w 0 sp true (fuel + 1) t cs = some x) :
    cs.length = P.cellsOf t ∧ ∀ f ∈ fs.toList, ∃ y, DataW.trod enc P w 0 sp true fuel f.type ((cs.drop f.offset).take (P.cellsOf f.type)) = some y ∧ ∀ n ∈ y.1.weights P f.type, n ∈ x.1.weights P t := by
  unfold DataW.trod at h
  rw [hu] at h
  simp only at h
  split at h
  · rename_i hl
    obtain ⟨xs, h1, h2⟩ := Option.map_eq_some_iff.1 h
    refine ⟨hl, fun f hf => ?_⟩
    obtain ⟨i, hi⟩ := List.mem_iff_getElem?.1 hf
    obtain ⟨y, hxy, hy⟩ := mapM_some h1 i f hi
    refine ⟨y, hy, fun n hn => ?_⟩
    subst h2
    simp only [DataW.weights, hu]
    exact DataW.weights_mem_each (j := i) (by simp at hi; simp [hi]) (by simp [hxy]) n hn
  · cases h
theorem trod_array' {fuel n : Nat} {t e : TypeId} {cs : List Value} {x : DataW H × List MemPlace} (hu : P.underlying t = some (.array n e)) (h : DataW.trod enc P w 0 sp true (fuel + 1) t cs = some x) :
    cs.length = P.cellsOf t ∧ ∀ i, i < n → ∃ y, DataW.trod enc P w 0 sp true fuel e ((cs.drop (i * P.cellsOf e)).take (P.cellsOf e)) = some y ∧ ∀ n ∈ y.1.weights P e, n ∈ x.1.weights P t := by
  unfold DataW.trod at h
  rw [hu] at h
  simp only at h
  split at h
  · rename_i hl
    obtain ⟨xs, h1, h2⟩ := Option.map_eq_some_iff.1 h
    refine ⟨hl, fun i hi => ?_⟩
    obtain ⟨y, hxy, hy⟩ := mapM_some h1 i i (by simp [hi])
    refine ⟨y, hy, fun n hn => ?_⟩
    subst h2
    simp only [DataW.weights, hu]
    exact weights_mem_all (i := i) (by simp [hxy]) n hn
  · cases h
theorem trod_slice' {fuel : Nat} {t e : TypeId} {cs : List Value} {x : DataW H × List MemPlace} (hu : P.underlying t = some (.slice e)) (h : DataW.trod enc P w 0 sp true (fuel + 1) t cs = some x) :
    cs = [.slice none 0 0] ∨ ∃ a len cap, cs = [.slice (some a) len cap] ∧ len ≤ cap ∧ (∃ m, len ≤ m ∧ m * P.bytesOf e ∈ x.1.weights P t) ∧ ∀ i, i < len → ∃ csi y, w.cells? 0 (a.add (i * P.cellsOf e)) (P.cellsOf e) = some csi ∧ DataW.trod enc P w 0 sp true fuel e csi = some y ∧ ∀ n ∈ y.1.weights P e, n ∈ x.1.weights P t := by
  unfold DataW.trod at h
  rw [hu] at h
  cases cs with
  | nil => simp at h
  | cons v r => cases r with
    | nil =>
      cases v <;> try (simp at h; done)
      rename_i a len cap
      cases a with
      | none =>
        cases len with
        | zero => cases cap with
          | zero => exact .inl rfl
          | succ _ => simp at h
        | succ _ => simp at h
      | some a =>
        simp only at h
        split at h
        · rename_i hc
          obtain ⟨xs, h1, h2⟩ := Option.bind_eq_some_iff.1 h
          obtain ⟨rest, _, h3⟩ := Option.map_eq_some_iff.1 h2
          subst h3
          have hxl := mapM_len h1
          simp at hxl
          refine .inr ⟨a, len, cap, rfl, hc.2.1, ⟨xs.length + rest.length, by omega, by simp [DataW.weights, hu]⟩, fun i hi => ?_⟩
          obtain ⟨y, hxy, hy⟩ := mapM_some h1 i i (by simp [hi])
          obtain ⟨csi, g1, g2⟩ := Option.bind_eq_some_iff.1 hy
          refine ⟨csi, y, g1, g2, fun n hn => ?_⟩
          simp only [DataW.weights, hu, List.mem_cons, List.mem_append]
          exact .inr (.inl (weights_mem_all (i := i) (by simp [hxy]) n hn))
        · cases h
    | cons _ _ => cases v <;> simp at h

theorem enc_trod : ∀ (d fuel : Nat) (t : TypeId) (cs : List Value) (x : DataW H × List MemPlace), flatT P d t = true → DataW.trod enc P w 0 sp true fuel t cs = some x → (∀ n ∈ x.1.weights P t, n ≤ 2 ^ 47) → ∃ ss, OKs w R0 ss cs ∧ allOne ss ∧ Rd P d t ss := by
  intro d
  induction d with
  | zero => intro fuel t cs x h; simp [flatT] at h
  | succ d ih =>
    intro fuel t cs x hf h
    intro hwt
    cases fuel with
    | zero => simp [DataW.trod] at h
    | succ fuel =>
      unfold flatT at hf
      unfold Rd
      cases hu : P.underlying t with
      | none => simp [hu] at hf
      | some td =>
        rw [hu] at hf
        cases td
        case bool =>
          obtain ⟨b, rfl⟩ := trod_bool' hu h
          exact ⟨[.sc (.bool b)], OKs.one_mk (OK.mk_sc (s := .bool _)), by simp [allOne, SV.one], _, rfl⟩
        case int k =>
          obtain ⟨n, rfl, hn⟩ := trod_int' hu h
          exact ⟨[.sc (.int k n)], OKs.one_mk (OK.mk_sc (s := .int k n)), by simp [allOne, SV.one], _, rfl, hn⟩
        case string =>
          obtain ⟨b, rfl⟩ := trod_string' hu h
          exact ⟨[.sc (.str b)], OKs.one_mk (OK.mk_sc (s := .str _)), by simp [allOne, SV.one], _, rfl⟩
        case slice e =>
          simp only [Bool.and_eq_true, decide_eq_true_eq] at hf
          rcases trod_slice' hu h with rfl | ⟨A, len, cap, rfl, h1, h2, h3⟩
          · exact ⟨[.sc .nilsl], OKs.one_mk (OK.mk_sc (s := .nilsl)), by simp [allOne, SV.one], .inl rfl⟩
          · obtain ⟨ls, vs, g1, g2, g3, g4, g5, g6⟩ := rows (w := w) (Q := Rd P d e) (c := P.cellsOf e) (A := A) len (fun i hi => by
              obtain ⟨csi, y, k1, k2, kw⟩ := h3 i hi
              obtain ⟨ss, k3, k4, k5⟩ := ih fuel e csi y hf.2 k2 (fun n hn => hwt n (kw n hn))
              exact ⟨ss, csi, k1, k3, k4, k5⟩)
            refine ⟨[.lst ls.length (P.cellsOf e) ls.flatten], ⟨VRs.cons ?_ VRs.nil, ⟨g3, g2.2⟩, trivial⟩, by simp [allOne, SV.one], .inr ⟨ls, rfl, by
              obtain ⟨m, hm1, hm2⟩ := h2
              have h4 := hwt _ hm2
              have h5 : m * 1 ≤ m * P.bytesOf e := Nat.mul_le_mul_left _ hf.1.2
              omega, g6⟩⟩
            simp only [VR]
            have hfl : ls.flatten.length = ls.length * P.cellsOf e := by have := g2.len; rw [g1]; omega
            refine ⟨A, cap, vs, by rw [g1], by omega, g2.1, ⟨fun hne => ?_, fun i v hv => .inl ?_⟩, hfl, hf.1.1⟩
            · obtain ⟨u, r, rfl⟩ := List.exists_cons_of_ne_nil hne
              have := g5 0 u (by simp)
              rw [Addr.add_zero'] at this
              exact cell_spot this
            · have h0 : 0 < vs.length := by have := (List.getElem?_eq_some_iff.1 hv).1; omega
              have hz := g5 0 vs[0] (by simp)
              rw [Addr.add_zero'] at hz
              have hs := cell_spot hz
              obtain ⟨b, off, spt⟩ := A
              simp only at hs; subst hs
              have := g5 i v hv
              rw [Addr.add_lit] at this
              exact this
        case struct fs =>
          simp only [Bool.and_eq_true, decide_eq_true_eq] at hf
          obtain ⟨h1, h2⟩ := trod_struct' hu h
          obtain ⟨_, ss, g1, g2, g3, g4⟩ := fields (w := w) (d := d) (cs := cs) (Rd P d) fs.toList 0 (P.cellsOf t) hf.2 (fun f hm => by
            obtain ⟨y, hy, kw⟩ := h2 f hm
            obtain ⟨ss, k3, k4, k5⟩ := ih fuel _ _ y (List.all_eq_true.1 hf.1 f hm) hy (fun n hn => hwt n (kw n hn))
            exact ⟨ss, k3, k4, k5⟩) (by omega)
          refine ⟨ss, ?_, g2, by simpa using g3, fun f hm => by simpa using (g4 f hm).2⟩
          rw [List.drop_zero, Nat.sub_zero, ← h1, List.take_length] at g1
          exact g1
        case array n e =>
          simp only [Bool.and_eq_true, decide_eq_true_eq] at hf
          obtain ⟨⟨h0, h1⟩, h2⟩ := hf
          obtain ⟨h3, h4⟩ := trod_array' hu h
          obtain ⟨ls, g1, g2, g3, g4⟩ := pieces (w := w) (Q := fun _ => Rd P d e) (c := P.cellsOf e) (cs := cs) n (fun i hi => by
            obtain ⟨y, hy, kw⟩ := h4 i hi
            obtain ⟨ss, k3, k4, k5⟩ := ih fuel _ _ y h2 hy (fun n hn => hwt n (kw n hn))
            exact ⟨ss, k3, k4, k5⟩) (by omega)
          have hlen := g2.len
          simp at hlen
          refine ⟨ls.flatten, ?_, g3, by simp; omega, fun i hi => ?_⟩
          · rw [h1, ← h3, List.take_length] at g2; exact g2
          · obtain ⟨l, hl⟩ : ∃ l, ls[i]? = some l := ⟨_, List.getElem?_eq_getElem (by omega)⟩
            rw [flatten_piece (fun x hx => by
              obtain ⟨k, hk⟩ := List.mem_iff_getElem?.1 hx
              exact (g4 k x hk).1) hl]
            exact (g4 i l hl).2
        all_goals simp at hf
end
end Go.Proofs.Ytojjhcgbbmknmaa.Sh

/- From what the shadow computes of a law to the row: true, whatever the input; the input reads as it did. -/
namespace Go.Proofs.Ytojjhcgbbmknmaa.Sh
set_option linter.unusedSimpArgs false
set_option linter.unusedVariables false
open Go Go.RowKit Go.ChangeShapes Go.WideShapes Go.ChangeAt

section
variable {P : Program} {W : World} {H : Type} {enc : TypeId × Value → H} {sp : Nat → Bool} {E : Env}

theorem SR.start (P : Program) (w : World) : SR P w R0 St.empty w :=
  ⟨Below.refl _ _, fun i p e => (by cases e), fun i j p q e => (by cases e), fun i p e => (by cases e), fun i _ => rfl, fun a v e => e.elim⟩

theorem law_calls {f n : Nat} {ss : List SV} {vals : Array Value} {σ' : St} (he : EnvOK P W E) (hm : P.follows .mixedOrders = true) (ha : OKs W R0 ss vals.toList) (h : call E n f ss St.empty = some (.sc (.bool true), σ')) :
    Calls P f vals W fun e w' => e = .returned (.bool true) ∧ Below W.heap.size W w' := by
  have hc := (call_ok he (draw_ok hm) n f ss St.empty _ σ' h).2 none 0 R0 W vals (SR.start P W) ha
  refine callsIn_wide.1 (CallsIn.mono (F := Fence.wide) hc ?_)
  rintro e w' ⟨u, ρ', rfl, hok, hst⟩
  have := hok.1
  simp only [VR, Sc.val] at this
  subst this
  exact ⟨rfl, hst.sr.below⟩

/-- A value of a type, as the shadow has it. -/
def RdV (P : Program) (d : Nat) (t : TypeId) (s : SV) : Prop :=
  match P.underlying t with
  | some (.struct _) | some (.array _ _) => ∃ ss, s = .agg ss ∧ Rd P d t ss
  | _ => Rd P d t [s]
def RdA (P : Program) (d : Nat) : List TypeId → List SV → Prop
  | [], [] => True
  | t :: ts, s :: ss => RdV P d t s ∧ RdA P d ts ss
  | _, _ => False

theorem VRs.one_inv {ss : List SV} {u : Value} (h : OKs W R0 ss [u]) : ∃ s, ss = [s] ∧ OK W R0 s u := by
  obtain ⟨h1, h2⟩ := h
  cases ss with
  | nil => simp [VRs] at h1
  | cons s r =>
    simp only [VRs] at h1
    obtain ⟨v, l, e, h3, h4⟩ := h1
    cases e
    have := h4.len
    cases r with
    | nil => exact ⟨s, rfl, h3, h2.1⟩
    | cons _ _ => simp at this

theorem arg_enc {d : Nat} {base : Nat} {t : TypeId} {v : Value} {dd : DataW H} {ps : List MemPlace} (hf : flatT P d t = true) (hok : Value.okWide P W .any base t v) (h : DataW.Trod enc P W 0 sp true t v dd ps) (hwt : ∀ n ∈ dd.weights P t, n ≤ 2 ^ 47) : ∃ s, OK W R0 s v ∧ RdV P d t s := by
  obtain ⟨fuel, h⟩ := h
  obtain ⟨ss, h1, h2, h3⟩ := enc_trod d fuel t _ _ hf h hwt
  have hagg : ∀ (cs : Array Value), v = .agg cs → OK W R0 (.agg ss) v := fun cs e => by
    subst e
    exact ⟨by simp only [VR]; exact ⟨cs, rfl, by simpa [Value.cells] using h1.1⟩, h2, h1.2⟩
  have hone : v.cells = #[v] → (∀ fs, P.underlying t ≠ some (.struct fs)) → (∀ n e, P.underlying t ≠ some (.array n e)) → ∃ s, OK W R0 s v ∧ RdV P d t s := fun e n1 n2 => by
    rw [e] at h1
    obtain ⟨s, rfl, hs⟩ := VRs.one_inv h1
    refine ⟨s, hs, ?_⟩
    unfold RdV
    split
    · rename_i e'; exact absurd e' (n1 _)
    · rename_i e'; exact absurd e' (n2 _ _)
    · exact h3
  cases hu : P.underlying t with
  | none => cases d <;> simp [flatT, hu] at hf
  | some td =>
    unfold Value.okWide at hok
    rw [hu] at hok
    cases td
    case struct fs =>
      obtain ⟨cs, e, _⟩ := hok
      exact ⟨_, hagg cs e, by unfold RdV; rw [hu]; exact ⟨ss, rfl, h3⟩⟩
    case array n e =>
      obtain ⟨cs, e, _⟩ := hok
      exact ⟨_, hagg cs e, by unfold RdV; rw [hu]; exact ⟨ss, rfl, h3⟩⟩
    case bool => exact hone (by cases v <;> first | rfl | simp [Cell.okWide, Cell.ok, hu] at hok) (by simp [hu]) (by simp [hu])
    case int k => exact hone (by cases v <;> first | rfl | simp [Cell.okWide, Cell.ok, hu] at hok) (by simp [hu]) (by simp [hu])
    case string => exact hone (by cases v <;> first | rfl | simp [Cell.okWide, Cell.ok, hu] at hok) (by simp [hu]) (by simp [hu])
    case slice e => exact hone (by cases v <;> first | rfl | simp [Cell.okWide, Cell.ok, hu] at hok) (by simp [hu]) (by simp [hu])
    all_goals (cases d <;> simp [flatT, hu] at hf)

theorem args_enc {d base : Nat} : ∀ {ts : List TypeId} {vs : List Value} {ds : List (DataW H)} {ps : List MemPlace}, DataW.TrodAll enc P W 0 sp true ts vs ds ps →
    (∀ (j : Nat) t v, ts[j]? = some t → vs[j]? = some v → Value.okWide P W .any base t v) → (∀ t ∈ ts, flatT P d t = true) → (∀ n ∈ DataW.weightsEach P ts ds, n ≤ 2 ^ 47) → ∃ ss, OKs W R0 ss vs ∧ RdA P d ts ss
  | [], vs, ds, ps, h, _, _, _ => by
    obtain ⟨rfl, rfl, rfl⟩ := trodAll_nil h
    exact ⟨[], ⟨VRs.nil, trivial⟩, trivial⟩
  | t :: ts, vs, ds, ps, h, hv, hf, hw => by
    obtain ⟨v, vs', d', ds', p, q, rfl, rfl, rfl, h1, h2⟩ := trodAll_cons h
    obtain ⟨s, g1, g2⟩ := arg_enc (hf t (by simp)) (hv 0 t v rfl rfl) h1 (fun n hn => hw n (by simp [DataW.weightsEach, hn]))
    obtain ⟨ss, g3, g4⟩ := args_enc h2 (fun j t v e1 e2 => hv (j + 1) t v (by simpa using e1) (by simpa using e2)) (fun t ht => hf t (by simp [ht])) (fun n hn => hw n (by simp [DataW.weightsEach, hn]))
    exact ⟨s :: ss, ⟨VRs.cons g1.1 g3.1, g1.2, g3.2⟩, g2, g4⟩

theorem trodAll_below {W' : World} (hl : laidOutB P = true) (hb : Below W.heap.size W W') : ∀ {ts : List TypeId} {vs : List Value} {ds : List (DataW H)} {ps : List MemPlace}, (∀ t ∈ ts, P.readableRec t = true ∧ t < P.types.size) →
    DataW.TrodAll enc P W 0 (fun _ => true) true ts vs ds ps → (∀ x ∈ ps, x.block < W.heap.size) → DataW.TrodAll enc P W' 0 (fun b => decide (b < W.heap.size)) true ts vs ds ps
  | [], vs, ds, ps, _, h, _ => by
    obtain ⟨rfl, rfl, rfl⟩ := trodAll_nil h
    exact trodAll_mk0
  | t :: ts, vs, ds, ps, ht, h, hlt => by
    obtain ⟨v, vs', d', ds', p, q, rfl, rfl, rfl, h1, h2⟩ := trodAll_cons h
    refine ⟨p, q, Below.trod hl (ht t (by simp)).1 (ht t (by simp)).2 h1 hb (fun x hx => hlt x (by simp [hx])), trodAll_below hl hb (fun t h => ht t (by simp [h])) h2 (fun x hx => hlt x (by simp [hx])), rfl⟩
end

/-- The row's contract, from the shadow. -/
theorem lifted {C : Checked} {os : Os} {H : Type} {enc : TypeId × Value → H} {f : FuncId} {fn : Func} {s : ChangeSpec} {conds : List PathCond} {apart fresh handsOn : Bool} {tb : TypeId} (d : Nat)
    (own : ownKnob C.prog.godebug = none) (started : os.Started) (noInit : C.prog.inits.idxOf? f = none) (hfn : C.prog.funcs[f]? = some fn)
    (witness : ∃ (w : World) (tape : Tape) (i : Input), w.os = os ∧ (w.forCall tape i).Shaped C.prog ∧ i.vars = [] ∧ Input.okWide C.prog (w.forCall tape i) .any w.heap.size f i ∧
      s.pre6 enc C.prog fn conds apart (w.forCall tape i).memory i.args ∧ Assume.holds {} C.prog (lone (Frame.enter C.prog f i.args .normal) [] (w.forCall tape i)))
    (laid : laidOutB C.prog = true) (hm : C.prog.follows .mixedOrders = true) (hvars : s.vars = []) (hret : fn.resultTypes = #[tb]) (hbool : C.prog.underlying tb = some .bool)
    (hspec : ∀ ds : List (DataW H), ds.length = fn.params.size → s.fn H ds = { results := [.lit (.bool true)], args := ds })
    (hpar : fn.params.toList.all (fun t => flatT C.prog d t && C.prog.readableRec t && decide (t < C.prog.types.size)) = true)
    (E : Env) (he : ∀ W, EnvOK C.prog W E) (walk : ∀ ss, RdA C.prog d fn.params.toList ss → ∃ n σ', call E n f ss St.empty = some (.sc (.bool true), σ')) :
    ReturnsInHanded {} C os f .any (s.pre6 enc C.prog fn conds apart) (s.post enc C.prog fn apart fresh handsOn false) := by
  have hp : ∀ t ∈ fn.params.toList, flatT C.prog d t = true ∧ C.prog.readableRec t = true ∧ t < C.prog.types.size := fun t ht => by
    have := List.all_eq_true.1 hpar t ht
    simp only [Bool.and_eq_true, decide_eq_true_eq] at this
    exact ⟨this.1.1, this.1.2, this.2⟩
  refine returnsInHanded_of_change_sized own started noInit hfn witness ?_
  intro W base args ds gs before hval hW hcnd hwts _
  have hW' := hW
  obtain ⟨p, q, hA, hV, rfl, hfz, hnd⟩ := hW
  rw [hvars] at hV
  obtain ⟨rfl, rfl⟩ := trodVars_none hV
  have hlen : ds.length = fn.params.size := by
    have key : ∀ {ts : List TypeId} {vs : List Value} {ds : List (DataW H)} {ps : List MemPlace}, DataW.TrodAll enc C.prog W 0 (fun _ => true) true ts vs ds ps → ds.length = ts.length := by
      intro ts
      induction ts with
      | nil => intro vs ds ps h; obtain ⟨rfl, rfl, rfl⟩ := trodAll_nil h; rfl
      | cons t ts ih =>
        intro vs ds ps h
        obtain ⟨v, vs', d', ds', p, q, rfl, rfl, rfl, h1, h2⟩ := trodAll_cons h
        simp [ih h2]
    simpa using key hA
  obtain ⟨ss, hs1, hs2⟩ := args_enc (d := d) (base := base) hA (fun j t v e1 e2 => hval j t v (by simpa using e1) (by simpa using e2)) (fun t ht => (hp t ht).1) (fun n hn => by
    have hvt : s.plain.varTypes C.prog = [] := by simp [ChangeSpec.plain, DataSpec.varTypes, hvars]
    rw [hvt] at hwts
    simp only [List.append_nil] at hwts
    have := List.all_eq_true.1 hwts n hn
    have h2 := reachBytes_lt
    simp only [decide_eq_true_eq] at this
    omega)
  obtain ⟨n, σ', hcall⟩ := walk ss hs2
  refine (law_calls (he W) hm hs1 hcall).mono fun e W' ⟨he', hb⟩ => ?_
  subst he'
  have hlt : ∀ x ∈ p ++ [], x.block < W.heap.size := fun x hx => by have := hW'.lt x hx; simpa using this
  refine ⟨.bool true, rfl, ?_⟩
  have hsp := hspec ds hlen
  refine ⟨ds, [], p ++ [], [], p, [], hW', ?_, ?_, ?_, hb.frame _, fun h => by cases h⟩
  · rw [List.append_nil, hsp, hret]
    exact ⟨[], [], ⟨1, by unfold DataW.trod; simp [Value.cells, hbool]⟩, rfl, rfl⟩
  · rw [List.append_nil, hsp]
    exact trodAll_below laid hb (fun t ht => (hp t ht).2) hA (fun x hx => hlt x (by simpa using hx))
  · rw [hvars]
    rw [List.append_nil, hsp]
    rfl
end Go.Proofs.Ytojjhcgbbmknmaa.Sh

/- More fuel changes nothing. -/
namespace Go.Proofs.Ytojjhcgbbmknmaa.Sh
set_option linter.unusedSimpArgs false
set_option linter.unusedVariables false
open Go

section
variable {E : Env}

theorem exec_seq (n : Nat) (a b : SC) (t : Tr SV) (σ : St) : exec E (n + 1) (.seq a b) t σ = (match exec E n a t σ with
      | some (.normal, t1, σ1) => exec E n b t1 σ1
      | r => r) := by simp only [exec] <;> rfl
theorem exec_cond (n : Nat) (c : Opd) (a b : SC) (t : Tr SV) (σ : St) : exec E (n + 1) (.cond c a b) t σ = (match c.ev t with
      | .sc (.bool true) => exec E n a t σ
      | .sc (.bool false) => exec E n b t σ
      | _ => none) := by simp only [exec] <;> rfl
theorem exec_block (n id : Nat) (b : SC) (t : Tr SV) (σ : St) : exec E (n + 1) (.block id b) t σ = (match exec E n b t σ with
      | some (.exit i, t1, σ1) => some (bif Nat.beq i id then .normal else .exit i, t1, σ1)
      | r => r) := by simp only [exec] <;> rfl
theorem exec_loop (n : Nat) (b : SC) (t : Tr SV) (σ : St) : exec E (n + 1) (.loop b) t σ = (match exec E n b t σ with
      | some (.normal, t1, σ1) => exec E n (.loop b) t1 σ1
      | r => r) := by simp only [exec] <;> rfl
theorem exec_reg (n : Nat) (ss : List Step) (t : Tr SV) (σ : St) : exec E (n + 1) (.reg ss) t σ = (match steps E n ss t σ with
      | some (t1, σ1) => some (.normal, t1, σ1)
      | none => none) := by simp only [exec] <;> rfl
theorem exec_rng (n : Nat) (f : Opd) (ps : List Nat) (as body : SC) (t : Tr SV) (σ : St) : exec E (n + 1) (.rng f ps as body) t σ = (match f.ev t with
      | .fn g first cap => (match call E n g (first ++ [.yld σ.next] ++ cap) (σ.push (.loop t ps as body .ready none)) with
        | some (_, σ1) => (match σ1.get σ.next with
          | some (.loop _ _ _ _ .busy _) => none
          | some (.loop _ _ _ _ _ none) => some (.normal, t, σ1.set σ.next .dead)
          | some (.loop _ _ _ _ _ (some .ret)) => some (.ret, t, σ1.set σ.next .dead)
          | some (.loop _ _ _ _ _ (some (.exit i))) => some (.exit i, t, σ1.set σ.next .dead)
          | _ => none)
        | none => none)
      | _ => none) := by simp only [exec] <;> rfl
theorem steps_cons (n : Nat) (s : Step) (ss : List Step) (t : Tr SV) (σ : St) : steps E (n + 1) (s :: ss) t σ = (match wantedS t s.guard with
      | some true => (match one E n s.op t σ with
        | some (v, σ1) => bif recheck t σ1 s.re then steps E n ss (putD t s.dst v) σ1 else none
        | none => none)
      | some false => steps E n ss (putD t s.dst .undef) σ
      | none => none) := by simp only [steps] <;> rfl
theorem callV_eq (n : Nat) (f : SV) (args : List SV) (σ : St) : callV E (n + 1) f args σ = (match f with
    | .fn f first cap => call E n f (first ++ args ++ cap) σ
    | .yld l => round E n l args σ
    | _ => none) := by simp only [callV] <;> rfl
theorem call_eq (n f : Nat) (args : List SV) (σ : St) : call E (n + 1) f args σ = (match E.ext f with
    | some g => g args σ
    | none => match E.fn f with
      | some fn => bif Nat.beq args.length fn.np then
          (match exec E n fn.body (Tr.fill .nil 0 args) σ with
          | some (.normal, t1, σ1) => (resultsSV t1 σ1 fn.results).map fun v => (v, σ1)
          | some (.ret, t1, σ1) => (resultsSV t1 σ1 fn.results).map fun v => (v, σ1)
          | _ => none) else none
      | none => none) := by simp only [call] <;> rfl
theorem round_eq (n l : Nat) (args : List SV) (σ : St) : round E (n + 1) l args σ = (match σ.get l with
    | some (.loop t ps as body .ready none) => bif Nat.beq args.length ps.length then
        (match exec E n as (setMany t ps args) σ with
        | some (.normal, t1, σ1) => (match σ1.get l with
          | some (.loop t2 ps2 as2 body2 .ready none) =>
            (match exec E n body t1 (σ1.set l (.loop t2 ps2 as2 body2 .busy none)) with
            | some (ex, _, σ2) => (match σ2.get l with
              | some (.loop t3 ps3 as3 body3 _ _) => (match ex with
                | .normal => some (.bool true, σ2.set l (.loop t3 ps3 as3 body3 .ready none))
                | .ret => some (.bool false, σ2.set l (.loop t3 ps3 as3 body3 .done (some .ret)))
                | .exit i => some (.bool false, σ2.set l (.loop t3 ps3 as3 body3 .done (some (.exit i)))))
              | _ => none)
            | none => none)
          | _ => none)
        | _ => none) else none
    | _ => none) := by simp only [round] <;> rfl

structure MonoAt (E : Env) (n : Nat) : Prop where
  exec : ∀ c t σ r, exec E n c t σ = some r → exec E (n + 1) c t σ = some r
  steps : ∀ ss t σ r, steps E n ss t σ = some r → steps E (n + 1) ss t σ = some r
  one : ∀ o t σ r, one E n o t σ = some r → one E (n + 1) o t σ = some r
  callV : ∀ f args σ r, callV E n f args σ = some r → callV E (n + 1) f args σ = some r
  call : ∀ f args σ r, call E n f args σ = some r → call E (n + 1) f args σ = some r
  round : ∀ l args σ r, round E n l args σ = some r → round E (n + 1) l args σ = some r

theorem mono_all : ∀ n, MonoAt E n := by
  intro n
  induction n with
  | zero =>
    refine ⟨fun c t σ r h => ?_, fun ss t σ r h => ?_, fun o t σ r h => ?_, fun f args σ r h => ?_, fun f args σ r h => ?_, fun l args σ r h => ?_⟩
    · simp [exec] at h
    · simp [steps] at h
    · simp [one] at h
    · simp [callV] at h
    · simp [call] at h
    · simp [round] at h
  | succ n ih =>
    refine ⟨fun c t σ r h => ?_, fun ss t σ r h => ?_, fun o t σ r h => ?_, fun f args σ r h => ?_, fun f args σ r h => ?_, fun l args σ r h => ?_⟩
    · cases c with
      | skip => exact h
      | exit _ => exact h
      | ret => exact h
      | bad => exact h
      | seq a b =>
        rw [exec_seq] at h ⊢
        cases ha : exec E n a t σ with
        | none => simp [ha] at h
        | some x =>
          obtain ⟨ex, t1, σ1⟩ := x
          rw [ih.exec _ _ _ _ ha]
          rw [ha] at h
          cases ex with
          | normal => exact ih.exec _ _ _ _ h
          | exit _ => exact h
          | ret => exact h
      | cond c a b =>
        rw [exec_cond] at h ⊢
        split at h
        · exact ih.exec _ _ _ _ h
        · exact ih.exec _ _ _ _ h
        · exact h
      | block id b =>
        rw [exec_block] at h ⊢
        cases ha : exec E n b t σ with
        | none => simp [ha] at h
        | some x =>
          rw [ih.exec _ _ _ _ ha]
          rw [ha] at h
          exact h
      | loop b =>
        rw [exec_loop] at h ⊢
        cases ha : exec E n b t σ with
        | none => simp [ha] at h
        | some x =>
          obtain ⟨ex, t1, σ1⟩ := x
          rw [ih.exec _ _ _ _ ha]
          rw [ha] at h
          cases ex with
          | normal => exact ih.exec _ _ _ _ h
          | exit _ => exact h
          | ret => exact h
      | reg ss =>
        rw [exec_reg] at h ⊢
        cases ha : steps E n ss t σ with
        | none => simp [ha] at h
        | some x =>
          rw [ih.steps _ _ _ _ ha]
          rw [ha] at h
          exact h
      | rng f ps as body =>
        rw [exec_rng] at h ⊢
        split at h
        · rename_i g first cap e
          cases ha : call E n g (first ++ [.yld σ.next] ++ cap) (σ.push (.loop t ps as body .ready none)) with
          | none => rw [ha] at h; cases h
          | some x =>
            rw [ih.call _ _ _ _ ha]
            rw [ha] at h
            exact h
        · exact h
    · cases ss with
      | nil => exact h
      | cons s ss =>
        rw [steps_cons] at h ⊢
        split at h
        · rename_i hw
          cases ha : one E n s.op t σ with
          | none => simp [ha] at h
          | some x =>
            obtain ⟨v, σ1⟩ := x
            rw [ih.one _ _ _ _ ha]
            rw [ha] at h
            simp only at h ⊢
            cases hre : recheck t σ1 s.re with
            | false => rw [hre] at h; exact h
            | true => rw [hre] at h; exact ih.steps _ _ _ _ h
        · exact ih.steps _ _ _ _ h
        · exact h
    · by_cases hso : ∃ f l, o = .call f l
      · obtain ⟨f, l, rfl⟩ := hso
        exact ih.callV _ _ _ _ h
      · have : ∀ m, one E (m + 1) o t σ = sop o t σ := fun m => by
          cases o <;> first | rfl | exact absurd ⟨_, _, rfl⟩ hso
        rw [this] at h ⊢; exact h
    · rw [callV_eq] at h ⊢
      split at h
      · exact ih.call _ _ _ _ h
      · exact ih.round _ _ _ _ h
      · exact h
    · rw [call_eq] at h ⊢
      split at h
      · exact h
      · split at h
        · rename_i fn hfn
          cases hb : Nat.beq args.length fn.np with
          | false => rw [hb] at h; exact h
          | true =>
            rw [hb] at h
            simp only [cond_true] at h ⊢
            cases ha : exec E n fn.body (Tr.fill .nil 0 args) σ with
            | none => simp [ha] at h
            | some x =>
              rw [ih.exec _ _ _ _ ha]
              rw [ha] at h
              exact h
        · exact h
    · rw [round_eq] at h ⊢
      split at h
      · rename_i t0 ps as body hg
        cases hb : Nat.beq args.length ps.length with
        | false => rw [hb] at h; exact h
        | true =>
          rw [hb] at h
          simp only [cond_true] at h ⊢
          cases ha : exec E n as (setMany t0 ps args) σ with
          | none => simp [ha] at h
          | some x =>
            obtain ⟨ex, t1, σ1⟩ := x
            rw [ih.exec _ _ _ _ ha]
            rw [ha] at h
            cases ex with
            | exit _ => exact h
            | ret => exact h
            | normal =>
              simp only at h ⊢
              split at h
              · rename_i hg1
                split at h
                · rename_i hx2
                  rw [ih.exec _ _ _ _ hx2]
                  exact h
                · cases h
              · cases h
      · exact h

theorem mono_exec {n m : Nat} (h : n ≤ m) {c : SC} {t : Tr SV} {σ : St} {r} (k : exec E n c t σ = some r) : exec E m c t σ = some r := by
  induction h with
  | refl => exact k
  | step _ ih => exact (mono_all _).exec _ _ _ _ ih
theorem mono_steps {n m : Nat} (h : n ≤ m) {c : List Step} {t : Tr SV} {σ : St} {r} (k : steps E n c t σ = some r) : steps E m c t σ = some r := by
  induction h with
  | refl => exact k
  | step _ ih => exact (mono_all _).steps _ _ _ _ ih
theorem mono_call {n m : Nat} (h : n ≤ m) {f : Nat} {args : List SV} {σ : St} {r} (k : call E n f args σ = some r) : call E m f args σ = some r := by
  induction h with
  | refl => exact k
  | step _ ih => exact (mono_all _).call _ _ _ _ ih
theorem mono_callV {n m : Nat} (h : n ≤ m) {f : SV} {args : List SV} {σ : St} {r} (k : callV E n f args σ = some r) : callV E m f args σ = some r := by
  induction h with
  | refl => exact k
  | step _ ih => exact (mono_all _).callV _ _ _ _ ih
theorem mono_round {n m : Nat} (h : n ≤ m) {f : Nat} {args : List SV} {σ : St} {r} (k : round E n f args σ = some r) : round E m f args σ = some r := by
  induction h with
  | refl => exact k
  | step _ ih => exact (mono_all _).round _ _ _ _ ih
end
end Go.Proofs.Ytojjhcgbbmknmaa.Sh
