/- Regions that draw their order: what an operation of the shadow hangs on. -/
import Derived.Test.YtojjhcgbbmknmaaShComp
namespace Go.Proofs.Ytojjhcgbbmknmaa.Sh
set_option linter.unusedSimpArgs false
set_option linter.unusedVariables false
open Go

section
variable {t t' : Tr SV} {σ σ' : St} {v : SV} {so : SOp}

def Agree (t t' : Tr SV) (l : List Nat) : Prop := ∀ i ∈ l, getT t i = getT t' i
theorem Agree.left {a b : List Nat} (h : Agree t t' (a ++ b)) : Agree t t' a := fun i hi => h i (List.mem_append_left _ hi)
theorem Agree.right {a b : List Nat} (h : Agree t t' (a ++ b)) : Agree t t' b := fun i hi => h i (List.mem_append_right _ hi)
theorem opd_congr {x : Opd} (h : Agree t t' (opdTmps x)) : x.ev t = x.ev t' := by
  cases x with
  | t n => exact h n (by simp [opdTmps])
  | k v => rfl
theorem opds_congr : ∀ {l : List Opd}, Agree t t' (l.flatMap opdTmps) → l.map (·.ev t) = l.map (·.ev t')
  | [], _ => rfl
  | x :: r, h => by
    rw [List.flatMap_cons] at h
    simp only [List.map_cons, opd_congr h.left, opds_congr h.right]
theorem loI_congr {x : Option Opd} (h : Agree t t' (optTmps x)) : loI t x = loI t' x := by
  cases x with
  | none => rfl
  | some x => simp only [loI, opd_congr (show Agree t t' (opdTmps x) from h)]
theorem hiI_congr {n : Nat} {x : Option Opd} (h : Agree t t' (optTmps x)) : hiI n t x = hiI n t' x := by
  cases x with
  | none => rfl
  | some x => simp only [hiI, opd_congr (show Agree t t' (opdTmps x) from h)]
theorem bounds_congr {n : Nat} {x y : Option Opd} (h : Agree t t' (optTmps x)) (k : Agree t t' (optTmps y)) : bounds n t x y = bounds n t' x y := by
  simp only [bounds, loI_congr h, hiI_congr k]
theorem parts_congr : ∀ {l : List (Nat × Nat × Opd)} {cs : List SV}, Agree t t' (l.flatMap fun p => opdTmps p.2.2) → fillParts t cs l = fillParts t' cs l
  | [], _, _ => rfl
  | (o, n, x) :: r, cs, h => by
    rw [List.flatMap_cons] at h
    simp only [fillParts, opd_congr (x := x) h.left]
    split
    · exact parts_congr h.right
    · rfl

theorem sop_congr (h : Agree t t' (sopTmps so)) : sop so t σ = sop so t' σ := by
  cases so with
  | mv x => simp only [sop, opd_congr (x := x) h]
  | box x => simp only [sop, opd_congr (x := x) h]
  | load _ _ x => simp only [sop, opd_congr (x := x) h]
  | un _ x => simp only [sop, opd_congr (x := x) h]
  | conv _ x => simp only [sop, opd_congr (x := x) h]
  | fieldA _ x => simp only [sop, opd_congr (x := x) h]
  | field _ _ _ x => simp only [sop, opd_congr (x := x) h]
  | extract x _ => simp only [sop, opd_congr (x := x) h]
  | lenSl x => simp only [sop, opd_congr (x := x) h]
  | lenMap x => simp only [sop, opd_congr (x := x) h]
  | nilchk x => simp only [sop, opd_congr (x := x) h]
  | pick a b c => simp only [sop, opd_congr (x := a) h.left.left, opd_congr (x := b) h.left.right, opd_congr (x := c) h.right]
  | mapset a b c => simp only [sop, opd_congr (x := a) h.left.left, opd_congr (x := b) h.left.right, opd_congr (x := c) h.right]
  | alloc _ => rfl
  | mkmap => rfl
  | lenArr _ => rfl
  | build zs l => simp only [sop, parts_congr (l := l) h]
  | buildSl _ zs _ l => simp only [sop, parts_congr (l := l) h]
  | store _ a b => simp only [sop, opd_congr (x := a) h.left, opd_congr (x := b) h.right]
  | bin _ _ _ a b => simp only [sop, opd_congr (x := a) h.left, opd_congr (x := b) h.right]
  | mksl _ _ _ a b => simp only [sop, opd_congr (x := a) h.left, opd_congr (x := b) h.right]
  | indexArr _ _ a b => simp only [sop, opd_congr (x := a) h.left, opd_congr (x := b) h.right]
  | indexSl _ a b => simp only [sop, opd_congr (x := a) h.left, opd_congr (x := b) h.right]
  | index _ _ _ a b => simp only [sop, opd_congr (x := a) h.left, opd_congr (x := b) h.right]
  | append _ _ _ a b => simp only [sop, opd_congr (x := a) h.left, opd_congr (x := b) h.right]
  | lookup _ _ a b => simp only [sop, opd_congr (x := a) h.left, opd_congr (x := b) h.right]
  | mkfn _ a b => simp only [sop, opds_congr (l := a) h.left, opds_congr (l := b) h.right]
  | slc _ x a b => simp only [sop, opd_congr (x := x) h.left.left, bounds_congr (x := a) (y := b) h.left.right h.right]
  | slcArr _ _ x a b => simp only [sop, opd_congr (x := x) h.left.left, bounds_congr (x := a) (y := b) h.left.right h.right]
  | call f l => rfl
  | bad => rfl
  | minmax _ a b => simp only [sop, opd_congr (x := a) h.left, opd_congr (x := b) h.right]
  | copy _ a b => simp only [sop, opd_congr (x := a) h.left, opd_congr (x := b) h.right]
  | idxStr a b => simp only [sop, opd_congr (x := a) h.left, opd_congr (x := b) h.right]
  | clear _ _ a => simp only [sop, opd_congr (x := a) h]

theorem one_congr {E : Env} {n : Nat} (h : Agree t t' (sopTmps so)) : one E n so t σ = one E n so t' σ := by
  cases n with
  | zero => rfl
  | succ n =>
    by_cases hso : ∃ f l, so = .call f l
    · obtain ⟨f, l, rfl⟩ := hso
      simp only [one, opd_congr (x := f) h.left, opds_congr (l := l) h.right]
    · have : ∀ t, one E (n + 1) so t σ = sop so t σ := fun t => by
        cases so <;> first | rfl | exact absurd ⟨_, _, rfl⟩ hso
      rw [this, this]; exact sop_congr h
theorem wantedS_congr {g : Option (Nat × Bool)} (h : ∀ i b, g = some (i, b) → getT t i = getT t' i) : wantedS t g = wantedS t' g := by
  cases g with
  | none => rfl
  | some p => simp only [wantedS, h p.1 p.2 rfl]
theorem stepTmps_op {s : Step} (h : Agree t t' (stepTmps s)) : Agree t t' (sopTmps s.op) := fun i hi => h i (List.mem_append_right _ hi)
theorem stepTmps_guard {s : Step} (h : Agree t t' (stepTmps s)) : wantedS t s.guard = wantedS t' s.guard :=
  wantedS_congr fun i b e => h i (by simp [stepTmps, e])

/-- Kinds. -/
theorem one_sop {E : Env} {n : Nat} (hk : sopKd so ≠ .big) (h : one E n so t σ = some (v, σ')) : sop so t σ = some (v, σ') := by
  cases n with
  | zero => simp [one] at h
  | succ n => cases so <;> first | exact h | simp [sopKd] at hk

theorem map_inv {α : Type} {x : Option α} {f : α → SV × St} (h : x.map f = some (v, σ')) : ∃ u, x = some u ∧ f u = (v, σ') := Option.map_eq_some_iff.1 h

theorem pure_form (hk : sopKd so = .pure) (σ σ2 : St) : sop so t σ = (sop so t σ2).map (fun p => (p.1, σ)) := by
  cases so <;> simp only [sopKd, reduceCtorEq] at hk <;> simp only [sop] <;> (repeat' split) <;>
    first
    | rfl
    | (simp only [Option.map_map, Function.comp_def]; done)
    | (rename_i a b _; cases hb : Nat.beq _ _ <;> simp [Option.map_map, Function.comp_def, hb]; done)
    | skip
theorem pure_any (hk : sopKd so = .pure) (h : sop so t σ = some (v, σ')) : σ' = σ ∧ ∀ σ2, sop so t σ2 = some (v, σ2) := by
  have e := pure_form (t := t) hk σ σ
  rw [h] at e
  simp only [Option.map_some, Option.some.injEq, Prod.mk.injEq, true_and] at e
  refine ⟨e, fun σ2 => ?_⟩
  rw [pure_form hk σ2 σ, h]; rfl

theorem alloc_push (hk : sopKd so = .alloc) (h : sop so t σ = some (v, σ')) : ∃ ob, σ' = σ.push ob := by
  cases so <;> simp only [sopKd, reduceCtorEq] at hk <;> simp only [sop] at h
  all_goals (repeat' split at h)
  all_goals first | (cases h; done) | (simp only [Option.some.injEq, Prod.mk.injEq] at h; exact ⟨_, h.2.symm⟩) | (obtain ⟨u, h1, h2⟩ := map_inv h; simp only [Prod.mk.injEq] at h2; exact ⟨_, h2.2.symm⟩)

theorem get_push_old {i : Nat} {o ob : Ob} (hf : ∀ i, σ.next ≤ i → σ.get i = none) (h : σ.get i = some o) : (σ.push ob).get i = some o := by
  show (Tr.set _ _ _).get i = _
  rw [Tr.get_set]
  by_cases hi : i = σ.next
  · rw [hf i (by omega)] at h; cases h
  · rw [if_neg hi]; exact h
theorem cells_push_old {i : Nat} {cs : List SV} {ob : Ob} (hf : ∀ i, σ.next ≤ i → σ.get i = none) (h : cellsOf σ i = some cs) : cellsOf (σ.push ob) i = some cs := by
  unfold cellsOf at h ⊢
  split at h
  · rename_i e; rw [get_push_old hf e]; exact h
  · cases h
theorem load_push {ag : Bool} {n : Nat} {x : SV} {ob : Ob} (hf : ∀ i, σ.next ≤ i → σ.get i = none) (h : loadSV σ ag n x = some v) : loadSV (σ.push ob) ag n x = some v := by
  cases x <;> simp only [loadSV] at h ⊢ <;> try (first | exact h | cases h; done)
  obtain ⟨cs, h1, h2⟩ := Option.bind_eq_some_iff.1 h
  rw [cells_push_old hf h1]; exact h2
theorem reads_push (hk : sopKd so = .reads) (h : sop so t σ = some (v, σ')) : σ' = σ ∧ ((∀ i, σ.next ≤ i → σ.get i = none) → ∀ ob, sop so t (σ.push ob) = some (v, σ.push ob)) := by
  cases so <;> simp only [sopKd, reduceCtorEq] at hk
  case load ag n a =>
    simp only [sop] at h ⊢
    obtain ⟨u, h1, h2⟩ := map_inv h
    cases h2
    exact ⟨rfl, fun hf ob => by rw [load_push hf h1]; rfl⟩
  case slcArr n sz x lo hi =>
    simp only [sop] at h ⊢
    split at h
    · obtain ⟨cs, h1, h2⟩ := Option.bind_eq_some_iff.1 h
      split at h2
      · rename_i hle
        obtain ⟨u, h3, h4⟩ := map_inv h2
        cases h4
        refine ⟨rfl, fun hf ob => ?_⟩
        rw [cells_push_old hf h1]
        simp only [Option.bind_some, if_pos hle, h3]; rfl
      · cases h2
    · cases h
  case lenMap x =>
    simp only [sop] at h ⊢
    split at h
    · cases h; exact ⟨rfl, fun _ _ => rfl⟩
    · split at h
      · rename_i e
        cases h
        exact ⟨rfl, fun hf ob => by rw [get_push_old hf e]⟩
      · cases h
    · cases h
  case lookup z ok m k =>
    simp only [sop] at h ⊢
    split at h
    · split at h
      · split at h
        · rename_i hall
          split at h
          · cases h; exact ⟨rfl, fun _ _ => by simp [*]⟩
          · cases h; exact ⟨rfl, fun _ _ => by simp [*]⟩
        · cases h
      · split at h
        · rename_i e
          split at h
          · rename_i hall
            split at h
            · rename_i hfk; cases h; exact ⟨rfl, fun hf ob => by rw [get_push_old hf e]; simp only [if_pos hall, hfk]⟩
            · rename_i hfk; cases h; exact ⟨rfl, fun hf ob => by rw [get_push_old hf e]; simp only [if_pos hall, hfk]⟩
          · cases h
        · cases h
      · cases h
    · cases h

theorem beq_true {a b : Nat} (h : Nat.beq a b = true) : a = b := Nat.eq_of_beq_eq_true h
mutual
theorem same_eq : ∀ {a b : SV}, a.same b = true → a = b
  | .sc a, b, h => by cases b <;> simp_all [SV.same]
  | .agg a, b, h => by
    cases b <;> simp only [SV.same, Bool.false_eq_true] at h
    rw [sames_eq h]
  | .tup a, b, h => by
    cases b <;> simp only [SV.same, Bool.false_eq_true] at h
    rw [sames_eq h]
  | .sl .., b, h => by
    cases b <;> simp only [SV.same, Bool.false_eq_true, Bool.and_eq_true] at h
    rw [beq_true h.1.1.1, beq_true h.1.1.2, beq_true h.1.2, beq_true h.2]
  | .lst .., b, h => by
    cases b <;> simp only [SV.same, Bool.false_eq_true, Bool.and_eq_true] at h
    rw [beq_true h.1.1, beq_true h.1.2, sames_eq h.2]
  | .ptr .., b, h => by
    cases b <;> simp only [SV.same, Bool.false_eq_true, Bool.and_eq_true] at h
    rw [beq_true h.1, beq_true h.2]
  | .iptr .., b, h => by
    cases b <;> simp only [SV.same, Bool.false_eq_true, Bool.and_eq_true] at h
    rw [sames_eq h.1, beq_true h.2]
  | .fn .., b, h => by
    cases b <;> simp only [SV.same, Bool.false_eq_true, Bool.and_eq_true] at h
    rw [beq_true h.1.1, sames_eq h.1.2, sames_eq h.2]
  | .yld _, b, h => by
    cases b <;> simp only [SV.same, Bool.false_eq_true] at h
    rw [beq_true h]
  | .mp _, b, h => by
    cases b <;> simp only [SV.same, Bool.false_eq_true] at h
    rw [beq_true h]
theorem sames_eq : ∀ {a b : List SV}, sames a b = true → a = b
  | [], b, h => by cases b <;> simp_all [sames]
  | x :: r, b, h => by
    cases b with
    | nil => simp [sames] at h
    | cons y s =>
      simp only [sames, Bool.and_eq_true] at h
      rw [same_eq h.1, sames_eq h.2]
end
end

section
variable (E : Env)
/-- The run of steps, told step by step. -/
structure Trace (n : Nat) (ss : List Step) (T : Nat → Tr SV) (Z : Nat → St) (R : Nat → SV) : Prop where
  put : ∀ j s, ss[j]? = some s → T (j + 1) = putD (T j) s.dst (R j)
  run : ∀ j s, ss[j]? = some s → (wantedS (T j) s.guard = some true ∧ (∃ k, k < n ∧ one E k s.op (T j) (Z j) = some (R j, Z (j + 1))) ∧ recheck (T j) (Z (j + 1)) s.re = true) ∨
    (wantedS (T j) s.guard = some false ∧ R j = .undef ∧ Z (j + 1) = Z j)
variable {E}
theorem trace : ∀ {ss : List Step} {n : Nat} {t t' : Tr SV} {σ σ' : St}, steps E n ss t σ = some (t', σ') → ∃ T Z R, T 0 = t ∧ Z 0 = σ ∧ T ss.length = t' ∧ Z ss.length = σ' ∧ Trace E n ss T Z R
  | [], 0, t, t', σ, σ', h => by simp [steps] at h
  | [], n + 1, t, t', σ, σ', h => by
    simp only [steps, Option.some.injEq, Prod.mk.injEq] at h
    exact ⟨fun _ => t, fun _ => σ, fun _ => .undef, rfl, rfl, h.1, h.2, ⟨fun j s h => by simp at h, fun j s h => by simp at h⟩⟩
  | s :: ss, 0, t, t', σ, σ', h => by simp [steps] at h
  | s :: ss, n + 1, t, t', σ, σ', h => by
    have fin : ∀ (r : SV) (σ1 : St), steps E n ss (putD t s.dst r) σ1 = some (t', σ') →
        ((wantedS t s.guard = some true ∧ (∃ k, k < n + 1 ∧ one E k s.op t σ = some (r, σ1)) ∧ recheck t σ1 s.re = true) ∨ (wantedS t s.guard = some false ∧ r = .undef ∧ σ1 = σ)) →
        ∃ T Z R, T 0 = t ∧ Z 0 = σ ∧ T (s :: ss).length = t' ∧ Z (s :: ss).length = σ' ∧ Trace E (n + 1) (s :: ss) T Z R := by
      intro r σ1 h1 h2
      obtain ⟨T, Z, R, e1, e2, e3, e4, e5⟩ := trace h1
      refine ⟨fun j => match j with | 0 => t | j + 1 => T j, fun j => match j with | 0 => σ | j + 1 => Z j, fun j => match j with | 0 => r | j + 1 => R j, rfl, rfl, e3, e4, ⟨fun j x hx => ?_, fun j x hx => ?_⟩⟩
      · cases j with
        | zero => simp at hx; subst hx; exact e1
        | succ j => exact e5.put j x (by simpa using hx)
      · cases j with
        | zero =>
          simp at hx; subst hx
          show (wantedS t s.guard = some true ∧ (∃ k, k < n + 1 ∧ one E k s.op t σ = some (r, Z 0)) ∧ recheck t (Z 0) s.re = true) ∨ (wantedS t s.guard = some false ∧ r = .undef ∧ Z 0 = σ)
          rw [e2]; exact h2
        | succ j =>
          rcases e5.run j x (by simpa using hx) with ⟨g1, ⟨k, g2, g3⟩, g4⟩ | g
          · exact .inl ⟨g1, ⟨k, by omega, g3⟩, g4⟩
          · exact .inr g
    simp only [steps] at h
    split at h
    · rename_i hw
      split at h
      · rename_i v σ1 hone
        cases hre : recheck t σ1 s.re with
        | false => simp [hre] at h
        | true =>
          simp only [hre, cond_true] at h
          exact fin v σ1 h (.inl ⟨hw, ⟨n, by omega, hone⟩, hre⟩)
      · cases h
    · rename_i hw
      exact fin .undef σ h (.inr ⟨hw, rfl, rfl⟩)
    · cases h
end
end Go.Proofs.Ytojjhcgbbmknmaa.Sh
