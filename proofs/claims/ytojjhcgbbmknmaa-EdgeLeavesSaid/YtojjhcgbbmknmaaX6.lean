/- Several texts, merged: What code of the shadow comes to, without fuel: rules to rewrite by. And more. -/
import Derived.Test.YtojjhcgbbmknmaaX5
import Derived.Test.YtojjhcgbbmknmaaX4
import Derived.Test.YtojjhcgbbmknmaaX1
import Derived.Laws.BitsLemmas

/- What code of the shadow comes to, without fuel: rules to rewrite by. -/
namespace Go.Proofs.Ytojjhcgbbmknmaa.Sh
set_option linter.unusedSimpArgs false
set_option linter.unusedVariables false
open Go

section
variable (E : Env)
def WP (c : SC) (t : Tr SV) (σ : St) (Q : Ex → Tr SV → St → Prop) : Prop := ∃ n ex t' σ', exec E n c t σ = some (ex, t', σ') ∧ Q ex t' σ'
def WPS (ss : List Step) (t : Tr SV) (σ : St) (Q : Tr SV → St → Prop) : Prop := ∃ n t' σ', steps E n ss t σ = some (t', σ') ∧ Q t' σ'
def WPC (f : SV) (args : List SV) (σ : St) (Q : SV → St → Prop) : Prop := ∃ n v σ', callV E n f args σ = some (v, σ') ∧ Q v σ'
def WPF (f : Nat) (args : List SV) (σ : St) (Q : SV → St → Prop) : Prop := ∃ n v σ', call E n f args σ = some (v, σ') ∧ Q v σ'
def WPR (l : Nat) (args : List SV) (σ : St) (Q : SV → St → Prop) : Prop := ∃ n v σ', round E n l args σ = some (v, σ') ∧ Q v σ'
variable {E}
variable {t : Tr SV} {σ : St} {Q Q' : Ex → Tr SV → St → Prop}

theorem WP.mono {c : SC} (h : WP E c t σ Q) (k : ∀ ex t σ, Q ex t σ → Q' ex t σ) : WP E c t σ Q' := by
  obtain ⟨n, ex, t', σ', h1, h2⟩ := h
  exact ⟨n, ex, t', σ', h1, k _ _ _ h2⟩
theorem WPS.mono {ss : List Step} {Q Q' : Tr SV → St → Prop} (h : WPS E ss t σ Q) (k : ∀ t σ, Q t σ → Q' t σ) : WPS E ss t σ Q' := by
  obtain ⟨n, t', σ', h1, h2⟩ := h
  exact ⟨n, t', σ', h1, k _ _ h2⟩
theorem WPF.mono {f : Nat} {args : List SV} {Q Q' : SV → St → Prop} (h : WPF E f args σ Q) (k : ∀ v σ, Q v σ → Q' v σ) : WPF E f args σ Q' := by
  obtain ⟨n, t', σ', h1, h2⟩ := h
  exact ⟨n, t', σ', h1, k _ _ h2⟩
theorem WPC.mono {f : SV} {args : List SV} {Q Q' : SV → St → Prop} (h : WPC E f args σ Q) (k : ∀ v σ, Q v σ → Q' v σ) : WPC E f args σ Q' := by
  obtain ⟨n, t', σ', h1, h2⟩ := h
  exact ⟨n, t', σ', h1, k _ _ h2⟩
theorem WPR.mono {l : Nat} {args : List SV} {Q Q' : SV → St → Prop} (h : WPR E l args σ Q) (k : ∀ v σ, Q v σ → Q' v σ) : WPR E l args σ Q' := by
  obtain ⟨n, t', σ', h1, h2⟩ := h
  exact ⟨n, t', σ', h1, k _ _ h2⟩

theorem WP_skip : WP E .skip t σ Q ↔ Q .normal t σ := by
  constructor
  · rintro ⟨n, ex, t', σ', h, k⟩
    cases n with
    | zero => simp [exec] at h
    | succ n => simp only [exec, Option.some.injEq, Prod.mk.injEq] at h; obtain ⟨rfl, rfl, rfl⟩ := h; exact k
  · intro h; exact ⟨1, _, _, _, by simp only [exec], h⟩
theorem WP_exit {i : Nat} : WP E (.exit i) t σ Q ↔ Q (.exit i) t σ := by
  constructor
  · rintro ⟨n, ex, t', σ', h, k⟩
    cases n with
    | zero => simp [exec] at h
    | succ n => simp only [exec, Option.some.injEq, Prod.mk.injEq] at h; obtain ⟨rfl, rfl, rfl⟩ := h; exact k
  · intro h; exact ⟨1, _, _, _, by simp only [exec], h⟩
theorem WP_ret : WP E .ret t σ Q ↔ Q .ret t σ := by
  constructor
  · rintro ⟨n, ex, t', σ', h, k⟩
    cases n with
    | zero => simp [exec] at h
    | succ n => simp only [exec, Option.some.injEq, Prod.mk.injEq] at h; obtain ⟨rfl, rfl, rfl⟩ := h; exact k
  · intro h; exact ⟨1, _, _, _, by simp only [exec], h⟩

/-- What follows a piece of code. -/
def Then (next : Tr SV → St → Prop) (Q : Ex → Tr SV → St → Prop) : Ex → Tr SV → St → Prop
  | .normal, t, σ => next t σ
  | ex, t, σ => Q ex t σ
theorem Then_normal {next : Tr SV → St → Prop} : Then next Q .normal t σ ↔ next t σ := Iff.rfl
theorem Then_ret {next : Tr SV → St → Prop} : Then next Q .ret t σ ↔ Q .ret t σ := Iff.rfl
theorem Then_exit {i : Nat} {next : Tr SV → St → Prop} : Then next Q (.exit i) t σ ↔ Q (.exit i) t σ := Iff.rfl
def InBlock (id : Nat) (Q : Ex → Tr SV → St → Prop) : Ex → Tr SV → St → Prop
  | .exit i, t, σ => Q (bif Nat.beq i id then .normal else .exit i) t σ
  | ex, t, σ => Q ex t σ
theorem InBlock_normal {id : Nat} : InBlock id Q .normal t σ ↔ Q .normal t σ := Iff.rfl
theorem InBlock_ret {id : Nat} : InBlock id Q .ret t σ ↔ Q .ret t σ := Iff.rfl
theorem InBlock_exit {id i : Nat} : InBlock id Q (.exit i) t σ ↔ Q (bif Nat.beq i id then .normal else .exit i) t σ := Iff.rfl

theorem WP_seq {a b : SC} : WP E (.seq a b) t σ Q ↔ WP E a t σ (Then (fun t1 σ1 => WP E b t1 σ1 Q) Q) := by
  constructor
  · rintro ⟨n, ex, t', σ', h, k⟩
    cases n with
    | zero => simp [exec] at h
    | succ n =>
      rw [exec_seq] at h
      cases ha : exec E n a t σ with
      | none => simp [ha] at h
      | some x =>
        obtain ⟨ex1, t1, σ1⟩ := x
        rw [ha] at h
        refine ⟨n, ex1, t1, σ1, ha, ?_⟩
        cases ex1 with
        | normal => exact ⟨n, ex, t', σ', h, k⟩
        | exit i => simp only [Option.some.injEq, Prod.mk.injEq] at h; obtain ⟨rfl, rfl, rfl⟩ := h; exact k
        | ret => simp only [Option.some.injEq, Prod.mk.injEq] at h; obtain ⟨rfl, rfl, rfl⟩ := h; exact k
  · rintro ⟨n, ex, t1, σ1, h, k⟩
    cases ex with
    | normal =>
      obtain ⟨m, ex, t', σ', h2, k2⟩ := k
      refine ⟨max n m + 1, ex, t', σ', ?_, k2⟩
      rw [exec_seq, mono_exec (Nat.le_max_left n m) h]
      exact mono_exec (Nat.le_max_right n m) h2
    | exit i => exact ⟨n + 1, _, _, _, by rw [exec_seq, h], k⟩
    | ret => exact ⟨n + 1, _, _, _, by rw [exec_seq, h], k⟩

theorem WP_cond {c : Opd} {a b : SC} {x : Bool} (hc : c.ev t = .sc (.bool x)) : WP E (.cond c a b) t σ Q ↔ WP E (if x = true then a else b) t σ Q := by
  constructor
  · rintro ⟨n, ex, t', σ', h, k⟩
    cases n with
    | zero => simp [exec] at h
    | succ n =>
      rw [exec_cond, hc] at h
      cases x
      · exact ⟨n, _, _, _, h, k⟩
      · exact ⟨n, _, _, _, h, k⟩
  · rintro ⟨n, ex, t', σ', h, k⟩
    refine ⟨n + 1, ex, t', σ', ?_, k⟩
    rw [exec_cond, hc]
    cases x <;> exact h

theorem WP_block {id : Nat} {b : SC} : WP E (.block id b) t σ Q ↔ WP E b t σ (InBlock id Q) := by
  constructor
  · rintro ⟨n, ex, t', σ', h, k⟩
    cases n with
    | zero => simp [exec] at h
    | succ n =>
      rw [exec_block] at h
      cases ha : exec E n b t σ with
      | none => simp [ha] at h
      | some x =>
        obtain ⟨ex1, t1, σ1⟩ := x
        rw [ha] at h
        refine ⟨n, ex1, t1, σ1, ha, ?_⟩
        cases ex1 with
        | normal => simp only [Option.some.injEq, Prod.mk.injEq] at h; obtain ⟨rfl, rfl, rfl⟩ := h; exact k
        | exit i => simp only [Option.some.injEq, Prod.mk.injEq] at h; obtain ⟨rfl, rfl, rfl⟩ := h; exact k
        | ret => simp only [Option.some.injEq, Prod.mk.injEq] at h; obtain ⟨rfl, rfl, rfl⟩ := h; exact k
  · rintro ⟨n, ex, t1, σ1, h, k⟩
    cases ex with
    | normal => exact ⟨n + 1, _, _, _, by rw [exec_block, h], k⟩
    | exit i => exact ⟨n + 1, _, _, _, by rw [exec_block, h], k⟩
    | ret => exact ⟨n + 1, _, _, _, by rw [exec_block, h], k⟩

theorem WP_loop {b : SC} : WP E (.loop b) t σ Q ↔ WP E b t σ (Then (fun t1 σ1 => WP E (.loop b) t1 σ1 Q) Q) := by
  constructor
  · rintro ⟨n, ex, t', σ', h, k⟩
    cases n with
    | zero => simp [exec] at h
    | succ n =>
      rw [exec_loop] at h
      cases ha : exec E n b t σ with
      | none => simp [ha] at h
      | some x =>
        obtain ⟨ex1, t1, σ1⟩ := x
        rw [ha] at h
        refine ⟨n, ex1, t1, σ1, ha, ?_⟩
        cases ex1 with
        | normal => exact ⟨n, ex, t', σ', h, k⟩
        | exit i => simp only [Option.some.injEq, Prod.mk.injEq] at h; obtain ⟨rfl, rfl, rfl⟩ := h; exact k
        | ret => simp only [Option.some.injEq, Prod.mk.injEq] at h; obtain ⟨rfl, rfl, rfl⟩ := h; exact k
  · rintro ⟨n, ex, t1, σ1, h, k⟩
    cases ex with
    | normal =>
      obtain ⟨m, ex, t', σ', h2, k2⟩ := k
      refine ⟨max n m + 1, ex, t', σ', ?_, k2⟩
      rw [exec_loop, mono_exec (Nat.le_max_left n m) h]
      exact mono_exec (Nat.le_max_right n m) h2
    | exit i => exact ⟨n + 1, _, _, _, by rw [exec_loop, h], k⟩
    | ret => exact ⟨n + 1, _, _, _, by rw [exec_loop, h], k⟩

/-- A loop by an invariant that is counted down. -/
theorem WP_loop_inv {b : SC} (I : Nat → Tr SV → St → Prop) (step : ∀ k t σ, I k t σ → WP E b t σ (Then (fun t1 σ1 => ∃ k', k' < k ∧ I k' t1 σ1) Q)) : ∀ {k : Nat} {t : Tr SV} {σ : St}, I k t σ → WP E (.loop b) t σ Q := by
  intro k
  induction k using Nat.strongRecOn with
  | _ k ih =>
    intro t σ h
    rw [WP_loop]
    refine (step k t σ h).mono fun ex t1 σ1 hq => ?_
    cases ex with
    | normal => obtain ⟨k', hlt, hi⟩ := hq; exact ih k' hlt hi
    | exit i => exact hq
    | ret => exact hq

theorem WP_reg {ss : List Step} : WP E (.reg ss) t σ Q ↔ WPS E ss t σ (fun t1 σ1 => Q .normal t1 σ1) := by
  constructor
  · rintro ⟨n, ex, t', σ', h, k⟩
    cases n with
    | zero => simp [exec] at h
    | succ n =>
      rw [exec_reg] at h
      cases ha : steps E n ss t σ with
      | none => simp [ha] at h
      | some x =>
        rw [ha] at h
        simp only [Option.some.injEq, Prod.mk.injEq] at h; obtain ⟨rfl, rfl, rfl⟩ := h
        exact ⟨n, _, _, ha, k⟩
  · rintro ⟨n, t1, σ1, h, k⟩
    exact ⟨n + 1, _, _, _, by rw [exec_reg, h], k⟩

/-- How a loop over a function is left. -/
def LeftBy (L : Nat) (t : Tr SV) (σ1 : St) (Q : Ex → Tr SV → St → Prop) : Prop :=
  match σ1.get L with
  | some (.loop _ _ _ _ st pend) => st ≠ .busy ∧ (match pend with
    | none => Q .normal t (σ1.set L .dead)
    | some .ret => Q .ret t (σ1.set L .dead)
    | some (.exit i) => Q (.exit i) t (σ1.set L .dead))
  | _ => False
theorem WP_rng {f : Opd} {ps : List Nat} {as body : SC} {g : Nat} {first cap : List SV} (hf : f.ev t = .fn g first cap) (h : WPF E g (first ++ [.yld σ.next] ++ cap) (σ.push (.loop t ps as body .ready none)) (fun _ σ1 => LeftBy σ.next t σ1 Q)) :
    WP E (.rng f ps as body) t σ Q := by
  obtain ⟨n, v, σ1, h1, h2⟩ := h
  unfold LeftBy at h2
  split at h2
  · rename_i t3 ps3 as3 b3 st pend hg
    obtain ⟨hst, h2⟩ := h2
    cases pend with
    | none =>
      refine ⟨n + 1, _, _, _, ?_, h2⟩
      rw [exec_rng, hf]; simp only; rw [h1]; simp only [hg]
      try (cases st <;> first | rfl | exact absurd rfl hst)
    | some j =>
      cases j with
      | ret =>
        refine ⟨n + 1, _, _, _, ?_, h2⟩
        rw [exec_rng, hf]; simp only; rw [h1]; simp only [hg]
        try (cases st <;> first | rfl | exact absurd rfl hst)
      | exit i =>
        refine ⟨n + 1, _, _, _, ?_, h2⟩
        rw [exec_rng, hf]; simp only; rw [h1]; simp only [hg]
        try (cases st <;> first | rfl | exact absurd rfl hst)
  · exact h2.elim

section
variable {QS : Tr SV → St → Prop}
theorem WPS_nil : WPS E [] t σ QS ↔ QS t σ := by
  constructor
  · rintro ⟨n, t', σ', h, k⟩
    cases n with
    | zero => simp [steps] at h
    | succ n => simp only [steps, Option.some.injEq, Prod.mk.injEq] at h; obtain ⟨rfl, rfl⟩ := h; exact k
  · intro h; exact ⟨1, _, _, by simp only [steps], h⟩
def isCall : SOp → Bool
  | .call .. => true
  | _ => false
theorem one_plain {n : Nat} {op : SOp} (h : isCall op = false) : one E (n + 1) op t σ = sop op t σ := by
  cases op <;> first | rfl | simp [isCall] at h
theorem WPS_pure {d : Option Nat} {op : SOp} {ss : List Step} {v : SV} {σ1 : St} (hop : isCall op = false) (hs : sop op t σ = some (v, σ1)) : WPS E (⟨d, none, op, []⟩ :: ss) t σ QS ↔ WPS E ss (putD t d v) σ1 QS := by
  constructor
  · rintro ⟨n, t', σ', h, k⟩
    cases n with
    | zero => simp [steps] at h
    | succ n =>
      rw [steps_cons] at h
      simp only [wantedS] at h
      cases n with
      | zero => simp [one] at h
      | succ n =>
        rw [one_plain hop, hs] at h
        simp only [recheck, cond_true] at h
        exact ⟨_, _, _, h, k⟩
  · rintro ⟨n, t', σ', h, k⟩
    refine ⟨n + 1 + 1, t', σ', ?_, k⟩
    rw [steps_cons]
    simp only [wantedS]
    rw [one_plain hop, hs]
    simp only [recheck, cond_true]
    exact mono_steps (by omega) h
/-- A step, whatever its guard, whatever is looked at again. -/
theorem WPS_step {s : Step} {ss : List Step} {v : SV} {σ1 : St} (hop : isCall s.op = false) (hw : wantedS t s.guard = some true) (hs : sop s.op t σ = some (v, σ1)) (hre : recheck t σ1 s.re = true) (h : WPS E ss (putD t s.dst v) σ1 QS) : WPS E (s :: ss) t σ QS := by
  obtain ⟨n, t', σ', h, k⟩ := h
  refine ⟨n + 1 + 1, t', σ', ?_, k⟩
  rw [steps_cons, hw]
  simp only
  rw [one_plain hop, hs]
  simp only [hre, cond_true]
  exact mono_steps (by omega) h
theorem WPS_skip {s : Step} {ss : List Step} (hw : wantedS t s.guard = some false) : WPS E (s :: ss) t σ QS ↔ WPS E ss (putD t s.dst .undef) σ QS := by
  constructor
  · rintro ⟨n, t', σ', h, k⟩
    cases n with
    | zero => simp [steps] at h
    | succ n => rw [steps_cons, hw] at h; exact ⟨_, _, _, h, k⟩
  · rintro ⟨n, t', σ', h, k⟩
    exact ⟨n + 1, t', σ', by rw [steps_cons, hw]; exact h, k⟩
theorem WPS_cons {s : Step} {ss : List Step} (hop : isCall s.op = false) : WPS E (s :: ss) t σ QS ↔ (match wantedS t s.guard with
    | some true => (match sop s.op t σ with
      | some (v, σ1) => recheck t σ1 s.re = true ∧ WPS E ss (putD t s.dst v) σ1 QS
      | none => False)
    | some false => WPS E ss (putD t s.dst .undef) σ QS
    | none => False) := by
  constructor
  · rintro ⟨n, t', σ', h, k⟩
    cases n with
    | zero => simp [steps] at h
    | succ n =>
      rw [steps_cons] at h
      split at h
      · rename_i hw
        rw [hw]
        cases n with
        | zero => simp [one] at h
        | succ n =>
          rw [one_plain hop] at h
          cases hs : sop s.op t σ with
          | none => simp [hs] at h
          | some x =>
            obtain ⟨v, σ1⟩ := x
            rw [hs] at h
            simp only at h ⊢
            cases hre : recheck t σ1 s.re with
            | false => simp [hre] at h
            | true => rw [hre] at h; exact ⟨rfl, _, _, _, h, k⟩
      · rename_i hw
        rw [hw]
        exact ⟨_, _, _, h, k⟩
      · cases h
  · intro h
    split at h
    · rename_i hw
      split at h
      · rename_i v σ1 hs
        exact WPS_step hop hw hs h.1 h.2
      · exact h.elim
    · rename_i hw
      exact (WPS_skip hw).2 h
    · exact h.elim
theorem WPS_call {d : Option Nat} {g : Option (Nat × Bool)} {re : List (Nat × Option (Nat × Bool) × SOp)} {f : Opd} {args : List Opd} {ss : List Step} (hw : wantedS t g = some true) (h : WPC E (f.ev t) (args.map (·.ev t)) σ (fun v σ1 => recheck t σ1 re = true ∧ WPS E ss (putD t d v) σ1 QS)) :
    WPS E (⟨d, g, .call f args, re⟩ :: ss) t σ QS := by
  obtain ⟨n, v, σ1, h1, h2, m, t', σ', h3, k⟩ := h
  refine ⟨max (n + 1) m + 1, t', σ', ?_, k⟩
  rw [steps_cons]
  simp only [hw]
  obtain ⟨q, hq⟩ : ∃ q, max (n + 1) m = q + 1 := ⟨max (n + 1) m - 1, by omega⟩
  have : one E (max (n + 1) m) (.call f args) t σ = some (v, σ1) := by
    rw [hq]
    simp only [one]
    exact mono_callV (by omega) h1
  rw [this]
  simp only [h2, cond_true]
  exact mono_steps (by omega) h3
end

theorem WPC_fn {f : Nat} {first cap args : List SV} {Q : SV → St → Prop} (h : WPF E f (first ++ args ++ cap) σ Q) : WPC E (.fn f first cap) args σ Q := by
  obtain ⟨n, v, σ', h, k⟩ := h
  exact ⟨n + 1, v, σ', by rw [callV_eq]; exact h, k⟩
theorem WPC_yld {l : Nat} {args : List SV} {Q : SV → St → Prop} (h : WPR E l args σ Q) : WPC E (.yld l) args σ Q := by
  obtain ⟨n, v, σ', h, k⟩ := h
  exact ⟨n + 1, v, σ', by rw [callV_eq]; exact h, k⟩
/-- A function's end. -/
def Ends (rs : List RV) (Q : SV → St → Prop) : Ex → Tr SV → St → Prop
  | .exit _, _, _ => False
  | _, t, σ => ∃ v, resultsSV t σ rs = some v ∧ Q v σ
theorem Ends_normal {rs : List RV} {Q : SV → St → Prop} : Ends rs Q .normal t σ ↔ ∃ v, resultsSV t σ rs = some v ∧ Q v σ := Iff.rfl
theorem Ends_ret {rs : List RV} {Q : SV → St → Prop} : Ends rs Q .ret t σ ↔ ∃ v, resultsSV t σ rs = some v ∧ Q v σ := Iff.rfl
theorem WPF_fn {f : Nat} {fn : SFun} {args : List SV} {Q : SV → St → Prop} (he : E.ext f = none) (hf : E.fn f = some fn) (hl : args.length = fn.np) (h : WP E fn.body (Tr.fill .nil 0 args) σ (Ends fn.results Q)) : WPF E f args σ Q := by
  obtain ⟨n, ex, t', σ', h, k⟩ := h
  have hb : Nat.beq args.length fn.np = true := by rw [hl]; exact Nat.beq_refl _
  cases ex with
  | exit i => exact k.elim
  | normal =>
    obtain ⟨v, h1, h2⟩ := k
    exact ⟨n + 1, v, σ', by rw [call_eq, he]; simp only [hf, hb, cond_true, h, h1, Option.map_some], h2⟩
  | ret =>
    obtain ⟨v, h1, h2⟩ := k
    exact ⟨n + 1, v, σ', by rw [call_eq, he]; simp only [hf, hb, cond_true, h, h1, Option.map_some], h2⟩
theorem WPF_ext {f : Nat} {g : List SV → St → Option (SV × St)} {args : List SV} {Q : SV → St → Prop} {v : SV} {σ' : St} (he : E.ext f = some g) (h : g args σ = some (v, σ')) (k : Q v σ') : WPF E f args σ Q :=
  ⟨1, v, σ', by rw [call_eq, he]; exact h, k⟩
/-- A round: the assignment, the body, the end. -/
def RoundEnd (L : Nat) (Q : SV → St → Prop) : Ex → Tr SV → St → Prop := fun ex _ σ2 => match σ2.get L with
  | some (.loop t3 ps3 as3 body3 _ _) => (match ex with
    | .normal => Q (.bool true) (σ2.set L (.loop t3 ps3 as3 body3 .ready none))
    | .ret => Q (.bool false) (σ2.set L (.loop t3 ps3 as3 body3 .done (some .ret)))
    | .exit i => Q (.bool false) (σ2.set L (.loop t3 ps3 as3 body3 .done (some (.exit i)))))
  | _ => False
theorem WPR_round {L : Nat} {args : List SV} {Q : SV → St → Prop} {t : Tr SV} {ps : List Nat} {as body : SC} (hg : σ.get L = some (.loop t ps as body .ready none)) (hl : args.length = ps.length)
    (h : WP E as (setMany t ps args) σ (Then (fun t1 σ1 => ∃ t2 ps2 as2 body2, σ1.get L = some (.loop t2 ps2 as2 body2 .ready none) ∧ WP E body t1 (σ1.set L (.loop t2 ps2 as2 body2 .busy none)) (RoundEnd L Q)) (fun _ _ _ => False))) : WPR E L args σ Q := by
  obtain ⟨n, ex, t1, σ1, h1, k⟩ := h
  cases ex with
  | exit i => exact k.elim
  | ret => exact k.elim
  | normal =>
    obtain ⟨t2, ps2, as2, body2, hg1, m, ex2, t', σ2, h2, k2⟩ := k
    have hb : Nat.beq args.length ps.length = true := by rw [hl]; exact Nat.beq_refl _
    have e1 := mono_exec (Nat.le_max_left n m) h1
    have e2 := mono_exec (Nat.le_max_right n m) h2
    unfold RoundEnd at k2
    split at k2
    · rename_i t3 ps3 as3 b3 st pend hg2
      cases ex2 with
      | normal => exact ⟨max n m + 1, _, _, by rw [round_eq, hg]; simp only [hb, cond_true, e1, hg1, e2, hg2], k2⟩
      | ret => exact ⟨max n m + 1, _, _, by rw [round_eq, hg]; simp only [hb, cond_true, e1, hg1, e2, hg2], k2⟩
      | exit i => exact ⟨max n m + 1, _, _, by rw [round_eq, hg]; simp only [hb, cond_true, e1, hg1, e2, hg2], k2⟩
    · exact k2.elim
end
end Go.Proofs.Ytojjhcgbbmknmaa.Sh

/- What functions tell, without places of the shadow: callers take such a function as one operation that leaves the state as it is. -/
namespace Go.Proofs.Ytojjhcgbbmknmaa.Sh
set_option linter.unusedSimpArgs false
set_option linter.unusedVariables false
open Go Go.RowKit

mutual
/-- No place of the shadow is in it. -/
def SV.pure : SV → Bool
  | .sc _ => true
  | .agg cs => pures cs
  | .tup cs => pures cs
  | .lst _ _ cs => pures cs
  | .iptr cs _ => pures cs
  | .fn _ a b => pures a && pures b
  | _ => false
def pures : List SV → Bool
  | [] => true
  | c :: cs => c.pure && pures cs
end
mutual
/-- It refers to nothing. -/
def SV.flat0 : SV → Bool
  | .sc _ => true
  | .agg cs => flats cs
  | .tup cs => flats cs
  | _ => false
def flats : List SV → Bool
  | [] => true
  | c :: cs => c.flat0 && flats cs
end

def mapO (f : SV → Option SV) : List SV → Option (List SV)
  | [] => some []
  | c :: cs => match f c, mapO f cs with
    | some x, some r => some (x :: r)
    | _, _ => none

/-- A value with what it refers to, as it is now. -/
def frz (σ : St) : Nat → SV → Option SV
  | 0, _ => none
  | d + 1, v => if v.pure = true then some v else match v with
    | .sl id off len sz => ((cellsOf σ id).bind fun cs => (cut cs off (len * sz)).bind (mapO (frz σ d))).map (.lst len sz)
    | .agg cs => (mapO (frz σ d) cs).map .agg
    | .tup cs => (mapO (frz σ d) cs).map .tup
    | _ => none

theorem frz_pure {σ : St} {d : Nat} {v : SV} (h : v.pure = true) : frz σ (d + 1) v = some v := by
  unfold frz; rw [if_pos h]
theorem mapO_pures {σ : St} {d : Nat} : ∀ {l : List SV}, pures l = true → mapO (frz σ (d + 1)) l = some l
  | [], _ => rfl
  | c :: cs, h => by
    simp only [pures, Bool.and_eq_true] at h
    simp only [mapO, frz_pure h.1, mapO_pures h.2]

section
variable {P : Program} {w0 : World} {ρ : Rho} {σ : St} {w : World}

mutual
/-- A value without places is what it is, wherever the shadow's blocks lie. -/
theorem pure_vr {ρ' : Rho} (hz : ∀ a v, ρ.fz a v → ρ'.fz a v) : ∀ {s : SV} {u : Value}, s.pure = true → VR w0 ρ s u → VR w0 ρ' s u
  | .sc _, _, _, k => by simpa [VR] using k
  | .agg cs, _, h, k => by
    simp only [VR] at k ⊢
    simp only [SV.pure] at h
    obtain ⟨a, e, k⟩ := k
    exact ⟨a, e, pure_vrs hz h k⟩
  | .tup cs, _, h, k => by
    simp only [VR] at k ⊢
    simp only [SV.pure] at h
    obtain ⟨a, e, k⟩ := k
    exact ⟨a, e, pure_vrs hz h k⟩
  | .sl .., _, h, _ => by simp [SV.pure] at h
  | .lst _ _ cs, _, h, k => by
    simp only [VR] at k ⊢
    simp only [SV.pure] at h
    obtain ⟨a, cap, vs, k1, k2, k3, k4, k⟩ := k
    exact ⟨a, cap, vs, k1, k2, pure_vrs hz h k3, ⟨k4.1, fun i v e => (k4.2 i v e).imp id (hz _ _)⟩, k⟩
  | .ptr .., _, h, _ => by simp [SV.pure] at h
  | .iptr cs off, _, h, k => by
    simp only [VR] at k ⊢
    simp only [SV.pure] at h
    obtain ⟨a, vs, k1, k3, k⟩ := k
    exact ⟨a, vs, k1, pure_vrs hz h k3, ⟨k.1, fun i v e => (k.2 i v e).imp id (hz _ _)⟩⟩
  | .fn _ a b, _, h, k => by
    simp only [VR] at k ⊢
    simp only [SV.pure, Bool.and_eq_true] at h
    obtain ⟨x, y, k1, k2, k3⟩ := k
    exact ⟨x, y, k1, pure_vrs hz h.1 k2, pure_vrs hz h.2 k3⟩
  | .yld _, _, h, _ => by simp [SV.pure] at h
  | .mp _, _, h, _ => by simp [SV.pure] at h
theorem pure_vrs {ρ' : Rho} (hz : ∀ a v, ρ.fz a v → ρ'.fz a v) : ∀ {s : List SV} {u : List Value}, pures s = true → VRs w0 ρ s u → VRs w0 ρ' s u
  | [], _, _, k => by simpa [VRs] using k
  | c :: cs, _, h, k => by
    simp only [VRs] at k ⊢
    simp only [pures, Bool.and_eq_true] at h
    obtain ⟨v, r, e, k1, k2⟩ := k
    exact ⟨v, r, e, pure_vr hz h.1 k1, pure_vrs hz h.2 k2⟩
end
mutual
theorem flat_vr {ρ' : Rho} : ∀ {s : SV} {u : Value}, s.flat0 = true → VR w0 ρ s u → VR w0 ρ' s u
  | .sc _, _, _, k => by simpa [VR] using k
  | .agg cs, _, h, k => by
    simp only [VR] at k ⊢
    simp only [SV.flat0] at h
    obtain ⟨a, e, k⟩ := k
    exact ⟨a, e, flat_vrs h k⟩
  | .tup cs, _, h, k => by
    simp only [VR] at k ⊢
    simp only [SV.flat0] at h
    obtain ⟨a, e, k⟩ := k
    exact ⟨a, e, flat_vrs h k⟩
  | .sl .., _, h, _ => by simp [SV.flat0] at h
  | .lst .., _, h, _ => by simp [SV.flat0] at h
  | .ptr .., _, h, _ => by simp [SV.flat0] at h
  | .iptr .., _, h, _ => by simp [SV.flat0] at h
  | .fn .., _, h, _ => by simp [SV.flat0] at h
  | .yld _, _, h, _ => by simp [SV.flat0] at h
  | .mp _, _, h, _ => by simp [SV.flat0] at h
theorem flat_vrs {ρ' : Rho} : ∀ {s : List SV} {u : List Value}, flats s = true → VRs w0 ρ s u → VRs w0 ρ' s u
  | [], _, _, k => by simpa [VRs] using k
  | c :: cs, _, h, k => by
    simp only [VRs] at k ⊢
    simp only [flats, Bool.and_eq_true] at h
    obtain ⟨v, r, e, k1, k2⟩ := k
    exact ⟨v, r, e, flat_vr h.1 k1, flat_vrs h.2 k2⟩
end

theorem mapO_all {f : SV → Option SV} (Q : SV → SV → Prop) (h : ∀ v r, f v = some r → Q v r) : ∀ {l r : List SV}, mapO f l = some r → r.length = l.length ∧ ∀ (i : Nat) (x y : SV), l[i]? = some x → r[i]? = some y → Q x y
  | [], r, e => by simp only [mapO, Option.some.injEq] at e; subst e; simp
  | c :: cs, r, e => by
    simp only [mapO] at e
    split at e
    · rename_i x r' h1 h2
      cases e
      obtain ⟨g1, g2⟩ := mapO_all Q h h2
      refine ⟨by simp [g1], fun i x' y hx hy => ?_⟩
      cases i with
      | zero => simp at hx hy; subst hx; subst hy; exact h _ _ h1
      | succ i => exact g2 i x' y (by simpa using hx) (by simpa using hy)
    · cases e

theorem pures_iff : ∀ {l : List SV}, pures l = true ↔ ∀ c ∈ l, c.pure = true
  | [] => by simp [pures]
  | c :: l => by simp [pures, pures_iff (l := l)]
theorem flats_iff : ∀ {l : List SV}, flats l = true ↔ ∀ c ∈ l, c.flat0 = true
  | [] => by simp [flats]
  | c :: l => by simp [flats, flats_iff (l := l)]

theorem mapO_pure {f : SV → Option SV} (h : ∀ v r, f v = some r → r.pure = true) {l r : List SV} (e : mapO f l = some r) : pures r = true := by
  obtain ⟨h1, h2⟩ := mapO_all (fun _ y => y.pure = true) h e
  rw [pures_iff]
  intro c hc
  obtain ⟨i, hi⟩ := List.mem_iff_getElem?.1 hc
  have hlt : i < l.length := by have := (List.getElem?_eq_some_iff.1 hi).1; omega
  exact h2 i _ _ (List.getElem?_eq_getElem hlt) hi
theorem mapO_one {f : SV → Option SV} (h : ∀ v r, f v = some r → v.one = true → r.one = true) {l r : List SV} (e : mapO f l = some r) (hl : allOne l) : allOne r := by
  obtain ⟨h1, h2⟩ := mapO_all (fun x y => x.one = true → y.one = true) h e
  intro c hc
  obtain ⟨i, hi⟩ := List.mem_iff_getElem?.1 hc
  have hlt : i < l.length := by have := (List.getElem?_eq_some_iff.1 hi).1; omega
  exact h2 i _ _ (List.getElem?_eq_getElem hlt) hi (hl _ (List.getElem_mem hlt))
theorem mapO_vrs {f : SV → Option SV} {ρ' : Rho} (h : ∀ v r u, f v = some r → OK w0 ρ v u → OK w0 ρ' r u) : ∀ {l r : List SV} {us : List Value}, mapO f l = some r → OKs w0 ρ l us → OKs w0 ρ' r us
  | [], r, us, e, k => by
    simp only [mapO, Option.some.injEq] at e; subst e
    simpa [OKs, VRs, wfs] using k
  | c :: cs, r, us, e, k => by
    simp only [mapO] at e
    split at e
    · rename_i x r' h1 h2
      cases e
      obtain ⟨k1, k2⟩ := k
      simp only [VRs] at k1
      obtain ⟨v, l, rfl, k3, k4⟩ := k1
      obtain ⟨g1, g2⟩ := h _ _ v h1 ⟨k3, k2.1⟩
      obtain ⟨g3, g4⟩ := mapO_vrs h h2 ⟨k4, k2.2⟩
      exact ⟨VRs.cons g1 g3, g2, g4⟩
    · cases e

theorem frz_isPure : ∀ {d : Nat} {v r : SV}, frz σ d v = some r → r.pure = true := by
  intro d
  induction d with
  | zero => intro v r h; simp [frz] at h
  | succ d ih =>
    intro v r h
    unfold frz at h
    split at h
    · rename_i hp; cases h; exact hp
    · split at h
      · obtain ⟨cs, h1, rfl⟩ := Option.map_eq_some_iff.1 h
        obtain ⟨c1, _, h2⟩ := Option.bind_eq_some_iff.1 h1
        obtain ⟨c2, _, h3⟩ := Option.bind_eq_some_iff.1 h2
        simp only [SV.pure]
        exact mapO_pure (fun v r e => ih e) h3
      · obtain ⟨cs, h1, rfl⟩ := Option.map_eq_some_iff.1 h
        simp only [SV.pure]
        exact mapO_pure (fun v r e => ih e) h1
      · obtain ⟨cs, h1, rfl⟩ := Option.map_eq_some_iff.1 h
        simp only [SV.pure]
        exact mapO_pure (fun v r e => ih e) h1
      · cases h
theorem frz_one : ∀ {d : Nat} {v r : SV}, frz σ d v = some r → v.one = true → r.one = true := by
  intro d v r h ho
  cases d with
  | zero => simp [frz] at h
  | succ d =>
    unfold frz at h
    split at h
    · cases h; exact ho
    · split at h
      · obtain ⟨cs, h1, rfl⟩ := Option.map_eq_some_iff.1 h; rfl
      · simp [SV.one] at ho
      · simp [SV.one] at ho
      · cases h
theorem OK.pure {ρ' : Rho} (hz : ∀ a v, ρ.fz a v → ρ'.fz a v) {s : SV} {u : Value} (h : s.pure = true) (k : OK w0 ρ s u) : OK w0 ρ' s u := ⟨pure_vr hz h k.1, k.2⟩
theorem OKs.pure {ρ' : Rho} (hz : ∀ a v, ρ.fz a v → ρ'.fz a v) {s : List SV} {u : List Value} (h : pures s = true) (k : OKs w0 ρ s u) : OKs w0 ρ' s u := ⟨pure_vrs hz h k.1, k.2⟩

/-- What is read of a value is the same value, where it lies; Z: the cells that are to stay. -/
theorem frz_ok {Z : Addr → Value → Prop} {pl : Nat → Option Pl} (sr : SR P w0 ρ σ w) (hz : ∀ a v, ρ.fz a v → Z a v) (ho : ∀ i p (a : Addr) v, ρ i = some p → p.blk = a.block → w.cell? a = some v → Z a v) :
    ∀ {d : Nat} {v r : SV} {u : Value}, frz σ d v = some r → OK w0 ρ v u → OK w0 ⟨pl, Z⟩ r u := by
  intro d
  induction d with
  | zero => intro v r u h; simp [frz] at h
  | succ d ih =>
    intro v r u h k
    unfold frz at h
    split at h
    · rename_i hp; cases h; exact k.pure hz hp
    · split at h
      · rename_i id off len sz _
        obtain ⟨cs', h1, rfl⟩ := Option.map_eq_some_iff.1 h
        obtain ⟨cs, h2, h3⟩ := Option.bind_eq_some_iff.1 h1
        obtain ⟨c2, h4, h5⟩ := Option.bind_eq_some_iff.1 h3
        obtain ⟨hle, rfl⟩ := cut_eq h4
        obtain ⟨p, cap, oo, k1, k2, k3, k4, k5, k6⟩ := (by simpa only [VR] using k.1 : ∃ p cap oo, ρ id = some p ∧ u = .slice (some ⟨p.blk, oo, none⟩) len cap ∧ (oo = p.base + off ∨ cap = 0) ∧ len ≤ cap ∧ 0 < sz ∧ (0 < cap → p.base + off + cap * sz ≤ p.size))
        have hg : σ.get id = some (.cells cs) := by
          unfold cellsOf at h2
          split at h2 <;> first | (cases h2; assumption) | cases h2
        have hob := sr.obs id p k1
        rw [hg] at hob
        obtain ⟨A, e, hb, hs, hfit, hcs, hone⟩ := hob
        have hcut := (hcs.drop off).take (len * sz)
        have hok : OKs w0 ⟨pl, Z⟩ cs' _ := mapO_vrs (ρ' := ⟨pl, Z⟩) (fun v r u h k => ih h k) h5 hcut
        have hone' : allOne cs' := mapO_one (fun v r h k => frz_one h k) h5 (allOne_take (allOne_drop hone))
        have hlen := (mapO_all (fun _ _ => True) (fun _ _ _ => trivial) h5).1
        refine ⟨?_, hone', hok.2⟩
        simp only [VR]
        refine ⟨_, cap, _, k2, k4, hok.1, ⟨fun _ => rfl, fun i v hv => .inr ?_⟩, by simp at hlen; omega, k5⟩
        simp only [List.getElem?_take, List.getElem?_drop] at hv
        split at hv
        · rename_i hlt
          split at hv
          · have hc0 : cap ≠ 0 := by
              intro e0
              have : len = 0 := by omega
              rw [this, Nat.zero_mul] at hlt; omega
            have : oo = p.base + off := by rcases k3 with k3 | k3 <;> omega
            subst this
            refine ho id p ⟨p.blk, _, none⟩ v k1 rfl ?_
            rw [cell_of_block hb, ← Array.getElem?_toList, ← hv]; congr 1; dsimp only; omega
          · cases hv
        · cases hv
      · obtain ⟨cs', h1, rfl⟩ := Option.map_eq_some_iff.1 h
        rename_i cs _
        obtain ⟨A, k1, k2⟩ := (by simpa only [VR] using k.1 : ∃ A : Array Value, u = .agg A ∧ VRs w0 ρ cs A.toList)
        have hwf := k.2
        simp only [SV.wf] at hwf
        have hok : OKs w0 ⟨pl, Z⟩ cs' _ := mapO_vrs (ρ' := ⟨pl, Z⟩) (fun v r u h k => ih h k) h1 ⟨k2, hwf.2⟩
        refine ⟨?_, mapO_one (fun v r h k => frz_one h k) h1 hwf.1, hok.2⟩
        simp only [VR]
        exact ⟨A, k1, hok.1⟩
      · obtain ⟨cs', h1, rfl⟩ := Option.map_eq_some_iff.1 h
        rename_i cs _
        obtain ⟨A, k1, k2⟩ := (by simpa only [VR] using k.1 : ∃ A : Array Value, u = .tuple A ∧ VRs w0 ρ cs A.toList)
        have hwf := k.2
        simp only [SV.wf] at hwf
        have hok : OKs w0 ⟨pl, Z⟩ cs' _ := mapO_vrs (ρ' := ⟨pl, Z⟩) (fun v r u h k => ih h k) h1 ⟨k2, hwf⟩
        refine ⟨?_, hok.2⟩
        simp only [VR]
        exact ⟨A, k1, hok.1⟩
      · cases h
theorem frzs_ok {Z : Addr → Value → Prop} {pl : Nat → Option Pl} (sr : SR P w0 ρ σ w) (hz : ∀ a v, ρ.fz a v → Z a v) (ho : ∀ i p (a : Addr) v, ρ i = some p → p.blk = a.block → w.cell? a = some v → Z a v)
    {d : Nat} {l r : List SV} {us : List Value} (h : mapO (frz σ d) l = some r) (k : OKs w0 ρ l us) : OKs w0 ⟨pl, Z⟩ r us := mapO_vrs (ρ' := ⟨pl, Z⟩) (fun _ _ _ h k => frz_ok sr hz ho h k) h k
end

/-! ### What a function tells -/
/-- What a function tells of values without places. -/
def Told (E : Env) (f : Nat) (pa : List SV) (r : SV) : Prop := ∃ n v σ', call E n f pa St.empty = some (v, σ') ∧ frz σ' 20 v = some r
theorem Told.one {E : Env} {f : Nat} {pa : List SV} {r r' : SV} (h : Told E f pa r) (k : Told E f pa r') : r = r' := by
  obtain ⟨n, v, σ, h1, h2⟩ := h
  obtain ⟨m, u, τ, k1, k2⟩ := k
  have e1 := mono_call (Nat.le_max_left n m) h1
  have e2 := mono_call (Nat.le_max_right n m) k1
  rw [e1] at e2; cases e2
  rw [h2] at k2; cases k2; rfl

open Classical in
noncomputable def tellG (E : Env) (f : Nat) (args : List SV) (σ : St) : Option (SV × St) :=
  match mapO (frz σ 20) args with
  | none => none
  | some pa => if h : ∃ r, Told E f pa r ∧ (pures args = true ∨ r.flat0 = true) then some (Classical.choose h, σ) else none

theorem tellG_eq {E : Env} {f : Nat} {args pa : List SV} {σ : St} {r : SV} (ha : mapO (frz σ 20) args = some pa) (h : Told E f pa r) (hp : pures args = true ∨ r.flat0 = true) : tellG E f args σ = some (r, σ) := by
  unfold tellG
  rw [ha]
  simp only
  have hx : ∃ r, Told E f pa r ∧ (pures args = true ∨ r.flat0 = true) := ⟨r, h, hp⟩
  rw [dif_pos hx]
  have := (Classical.choose_spec hx).1.one h
  rw [this]

theorem tellG_inv {E : Env} {f : Nat} {args : List SV} {σ σ' : St} {v : SV} (h : tellG E f args σ = some (v, σ')) : σ' = σ ∧ ∃ pa, mapO (frz σ 20) args = some pa ∧ Told E f pa v ∧ (pures args = true ∨ v.flat0 = true) := by
  unfold tellG at h
  split at h
  · cases h
  · rename_i pa ha
    split at h
    · rename_i hx
      cases h
      exact ⟨rfl, pa, ha, Classical.choose_spec hx⟩
    · cases h

section
variable {P : Program} {E : Env}

theorem tell_ok {f : Nat} (hm : P.follows .mixedOrders = true) (w0 : World) (he : EnvOK P w0 E) {args : List SV} {σ σ' : St} {v : SV} (h : tellG E f args σ = some (v, σ')) {ro : Option Nat} {m : Nat} {ρ : Rho} {w : World} {vals : Array Value}
    (sr : SR P w0 ρ σ w) (ha : OKs w0 ρ args vals.toList) : CallsIn (FR ro) m P f vals w (fun e w' => ∃ u ρ', e = .returned u ∧ OK w0 ρ' v u ∧ Step1 P w0 ρ σ w ρ' σ' w') := by
  obtain ⟨rfl, pa, h1, ⟨n, v', τ, h2, h3⟩, h4⟩ := tellG_inv h
  by_cases hp : pures args = true
  · have : pa = args := by rw [mapO_pures hp] at h1; cases h1; rfl
    subst this
    have sr0 : SR P w0 ⟨fun _ => none, ρ.fz⟩ St.empty w := ⟨sr.below, fun i p e => (by cases e), fun i j p q e => (by cases e), fun i p e => (by cases e), fun i _ => rfl, fun a v e => ⟨(sr.hold a v e).1, fun i p e => (by cases e)⟩⟩
    have hc := (call_ok he (draw_ok hm) n f pa St.empty _ τ h2).2 ro m ⟨fun _ => none, ρ.fz⟩ w vals sr0 (OKs.pure (ρ := ρ) (ρ' := ⟨fun _ => none, ρ.fz⟩) (fun _ _ h => h) hp ha)
    refine hc.mono ?_
    rintro e w' ⟨u, ρ', rfl, hok, st⟩
    refine ⟨u, ⟨ρ.pl, fun a v => ρ'.fz a v ∨ (w'.cell? a = some v ∧ ∃ i p, ρ' i = some p ∧ p.blk = a.block)⟩, rfl, frz_ok st.sr (fun _ _ h => .inl h) (fun i p a v h1 h2 h3 => .inr ⟨h3, i, p, h1, h2⟩) h3 hok, ?_⟩
    have hfr : ∀ b, b < w.heap.size → w'.heap[b]? = w.heap[b]? := fun b hb => st.frame b hb (fun i p e => by cases e)
    have hnew : ∀ i p, ρ' i = some p → w.heap.size ≤ p.blk := fun i p e => by
      rcases st.newblk i p e rfl with h | ⟨j, q, h, _⟩
      · exact h
      · cases h
    have hext : Ext ρ ⟨ρ.pl, fun a v => ρ'.fz a v ∨ (w'.cell? a = some v ∧ ∃ i p, ρ' i = some p ∧ p.blk = a.block)⟩ := ⟨fun _ _ h => h, fun a v h => .inl (st.ext.fz a v h)⟩
    refine ⟨⟨st.sr.below, fun i p e => ?_, sr.inj, fun i p e => ?_, sr.fresh, fun a v e => ?_⟩, hext, Nat.le_refl _, st.size, fun i p e => .inl e, fun i p e hi => ?_, fun b hb _ => hfr b hb, fun _ _ _ => rfl, st.loops, fun a v e => ?_⟩
    · have := sr.dom i p e
      exact ⟨this.1, this.2.1, Nat.lt_of_lt_of_le this.2.2 st.size⟩
    · exact ((sr.obs i p e).mono hext).world (hfr _ (sr.dom i p e).2.2) st.size
    · rcases e with e | ⟨e1, i, p, e2, e3⟩
      · refine ⟨(st.sr.hold a v e).1, fun i p e' => ?_⟩
        rcases st.newfz a v e with h | h
        · exact (sr.hold a v h).2 i p e'
        · have := (sr.dom i p e').2.2; omega
      · refine ⟨e1, fun j q e' => ?_⟩
        have h1 := hnew i p e2
        have h2 := (sr.dom j q e').2.2
        omega
    · rw [show ρ.pl i = some p from e] at hi; cases hi
    · rcases e with e | ⟨e1, i, p, e2, e3⟩
      · exact st.newfz a v e
      · right; rw [← e3]; exact hnew i p e2
  · have hfl : v.flat0 = true := by rcases h4 with h | h; exact absurd h hp; exact h
    have sr0 : SR P w0 ⟨fun _ => none, fun a v => w.cell? a = some v⟩ St.empty w := ⟨sr.below, fun i p e => (by cases e), fun i j p q e => (by cases e), fun i p e => (by cases e), fun i _ => rfl, fun a v e => ⟨e, fun i p e => (by cases e)⟩⟩
    have hc := (call_ok he (draw_ok hm) n f pa St.empty _ τ h2).2 ro m ⟨fun _ => none, fun a v => w.cell? a = some v⟩ w vals sr0 (frzs_ok sr (fun a v h => (sr.hold a v h).1) (fun _ _ _ _ _ _ h => h) h1 ha)
    refine hc.mono ?_
    rintro e w' ⟨u, ρ', rfl, hok, st⟩
    have hok2 : OK w0 ⟨ρ'.pl, fun a v => ρ'.fz a v ∨ w'.cell? a = some v⟩ v u := frz_ok st.sr (fun _ _ h => .inl h) (fun i p a v h1 h2 h3 => .inr h3) h3 hok
    refine ⟨u, ρ, rfl, ⟨flat_vr hfl hok2.1, hok2.2⟩, ?_⟩
    have hfr : ∀ b, b < w.heap.size → w'.heap[b]? = w.heap[b]? := fun b hb => st.frame b hb (fun i p e => by cases e)
    refine ⟨⟨st.sr.below, fun i p e => ?_, sr.inj, fun i p e => ?_, sr.fresh, fun a v e => ?_⟩, Ext.refl _, Nat.le_refl _, st.size, fun i p e => .inl e, fun i p e hi => ?_, fun b hb _ => hfr b hb, fun _ _ _ => rfl, st.loops, fun a v e => .inl e⟩
    · have := sr.dom i p e
      exact ⟨this.1, this.2.1, Nat.lt_of_lt_of_le this.2.2 st.size⟩
    · exact (sr.obs i p e).world (hfr _ (sr.dom i p e).2.2) st.size
    · obtain ⟨g1, g2⟩ := sr.hold a v e
      exact ⟨(cell?_block (hfr _ (cell?_lt g1))).trans g1, g2⟩
    · rw [hi] at e; cases e
end

/-! ### Levels: functions of a lower level are taken as told; from level 1 on those of a base, too -/
noncomputable def envAt (fn : Nat → Option SFun) (lev : Nat → Option Nat) (base : Nat → Option (List SV → St → Option (SV × St))) : Nat → Env
  | 0 => ⟨fn, fun _ => none⟩
  | k + 1 => ⟨fn, fun f => bif decide (lev f = some k) then some (tellG (envAt fn lev base k) f) else match (envAt fn lev base k).ext f with
    | some g => some g
    | none => base f⟩

section
variable {fn : Nat → Option SFun} {lev : Nat → Option Nat} {base : Nat → Option (List SV → St → Option (SV × St))}
theorem envAt_fn : ∀ k, (envAt fn lev base k).fn = fn
  | 0 => rfl
  | _ + 1 => rfl
theorem envAt_ext {f k : Nat} (hf : lev f = some k) : ∀ {m : Nat}, k < m → (envAt fn lev base m).ext f = some (tellG (envAt fn lev base k) f)
  | 0, h => by omega
  | m + 1, h => by
    show (bif decide (lev f = some m) then some (tellG (envAt fn lev base m) f) else _) = _
    by_cases e : k = m
    · subst e; rw [decide_eq_true hf]; rfl
    · rw [decide_eq_false (by rw [hf]; simp [e])]
      show (match (envAt fn lev base m).ext f with | some g => some g | none => base f) = _
      rw [envAt_ext hf (by omega)]
theorem envAt_none {f : Nat} (hb : base f = none) : ∀ {m : Nat}, (∀ k, lev f = some k → m ≤ k) → (envAt fn lev base m).ext f = none
  | 0, _ => rfl
  | m + 1, h => by
    show (bif decide (lev f = some m) then some (tellG (envAt fn lev base m) f) else _) = _
    rw [decide_eq_false (fun e => by have := h m e; omega)]
    show (match (envAt fn lev base m).ext f with | some g => some g | none => base f) = _
    rw [envAt_none hb (fun k e => by have := h k e; omega)]
    exact hb
theorem envAt_base {f : Nat} (hl : lev f = none) : ∀ {m : Nat}, 0 < m → (envAt fn lev base m).ext f = base f
  | 0, h => by omega
  | m + 1, _ => by
    show (bif decide (lev f = some m) then some (tellG (envAt fn lev base m) f) else _) = _
    rw [decide_eq_false (by rw [hl]; simp)]
    show (match (envAt fn lev base m).ext f with | some g => some g | none => base f) = _
    cases m with
    | zero => rfl
    | succ m =>
      rw [envAt_base hl (by omega)]
      cases base f <;> rfl

/-- A function of a lower level is called. -/
theorem WPF_told {f k m : Nat} {args pa : List SV} {σ : St} {r : SV} {Q : SV → St → Prop} (hf : lev f = some k) (hk : k < m) (ha : mapO (frz σ 20) args = some pa) (h : Told (envAt fn lev base k) f pa r) (hp : (pures args || r.flat0) = true) (q : Q r σ) : WPF (envAt fn lev base m) f args σ Q :=
  WPF_ext (envAt_ext hf hk) (tellG_eq ha h (by simpa using hp)) q

theorem Told_of {E : Env} {f : Nat} {pa : List SV} {r : SV} (h : WPF E f pa St.empty (fun v σ => frz σ 20 v = some r)) : Told E f pa r := h

/-- What a base must keep. -/
def BaseOK (P : Program) (base : Nat → Option (List SV → St → Option (SV × St))) : Prop := ∀ f g, base f = some g → (∀ vals w, (callFunc f vals).run P w = .ok (.enter f vals) w) ∧ ∀ (W : World) args σ v σ', g args σ = some (v, σ') → ∀ ro m ρ w (vals : Array Value), SR P W ρ σ w → OKs W ρ args vals.toList →
    CallsIn (FR ro) m P f vals w (fun e w' => ∃ u ρ', e = .returned u ∧ OK W ρ' v u ∧ Step1 P W ρ σ w ρ' σ' w')
theorem BaseOK.none {P : Program} : BaseOK P (fun _ => none) := fun f g h => by cases h
theorem envAt_ok {P : Program} (hm : P.follows .mixedOrders = true) (hfn : ∀ f sf, fn f = some sf → ∃ F : Func, P.funcs[f]? = some F ∧ compFun P F = some sf) (hl : ∀ f k, lev f = some k → ∃ sf, fn f = some sf) (hbase : BaseOK P base) : ∀ (k : Nat) (W : World), EnvOK P W (envAt fn lev base k)
  | 0, W => ⟨fun f sf _ h => hfn f sf h, fun f g h => by cases h⟩
  | k + 1, W => by
    have ih := envAt_ok hm hfn hl hbase k
    refine ⟨fun f sf _ h => hfn f sf h, fun f g h => ?_⟩
    have h : (bif decide (lev f = some k) then some (tellG (envAt fn lev base k) f) else match (envAt fn lev base k).ext f with | some g => some g | none => base f) = some g := h
    by_cases e : lev f = some k
    · rw [decide_eq_true e] at h
      cases h
      obtain ⟨sf, h1⟩ := hl f k e
      obtain ⟨F, h2, h3⟩ := hfn f sf h1
      exact ⟨fun vals w => callFunc_ok h2 h3 vals w, fun args σ v σ' h ro m ρ w vals sr ha => tell_ok hm W (ih W) h sr ha⟩
    · rw [decide_eq_false e] at h
      have h : (match (envAt fn lev base k).ext f with | some g => some g | none => base f) = some g := h
      cases he : (envAt fn lev base k).ext f with
      | some g' =>
        rw [he] at h
        cases h
        exact (ih W).ext f g he
      | none =>
        rw [he] at h
        exact ⟨(hbase f g h).1, (hbase f g h).2 W⟩

theorem Told.call {E : Env} {f : Nat} {pa : List SV} {b : Bool} (h : Told E f pa (.sc (.bool b))) : ∃ n σ', call E n f pa St.empty = some (.sc (.bool b), σ') := by
  obtain ⟨n, v, σ', h1, h2⟩ := h
  refine ⟨n, σ', ?_⟩
  unfold frz at h2
  split at h2
  · cases h2; exact h1
  · split at h2
    · obtain ⟨_, _, e⟩ := Option.map_eq_some_iff.1 h2; cases e
    · obtain ⟨_, _, e⟩ := Option.map_eq_some_iff.1 h2; cases e
    · obtain ⟨_, _, e⟩ := Option.map_eq_some_iff.1 h2; cases e
    · cases h2
end
end Go.Proofs.Ytojjhcgbbmknmaa.Sh

/- Registers that are filled. -/
namespace Go.Proofs.Ytojjhcgbbmknmaa.Sh
set_option linter.unusedSimpArgs false
set_option linter.unusedVariables false
open Go
theorem fill_cons (t : Tr SV) (n : Nat) (x : SV) (r : List SV) : Tr.fill t n (x :: r) = (t.set n x).fill (n + 1) r := rfl
theorem fill_nil (t : Tr SV) (n : Nat) : Tr.fill t n [] = t := rfl
end Go.Proofs.Ytojjhcgbbmknmaa.Sh

/- The same evaluator, eager in all that it keeps: for closed calls that the kernel carries out. -/
namespace Go.Proofs.Ytojjhcgbbmknmaa.Sh
set_option linter.unusedSimpArgs false
set_option linter.unusedVariables false
open Go Go.Proofs

section
variable {R : Type}
def nNat (n : Nat) (k : Nat → R) : R := match n with
  | 0 => k 0
  | m + 1 => k (m + 1)
theorem nNat_eq (n : Nat) (k : Nat → R) : nNat n k = k n := by cases n <;> rfl
def nInt (i : Int) (k : Int → R) : R := match i with
  | .ofNat n => nNat n fun n => k (.ofNat n)
  | .negSucc n => nNat n fun n => k (.negSucc n)
theorem nInt_eq (n : Int) (k : Int → R) : nInt n k = k n := by cases n <;> simp only [nInt, nNat_eq]
def nSc (s : Sc) (k : Sc → R) : R := match s with
  | .int kd n => nInt n fun n => k (.int kd n)
  | .bool true => k (.bool true)
  | .bool false => k (.bool false)
  | .str s => k (.str s)
  | .nilsl => k .nilsl
  | .nilptr => k .nilptr
  | .nilmap => k .nilmap
  | .nilfn => k .nilfn
  | .nilif => k .nilif
  | .undef => k .undef
theorem nSc_eq (s : Sc) (k : Sc → R) : nSc s k = k s := by
  cases s with
  | bool b => cases b <;> rfl
  | int kd n => simp only [nSc, nInt_eq]
  | _ => rfl
mutual
def nSV : SV → (SV → R) → R
  | .sc s, k => nSc s fun s => k (.sc s)
  | .agg cs, k => nL cs fun cs => k (.agg cs)
  | .tup cs, k => nL cs fun cs => k (.tup cs)
  | .sl a b c d, k => nNat a fun a => nNat b fun b => nNat c fun c => nNat d fun d => k (.sl a b c d)
  | .lst a b cs, k => nNat a fun a => nNat b fun b => nL cs fun cs => k (.lst a b cs)
  | .ptr a b, k => nNat a fun a => nNat b fun b => k (.ptr a b)
  | .iptr cs a, k => nL cs fun cs => nNat a fun a => k (.iptr cs a)
  | .fn f a b, k => nNat f fun f => nL a fun a => nL b fun b => k (.fn f a b)
  | .yld l, k => nNat l fun l => k (.yld l)
  | .mp l, k => nNat l fun l => k (.mp l)
def nL : List SV → (List SV → R) → R
  | [], k => k []
  | c :: cs, k => nSV c fun c => nL cs fun cs => k (c :: cs)
end
mutual
theorem nSV_eq : ∀ (v : SV) (k : SV → R), nSV v k = k v
  | .sc s, k => by simp only [nSV, nSc_eq]
  | .agg cs, k => by simp only [nSV, nL_eq cs]
  | .tup cs, k => by simp only [nSV, nL_eq cs]
  | .sl a b c d, k => by simp only [nSV, nNat_eq]
  | .lst a b cs, k => by simp only [nSV, nNat_eq, nL_eq cs]
  | .ptr a b, k => by simp only [nSV, nNat_eq]
  | .iptr cs a, k => by simp only [nSV, nNat_eq, nL_eq cs]
  | .fn f a b, k => by simp only [nSV, nNat_eq, nL_eq a, nL_eq b]
  | .yld l, k => by simp only [nSV, nNat_eq]
  | .mp l, k => by simp only [nSV, nNat_eq]
theorem nL_eq : ∀ (v : List SV) (k : List SV → R), nL v k = k v
  | [], k => rfl
  | c :: cs, k => by simp only [nL, nSV_eq c, nL_eq cs]
end
variable {α : Type}
def setK : Nat → Tr α → Nat → α → (Tr α → R) → R
  | 0, t, _, _, k => k t
  | f + 1, .nil, n, x, k => bif Nat.beq n 0 then k (.node .nil (some x) .nil) else bif Nat.beq (n % 2) 1 then setK f .nil (n / 2) x fun l => k (.node l none .nil) else setK f .nil (n / 2 - 1) x fun r => k (.node .nil none r)
  | f + 1, .node l v r, n, x, k => bif Nat.beq n 0 then k (.node l (some x) r) else bif Nat.beq (n % 2) 1 then setK f l (n / 2) x fun l => k (.node l v r) else setK f r (n / 2 - 1) x fun r => k (.node l v r)
theorem setK_eq : ∀ (f : Nat) (t : Tr α) (n : Nat) (x : α) (k : Tr α → R), setK f t n x k = k (Tr.put0 f t n x)
  | 0, t, n, x, k => rfl
  | f + 1, .nil, n, x, k => by
    simp only [setK, Tr.put0, setK_eq f]
    cases Nat.beq n 0 <;> cases Nat.beq (n % 2) 1 <;> rfl
  | f + 1, .node l v r, n, x, k => by
    simp only [setK, Tr.put0, setK_eq f]
    cases Nat.beq n 0 <;> cases Nat.beq (n % 2) 1 <;> rfl
theorem put0_fuel : ∀ (f g : Nat) (t : Tr α) (n : Nat) (x : α), n < f → n < g → Tr.put0 f t n x = Tr.put0 g t n x
  | 0, _, _, _, _, h, _ => by omega
  | _ + 1, 0, _, _, _, _, h => by omega
  | f + 1, g + 1, .nil, n, x, h1, h2 => by
    simp only [Tr.put0]
    cases hn : Nat.beq n 0 with
    | true => rfl
    | false =>
      have : n ≠ 0 := fun e => by subst e; cases hn
      rw [put0_fuel f g .nil (n / 2) x (by omega) (by omega), put0_fuel f g .nil (n / 2 - 1) x (by omega) (by omega)]
  | f + 1, g + 1, .node l v r, n, x, h1, h2 => by
    simp only [Tr.put0]
    cases hn : Nat.beq n 0 with
    | true => rfl
    | false =>
      have : n ≠ 0 := fun e => by subst e; cases hn
      rw [put0_fuel f g l (n / 2) x (by omega) (by omega), put0_fuel f g r (n / 2 - 1) x (by omega) (by omega)]
noncomputable def setT (t : Tr α) (n : Nat) (x : α) (k : Tr α → R) : R :=
  Tr.rec (motive := fun _ => Nat → (Tr α → R) → R) (fun n k => setK (n + 1) .nil n x k)
    (fun l v r il ir n k => bif Nat.beq n 0 then k (.node l (some x) r) else bif Nat.beq (n % 2) 1 then il (n / 2) (fun l => k (.node l v r)) else ir (n / 2 - 1) (fun r => k (.node l v r))) t n k
theorem setT_eq (x : α) : ∀ (t : Tr α) (n : Nat) (k : Tr α → R), setT t n x k = k (t.set n x)
  | .nil, n, k => by show setK (n + 1) .nil n x k = _; rw [setK_eq]; rfl
  | .node l v r, n, k => by
    show (bif Nat.beq n 0 then k (.node l (some x) r) else bif Nat.beq (n % 2) 1 then setT l (n / 2) x (fun l => k (.node l v r)) else setT r (n / 2 - 1) x (fun r => k (.node l v r))) = _
    rw [setT_eq x l, setT_eq x r]
    show _ = k (Tr.put0 (n + 1) (.node l v r) n x)
    simp only [Tr.put0]
    cases hn : Nat.beq n 0 with
    | true => rfl
    | false =>
      have : n ≠ 0 := fun e => by subst e; cases hn
      simp only [cond_false]
      cases hm : Nat.beq (n % 2) 1 with
      | true => simp only [cond_true]; unfold Tr.set; rw [put0_fuel (n / 2 + 1) n l (n / 2) x (by omega) (by omega)]
      | false => simp only [cond_false]; unfold Tr.set; rw [put0_fuel (n / 2 - 1 + 1) n r (n / 2 - 1) x (by omega) (by omega)]
noncomputable def getR (t : Tr α) (n : Nat) : Option α :=
  Tr.rec (motive := fun _ => Nat → Option α) (fun _ => none) (fun _ v _ il ir n => bif Nat.beq n 0 then v else bif Nat.beq (n % 2) 1 then il (n / 2) else ir (n / 2 - 1)) t n
theorem getR_eq : ∀ (t : Tr α) (n : Nat), getR t n = t.get n
  | .nil, n => rfl
  | .node l v r, n => by
    show (bif Nat.beq n 0 then v else bif Nat.beq (n % 2) 1 then getR l (n / 2) else getR r (n / 2 - 1)) = _
    rw [getR_eq l, getR_eq r]; rfl
noncomputable def setS (σ : St) (i : Nat) (o : Ob) (k : St → R) : R := match σ with
  | ⟨h, n⟩ => setT h i o fun h => k ⟨h, n⟩
theorem setS_eq (σ : St) (i : Nat) (o : Ob) (k : St → R) : setS σ i o k = k (σ.set i o) := by cases σ; simp only [setS, setT_eq]; rfl
noncomputable def pushS (σ : St) (o : Ob) (k : St → R) : R := match σ with
  | ⟨h, n⟩ => setT h n o fun h => nNat (n + 1) fun n => k ⟨h, n⟩
theorem pushS_eq (σ : St) (o : Ob) (k : St → R) : pushS σ o k = k (σ.push o) := by cases σ; simp only [pushS, setT_eq, nNat_eq]; rfl
noncomputable def putN (t : Tr SV) (d : Option Nat) (v : SV) (k : Tr SV → R) : R := match d with
  | some d => setT t d v k
  | none => k t
theorem putN_eq (t : Tr SV) (d : Option Nat) (v : SV) (k : Tr SV → R) : putN t d v k = k (putD t d v) := by cases d <;> simp only [putN, putD, setT_eq]
noncomputable def evR (x : Opd) (t : Tr SV) : SV := match x with
  | .t n => (match getR t n with
    | some v => v
    | none => .sc .undef)
  | .k v => v
theorem evR_eq (x : Opd) (t : Tr SV) : evR x t = x.ev t := by cases x <;> simp only [evR, Opd.ev, getT, getR_eq] <;> rfl
noncomputable def wantR (t : Tr SV) (g : Option (Nat × Bool)) : Option Bool := match g with
  | none => some true
  | some (g, b) => match evR (.t g) t with
    | .sc (.bool c) => some (c == b)
    | .sc .undef => some false
    | _ => none
theorem wantR_eq (t : Tr SV) (g : Option (Nat × Bool)) : wantR t g = wantedS t g := by cases g <;> simp only [wantR, wantedS, evR_eq, Opd.ev] <;> rfl
noncomputable def cellsR (σ : St) (id : Nat) : Option (List SV) := match getR σ.heap id with
  | some (.cells cs) => some cs
  | _ => none
theorem cellsR_eq (σ : St) (id : Nat) : cellsR σ id = cellsOf σ id := by simp only [cellsR, cellsOf, getR_eq, St.get]; rfl
noncomputable def fillN (t : Tr SV) (n : Nat) : List SV → (Tr SV → R) → R
  | [], k => k t
  | x :: r, k => setT t n x fun t => fillN t (n + 1) r k
theorem fillN_eq : ∀ (l : List SV) (t : Tr SV) (n : Nat) (k : Tr SV → R), fillN t n l k = k (Tr.fill t n l)
  | [], t, n, k => rfl
  | x :: r, t, n, k => by simp only [fillN, setT_eq, fillN_eq r]; rfl
noncomputable def manyN (t : Tr SV) : List Nat → List SV → (Tr SV → R) → R
  | p :: ps, v :: vs, k => setT t p v fun t => manyN t ps vs k
  | _, _, k => k t
theorem manyN_eq : ∀ (ps : List Nat) (vs : List SV) (t : Tr SV) (k : Tr SV → R), manyN t ps vs k = k (setMany t ps vs)
  | p :: ps, v :: vs, t, k => by simp only [manyN, setT_eq, manyN_eq ps vs, setMany]
  | [], _, t, k => by simp [manyN, setMany]
  | _ :: _, [], t, k => by simp [manyN, setMany]
end
def outN (v : SV) (σ : St) : Option (SV × St) := nSV v fun v => some (v, σ)
theorem outN_eq (v : SV) (σ : St) : outN v σ = some (v, σ) := by simp only [outN, nSV_eq]
noncomputable def newN (σ : St) (cs : List SV) (mk : Nat → SV) : Option (SV × St) := nL cs fun cs => pushS σ (.cells cs) fun σ' => nSV (mk σ.next) fun v => some (v, σ')
theorem newN_eq (σ : St) (cs : List SV) (mk : Nat → SV) : newN σ cs mk = some (mk σ.next, σ.push (.cells cs)) := by simp only [newN, nL_eq, pushS_eq, nSV_eq]
/-! Lists, by their recursors: quicker in the kernel. -/
noncomputable def lenR (l : List SV) : Nat := List.rec 0 (fun _ _ ih => ih + 1) l
theorem lenR_eq : ∀ l : List SV, lenR l = l.length
  | [] => rfl
  | c :: l => by show lenR l + 1 = _; rw [lenR_eq l]; rfl
noncomputable def dropR (n : Nat) (l : List SV) : List SV := Nat.rec (motive := fun _ => List SV → List SV) (fun l => l) (fun _ ih l => List.casesOn l [] (fun _ t => ih t)) n l
theorem dropR_eq : ∀ (n : Nat) (l : List SV), dropR n l = l.drop n
  | 0, l => rfl
  | n + 1, [] => rfl
  | n + 1, c :: l => by show dropR n l = _; rw [dropR_eq n l]; rfl
noncomputable def oneAt (cs : List SV) (off : Nat) : Option SV := List.casesOn (dropR off cs) none (fun c _ => some c)
theorem oneAt_eq (cs : List SV) (off : Nat) : oneAt cs off = cs[off]? := by
  unfold oneAt
  rw [dropR_eq]
  by_cases h : off < cs.length
  · rw [List.drop_eq_getElem_cons h, List.getElem?_eq_getElem h]
  · rw [List.drop_eq_nil_of_le (by omega), List.getElem?_eq_none (by omega)]
noncomputable def pasteK {R : Type} (off : Nat) (cs : List SV) (v : SV) (k : List SV → R) : R :=
  Nat.rec (motive := fun _ => List SV → (List SV → R) → R) (fun cs k => List.casesOn cs (k [v]) (fun _ t => k (v :: t))) (fun _ ih cs k => List.casesOn cs (k [v]) (fun c t => ih t (fun t => k (c :: t)))) off cs k
theorem pasteK_eq {R : Type} (v : SV) : ∀ (off : Nat) (cs : List SV) (k : List SV → R), pasteK off cs v k = k (paste cs off [v])
  | 0, [], k => rfl
  | 0, c :: cs, k => rfl
  | off + 1, [], k => rfl
  | off + 1, c :: cs, k => by
    show pasteK off cs v (fun t => k (c :: t)) = _
    rw [pasteK_eq v off cs]; simp [paste]
noncomputable def loadN (σ : St) (ag : Bool) (n : Nat) (p : SV) : Option (SV × St) := match p with
  | .ptr id off => match cellsR σ id with
    | some cs => bif Nat.beq n 1 && !ag then (match oneAt cs off with
        | some v => some (v, σ)
        | none => none)
      else bif ag && (Nat.beq off 0 && Nat.beq (lenR cs) n) then some (.agg cs, σ)
      else (match loadSV σ ag n (.ptr id off) with
        | some v => outN v σ
        | none => none)
    | none => none
  | p => match loadSV σ ag n p with
    | some v => outN v σ
    | none => none
theorem map_outN (o : Option SV) (σ : St) : (match o with | some v => outN v σ | none => none) = o.map fun v => (v, σ) := by cases o <;> simp [outN_eq]
theorem loadN_eq (σ : St) (ag : Bool) (n : Nat) (p : SV) : loadN σ ag n p = (loadSV σ ag n p).map fun v => (v, σ) := by
  cases p with
  | ptr id off =>
    simp only [loadN, map_outN, cellsR_eq]
    cases hc : cellsOf σ id with
    | none => simp [loadSV, hc]
    | some cs =>
      simp only
      cases h1 : (Nat.beq n 1 && !ag) with
      | true =>
        simp only [Bool.and_eq_true, Bool.not_eq_true'] at h1
        have hn : n = 1 := Nat.eq_of_beq_eq_true h1.1
        rw [hn, h1.2, oneAt_eq]
        simp only [cond_true, loadSV, hc, Option.bind_some, cut_def]
        by_cases h : off < cs.length
        · rw [List.getElem?_eq_getElem h, if_pos (by omega), List.drop_eq_getElem_cons h]; rfl
        · rw [List.getElem?_eq_none (by omega), if_neg (by omega)]; rfl
      | false =>
        simp only [cond_false]
        cases h2 : (ag && (Nat.beq off 0 && Nat.beq (lenR cs) n)) with
        | true =>
          simp only [Bool.and_eq_true] at h2
          have ho : off = 0 := Nat.eq_of_beq_eq_true h2.2.1
          have hl : lenR cs = n := Nat.eq_of_beq_eq_true h2.2.2
          rw [lenR_eq] at hl
          subst ho; subst hl
          simp [h2.1, loadSV, hc, cut_def, unflat]
        | false => rfl
  | _ => simp only [loadN, map_outN]
noncomputable def storeN (σ : St) (n : Nat) (p v : SV) (slow : Option (SV × St)) : Option (SV × St) := match p with
  | .ptr id off => match cellsR σ id with
    | some cs => (match v with
      | .agg ds => bif Nat.beq off 0 && (Nat.beq (lenR ds) n && Nat.beq (lenR cs) n) then setS σ id (.cells ds) fun σ => some (.undef, σ) else slow
      | .tup _ => slow
      | .sc .undef => slow
      | v => bif Nat.beq n 1 then (match oneAt cs off with
          | some _ => pasteK off cs v fun cs => setS σ id (.cells cs) fun σ => some (.undef, σ)
          | none => none) else slow)
    | none => none
  | _ => none
theorem storeN_eq (σ : St) (n : Nat) (a x : Opd) (t : Tr SV) : storeN σ n (a.ev t) (x.ev t) (sop (.store n a x) t σ) = sop (.store n a x) t σ := by
  cases ha : a.ev t with
  | ptr id off =>
    simp only [storeN, cellsR_eq]
    cases hc : cellsOf σ id with
    | none => simp [sop, ha, hc]
    | some cs =>
      simp only
      have one : ∀ v : SV, x.ev t = v → v.flat = [v] → v.lay = true → (bif Nat.beq n 1 then (match oneAt cs off with
          | some _ => pasteK off cs v fun cs => setS σ id (.cells cs) fun σ => some (.undef, σ)
          | none => none) else sop (.store n a x) t σ) = sop (.store n a x) t σ := by
        intro v hx hf hl
        cases hn : Nat.beq n 1 with
        | false => rfl
        | true =>
          have hn : n = 1 := Nat.eq_of_beq_eq_true hn
          subst hn
          simp only [cond_true, oneAt_eq, pasteK_eq, setS_eq, sop, ha, hc, hx, hf, hl, Option.bind_some]
          by_cases h : off < cs.length
          · rw [List.getElem?_eq_getElem h, if_pos ⟨rfl, by omega, trivial⟩]
          · rw [List.getElem?_eq_none (by omega), if_neg (by intro h2; omega)]
      cases hx : x.ev t with
      | agg ds =>
        simp only
        cases h2 : (Nat.beq off 0 && (Nat.beq (lenR ds) n && Nat.beq (lenR cs) n)) with
        | false => rfl
        | true =>
          simp only [Bool.and_eq_true] at h2
          have ho : off = 0 := Nat.eq_of_beq_eq_true h2.1
          have h3 : lenR ds = n := Nat.eq_of_beq_eq_true h2.2.1
          have h4 : lenR cs = n := Nat.eq_of_beq_eq_true h2.2.2
          rw [lenR_eq] at h3 h4
          simp only [cond_true, setS_eq, sop, ha, hc, hx, Option.bind_some, SV.flat, SV.lay]
          rw [if_pos ⟨h3, by omega, trivial⟩, ho, paste_def, List.drop_eq_nil_of_le (by omega)]
          simp
      | tup vs => rfl
      | sc s => cases s <;> first | rfl | exact one _ hx rfl rfl
      | sl a b c d => exact one _ hx rfl rfl
      | lst a b c => exact one _ hx rfl rfl
      | ptr a b => exact one _ hx rfl rfl
      | iptr a b => exact one _ hx rfl rfl
      | fn a b c => exact one _ hx rfl rfl
      | yld l => exact one _ hx rfl rfl
      | mp l => exact one _ hx rfl rfl
  | _ => simp [storeN, sop, ha]
def wrapN (k : IntKind) (n : Int) : Int := match k, n with
  | .i64, .ofNat m => bif Nat.ble m 4611686018427387904 then .ofNat m else IntKind.i64.wrap (.ofNat m)
  | k, n => k.wrap n
theorem wrapN_eq (k : IntKind) (n : Int) : wrapN k n = k.wrap n := by
  unfold wrapN
  split
  · rename_i m
    cases h : Nat.ble m 4611686018427387904 with
    | false => rfl
    | true =>
      have h := Nat.le_of_ble_eq_true h
      simp only [cond_true]
      rw [IntKind.wrap_i64, Int.ofNat_eq_natCast]; omega
  · rfl
def bN (b : Bool) (σ : St) : Option (SV × St) := match b with
  | true => some (.sc (.bool true), σ)
  | false => some (.sc (.bool false), σ)
theorem bN_eq (b : Bool) (σ : St) : bN b σ = some (.sc (.bool b), σ) := by cases b <;> rfl
def iN (k : IntKind) (n : Int) (σ : St) : Option (SV × St) := nInt (wrapN k n) fun n => some (.sc (.int k n), σ)
theorem iN_eq (k : IntKind) (n : Int) (σ : St) : iN k n σ = some (.sc (.int k (k.wrap n)), σ) := by simp only [iN, nInt_eq, wrapN_eq]
def intN (op : BinOp) (a b : Int) (σ : St) (slow : Option (SV × St)) : Option (SV × St) := match op with
  | .add => iN .i64 (a + b) σ
  | .sub => iN .i64 (a - b) σ
  | .eql => bN (a == b) σ
  | .neq => bN (a != b) σ
  | .lss => bN (a < b) σ
  | .leq => bN (a ≤ b) σ
  | .gtr => bN (a > b) σ
  | .geq => bN (a ≥ b) σ
  | _ => slow
def binN (op : BinOp) (x y : SV) (σ : St) (slow : Option (SV × St)) : Option (SV × St) := match x with
  | .sc (.int .i64 a) => (match y with
    | .sc (.int .i64 b) => intN op a b σ slow
    | _ => slow)
  | _ => slow
theorem binN_eq (tag n : Nat) (op : BinOp) (x y : Opd) (t : Tr SV) (σ : St) : binN op (x.ev t) (y.ev t) σ (sop (.bin tag n op x y) t σ) = sop (.bin tag n op x y) t σ := by
  unfold binN
  split
  · rename_i a hx
    split
    · rename_i b hy
      cases op <;> first | rfl | (simp only [intN, iN_eq, bN_eq, sop, hx, hy, binSV, intBin, if_true, Option.map_some, reduceIte]; done) | (simp [intN, iN_eq, bN_eq, sop, hx, hy, binSV, intBin]; done)
    · rfl
  · rfl
def idxN (n sz : Nat) (x i : SV) (σ : St) (slow : Option (SV × St)) : Option (SV × St) := match i with
  | .sc (.int .i64 (.ofNat m)) => bif Nat.blt m n then (match x with
      | .ptr id o => nNat (o + m * sz) fun o => some (.ptr id o, σ)
      | _ => slow) else slow
  | _ => slow
theorem idxN_eq (n sz : Nat) (x i : Opd) (t : Tr SV) (σ : St) : idxN n sz (x.ev t) (i.ev t) σ (sop (.indexArr n sz x i) t σ) = sop (.indexArr n sz x i) t σ := by
  unfold idxN
  split
  · rename_i m hi
    cases h : Nat.blt m n with
    | false => rfl
    | true =>
      have h : m < n := by simpa [Nat.blt_eq] using h
      simp only [cond_true]
      split
      · rename_i id o hx
        simp only [nNat_eq, sop, hi, hx, intOf]
        rw [if_pos ⟨by simp, by simp; omega⟩]; rfl
      · rfl
  · rfl
noncomputable def pickN (c : SV) (a b : Opd) (t : Tr SV) (σ : St) : Option (SV × St) := match c with
  | .sc (.bool true) => some (evR a t, σ)
  | .sc (.bool false) => some (evR b t, σ)
  | _ => none
noncomputable def mvN (x : Opd) (t : Tr SV) (σ : St) : Option (SV × St) := some (evR x t, σ)
def fldN (off : Nat) (x : SV) (σ : St) (slow : Option (SV × St)) : Option (SV × St) := match x with
  | .ptr id o => nNat (o + off) fun o => some (.ptr id o, σ)
  | _ => slow
theorem fldN_eq (off : Nat) (x : Opd) (t : Tr SV) (σ : St) : fldN off (x.ev t) σ (sop (.fieldA off x) t σ) = sop (.fieldA off x) t σ := by
  unfold fldN
  split
  · rename_i hx; simp only [nNat_eq, sop, hx]
  · rfl
def slowN (o : SOp) (t : Tr SV) (σ : St) : Option (SV × St) := match sop o t σ with
  | some (v, σ) => outN v σ
  | none => none
theorem slowN_eq (o : SOp) (t : Tr SV) (σ : St) : slowN o t σ = sop o t σ := by
  unfold slowN
  cases sop o t σ with
  | none => rfl
  | some p => simp only [outN_eq]
noncomputable def boxN (x : SV) (σ : St) : Option (SV × St) := match x with
  | .agg cs => newN σ cs fun n => .ptr n 0
  | v => if v.one then newN σ [v] fun n => .ptr n 0 else none
noncomputable def buildSlN (sz : Nat) (zs : List SV) (len : Nat) (parts : List (Nat × Nat × Opd)) (t : Tr SV) (σ : St) : Option (SV × St) := match fillParts t zs parts with
  | some cs => newN σ cs fun n => .sl n 0 len sz
  | none => none
noncomputable def mkslN (sz bytes : Nat) (zs : List SV) (l c : Opd) (t : Tr SV) (σ : St) : Option (SV × St) := match intOf (l.ev t), intOf (c.ev t) with
  | some l, some c => if 0 ≤ l ∧ l ≤ c ∧ c * bytes ≤ 2 ^ 40 ∧ c ≤ 2 ^ 40 then newN σ (List.replicate c.toNat zs).flatten (fun n => .sl n 0 l.toNat sz) else none
  | _, _ => none
/-- An operation that is no call. -/
noncomputable def sopN (o : SOp) (t : Tr SV) (σ : St) : Option (SV × St) :=
  match o with
  | .alloc zs => newN σ zs fun n => .ptr n 0
  | .box x => boxN (evR x t) σ
  | .buildSl sz zs len parts => buildSlN sz zs len parts t σ
  | .mksl sz bytes zs l c => mkslN sz bytes zs l c t σ
  | .store n a x => storeN σ n (evR a t) (evR x t) (sop (.store n a x) t σ)
  | .load ag n a => loadN σ ag n (evR a t)
  | .mv x => mvN x t σ
  | .pick c a b => pickN (evR c t) a b t σ
  | .bin tag n op x y => binN op (evR x t) (evR y t) σ (sop (.bin tag n op x y) t σ)
  | .indexArr n sz x i => idxN n sz (evR x t) (evR i t) σ (sop (.indexArr n sz x i) t σ)
  | .fieldA off x => fldN off (evR x t) σ (sop (.fieldA off x) t σ)
  | o => slowN o t σ
theorem sopN_eq (o : SOp) (t : Tr SV) (σ : St) : sopN o t σ = sop o t σ := by
  cases o with
  | alloc zs => simp only [sopN, evR_eq, sop, newN_eq]
  | box x =>
    simp only [sopN, evR_eq, boxN, sop, newN_eq]
    cases x.ev t <;> rfl
  | buildSl sz zs len parts =>
    simp only [sopN, evR_eq, buildSlN, sop, newN_eq]
    cases fillParts t zs parts <;> rfl
  | mksl sz bytes zs l c =>
    simp only [sopN, evR_eq, mkslN, sop, newN_eq]
    cases intOf (l.ev t) <;> cases intOf (c.ev t) <;> rfl
  | store n a x => simp only [sopN, evR_eq, storeN_eq]
  | load ag n a => simp only [sopN, evR_eq, loadN_eq, sop]
  | mv x => simp only [sopN, evR_eq, mvN, sop]
  | pick c a b => simp only [sopN, evR_eq, pickN, sop]; rfl
  | bin tag n op x y => simp only [sopN, evR_eq, binN_eq]
  | indexArr n sz x i => simp only [sopN, evR_eq, idxN_eq]
  | fieldA off x => simp only [sopN, evR_eq, fldN_eq]
  | _ => simp only [sopN, evR_eq, slowN_eq]

/-- The evaluator's functions, of one fuel less. -/
structure Fns where
  exec : SC → Tr SV → St → Option (Ex × Tr SV × St)
  steps : List Step → Tr SV → St → Option (Tr SV × St)
  one : SOp → Tr SV → St → Option (SV × St)
  callV : SV → List SV → St → Option (SV × St)
  call : Nat → List SV → St → Option (SV × St)
  round : Nat → List SV → St → Option (SV × St)
abbrev XR := Option (Ex × Tr SV × St)
def seqE (F : Fns) (a b : SC) (t : Tr SV) (σ : St) : XR := match F.exec a t σ with
  | some (.normal, t1, σ1) => F.exec b t1 σ1
  | r => r
def condE (F : Fns) (c : SV) (a b : SC) (t : Tr SV) (σ : St) : XR := match c with
  | .sc (.bool true) => F.exec a t σ
  | .sc (.bool false) => F.exec b t σ
  | _ => none
def blockE (F : Fns) (id : Nat) (b : SC) (t : Tr SV) (σ : St) : XR := match F.exec b t σ with
  | some (.exit i, t1, σ1) => some (bif Nat.beq i id then .normal else .exit i, t1, σ1)
  | r => r
def regE (F : Fns) (ss : List Step) (t : Tr SV) (σ : St) : XR := match F.steps ss t σ with
  | some (t1, σ1) => some (.normal, t1, σ1)
  | none => none
noncomputable def rngE (F : Fns) (f : SV) (ps : List Nat) (asg body : SC) (t : Tr SV) (σ : St) : XR := match f with
  | .fn g first cap => (match nL (first ++ [.yld σ.next] ++ cap) fun vs => pushS σ (.loop t ps asg body .ready none) fun σ' => F.call g vs σ' with
    | some (_, σ1) => (match σ1.get σ.next with
      | some (.loop _ _ _ _ .busy _) => none
      | some (.loop _ _ _ _ _ none) => setS σ1 σ.next .dead fun σ' => some (.normal, t, σ')
      | some (.loop _ _ _ _ _ (some .ret)) => setS σ1 σ.next .dead fun σ' => some (.ret, t, σ')
      | some (.loop _ _ _ _ _ (some (.exit i))) => setS σ1 σ.next .dead fun σ' => some (.exit i, t, σ')
      | _ => none)
    | none => none)
  | _ => none
noncomputable def execS (E : Env) (F : Fns) (c : SC) (t : Tr SV) (σ : St) : Option (Ex × Tr SV × St) := match c with
  | .skip => some (.normal, t, σ)
  | .seq a b => seqE F a b t σ
  | .cond c a b => condE F (evR c t) a b t σ
  | .block id b => blockE F id b t σ
  | .loop b => seqE F b (.loop b) t σ
  | .exit i => some (.exit i, t, σ)
  | .ret => some (.ret, t, σ)
  | .bad => none
  | .reg ss => regE F ss t σ
  | .rng f ps asg body => rngE F (evR f t) ps asg body t σ
noncomputable def stepsS (E : Env) (F : Fns) (ss : List Step) (t : Tr SV) (σ : St) : Option (Tr SV × St) := match ss with
    | [] => some (t, σ)
    | s :: ss => match wantR t s.guard with
      | some true => (match F.one s.op t σ with
        | some (v, σ1) => bif recheck t σ1 s.re then putN t s.dst v fun t => F.steps ss t σ1 else none
        | none => none)
      | some false => putN t s.dst .undef fun t => F.steps ss t σ
      | none => none
noncomputable def oneS (E : Env) (F : Fns) (o : SOp) (t : Tr SV) (σ : St) : Option (SV × St) := match o with
    | .call f args => nL (args.map (evR · t)) fun vs => F.callV (evR f t) vs σ
    | o => sopN o t σ
noncomputable def callVS (E : Env) (F : Fns) (f : SV) (args : List SV) (σ : St) : Option (SV × St) := match f with
    | .fn f first cap => nL (first ++ args ++ cap) fun vs => F.call f vs σ
    | .yld l => F.round l args σ
    | _ => none
noncomputable def callS (E : Env) (F : Fns) (f : Nat) (args : List SV) (σ : St) : Option (SV × St) := match E.ext f with
    | some g => g args σ
    | none => match E.fn f with
      | some fn => bif Nat.beq args.length fn.np then
          (match fillN .nil 0 args fun t => F.exec fn.body t σ with
          | some (.normal, t1, σ1) => (match resultsSV t1 σ1 fn.results with
            | some v => outN v σ1
            | none => none)
          | some (.ret, t1, σ1) => (match resultsSV t1 σ1 fn.results with
            | some v => outN v σ1
            | none => none)
          | _ => none) else none
      | none => none
noncomputable def roundS (E : Env) (F : Fns) (l : Nat) (args : List SV) (σ : St) : Option (SV × St) := match σ.get l with
    | some (.loop t ps asg body .ready none) => bif Nat.beq args.length ps.length then
        (match manyN t ps args fun t => F.exec asg t σ with
        | some (.normal, t1, σ1) => (match σ1.get l with
          | some (.loop t2 ps2 as2 body2 .ready none) =>
            (match setS σ1 l (.loop t2 ps2 as2 body2 .busy none) fun σ' => F.exec body t1 σ' with
            | some (ex, _, σ2) => (match σ2.get l with
              | some (.loop t3 ps3 as3 body3 _ _) => (match ex with
                | .normal => setS σ2 l (.loop t3 ps3 as3 body3 .ready none) fun σ' => some (.bool true, σ')
                | .ret => setS σ2 l (.loop t3 ps3 as3 body3 .done (some .ret)) fun σ' => some (.bool false, σ')
                | .exit i => setS σ2 l (.loop t3 ps3 as3 body3 .done (some (.exit i))) fun σ' => some (.bool false, σ'))
              | _ => none)
            | none => none)
          | _ => none)
        | _ => none) else none
    | _ => none
noncomputable def step1 (E : Env) (F : Fns) : Fns := ⟨execS E F, stepsS E F, oneS E F, callVS E F, callS E F, roundS E F⟩
def fns0 : Fns := ⟨fun _ _ _ => none, fun _ _ _ => none, fun _ _ _ => none, fun _ _ _ => none, fun _ _ _ => none, fun _ _ _ => none⟩
noncomputable def runN (E : Env) (n : Nat) : Fns := Nat.rec fns0 (fun _ F => step1 E F) n
theorem allN (E : Env) : ∀ n, (∀ c t σ, (runN E n).exec c t σ = exec E n c t σ) ∧ (∀ ss t σ, (runN E n).steps ss t σ = steps E n ss t σ) ∧ (∀ o t σ, (runN E n).one o t σ = one E n o t σ) ∧ (∀ f vs σ, (runN E n).callV f vs σ = callV E n f vs σ) ∧
    (∀ f vs σ, (runN E n).call f vs σ = call E n f vs σ) ∧ (∀ l vs σ, (runN E n).round l vs σ = round E n l vs σ) := by
  intro n
  induction n with
  | zero => exact ⟨fun c t σ => by simp only [exec]; rfl, fun ss t σ => by simp only [steps]; rfl, fun o t σ => by simp only [one]; rfl, fun f vs σ => by simp only [callV]; rfl, fun f vs σ => by simp only [call]; rfl, fun l vs σ => by simp only [round]; rfl⟩
  | succ n ih =>
    have hr : runN E (n + 1) = step1 E (runN E n) := rfl
    rw [hr]
    generalize runN E n = F at ih
    obtain ⟨i1, i2, i3, i4, i5, i6⟩ := ih
    refine ⟨fun c t σ => ?_, fun ss t σ => ?_, fun o t σ => ?_, fun f vs σ => ?_, fun f vs σ => ?_, fun l vs σ => ?_⟩
    · show execS E F c t σ = _
      cases c <;> simp only [execS, seqE, condE, blockE, regE, rngE, evR_eq, exec, i1, i2, i5, nL_eq, pushS_eq, setS_eq] <;> rfl
    · show stepsS E F ss t σ = _
      cases ss with
      | nil => simp only [stepsS, steps]
      | cons s ss => simp only [stepsS, wantR_eq, steps, i2, i3, putN_eq]; rfl
    · show oneS E F o t σ = _
      cases o <;> simp only [oneS, evR_eq, one, nL_eq, i4, sopN_eq]
    · show callVS E F f vs σ = _
      cases f <;> simp only [callVS, callV, nL_eq, i5, i6]
    · show callS E F f vs σ = _
      have hm : ∀ (o : Option SV) (σ1 : St), (match o with | some v => some (v, σ1) | none => none) = o.map fun v => (v, σ1) := fun o σ1 => by cases o <;> rfl
      simp only [callS, call, fillN_eq, i1, outN_eq, hm]
      rfl
    · show roundS E F l vs σ = _
      simp only [roundS, round, manyN_eq, i1, setS_eq]
      try rfl
theorem callN_eq (E : Env) (n f : Nat) (vs : List SV) (σ : St) : (runN E n).call f vs σ = call E n f vs σ := (allN E n).2.2.2.2.1 f vs σ
end Go.Proofs.Ytojjhcgbbmknmaa.Sh

/- What the library's sort does to a row of whole numbers. -/
namespace Go.Proofs.Ytojjhcgbbmknmaa.Sh
set_option linter.unusedSimpArgs false
set_option linter.unusedVariables false
open Go Go.Proofs

def sortInts (l : List Int) : List Int := l.mergeSort fun x y => decide (x ≤ y)
def intsOf : List SV → Option (List Int)
  | [] => some []
  | .sc (.int .i64 n) :: r => (intsOf r).map (n :: ·)
  | _ => none
theorem intsOf_eq : ∀ {cs : List SV} {l : List Int}, intsOf cs = some l → cs = l.map SV.int
  | [], l, h => by simp [intsOf] at h; subst h; rfl
  | c :: cs, l, h => by
    unfold intsOf at h
    split at h
    · rename_i e; cases e
    · rename_i n r e
      cases e
      obtain ⟨l', h1, rfl⟩ := Option.map_eq_some_iff.1 h
      rw [intsOf_eq h1]; rfl
    · cases h
theorem intsOf_map : ∀ l : List Int, intsOf (l.map SV.int) = some l
  | [] => rfl
  | x :: l => by
    show (intsOf (l.map SV.int)).map (x :: ·) = _
    rw [intsOf_map l]; rfl
/-- What the sort does to a row of whole numbers. -/
def sortG (args : List SV) (σ : St) : Option (SV × St) := match args with
  | [.sc .nilsl] => some (.tup [], σ)
  | [.sl id off len sz] => if sz = 1 ∧ len < 4611686018427387904 then (if len = 0 then some (.tup [], σ) else (cellsOf σ id).bind fun cs => (cut cs off len).bind fun r => (intsOf r).map fun l => (.tup [], σ.set id (.cells (paste cs off ((sortInts l).map SV.int))))) else none
  | _ => none

end Go.Proofs.Ytojjhcgbbmknmaa.Sh

/- Functions that are taken as a contract of the kit tells them. -/
namespace Go.Proofs.Ytojjhcgbbmknmaa.Sh
set_option linter.unusedSimpArgs false
set_option linter.unusedVariables false
open Go Go.Proofs
def BS : Nat → Option (List SV → St → Option (SV × St)) := fun f => bif Nat.beq f 48 then some sortG else none
end Go.Proofs.Ytojjhcgbbmknmaa.Sh
