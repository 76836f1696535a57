/- What code of the shadow comes to, without fuel: rules to rewrite by. -/
import Derived.Test.YtojjhcgbbmknmaaShMono
namespace Go.Proofs.Ytojjhcgbbmknmaa.Sh
set_option linter.unusedSimpArgs false
set_option linter.unusedVariables false
open Go

section
variable (E : Env)
def WP (c : SC) (t : Tr SV) (σ : St) (Q : Ex → Tr SV → St → Prop) : Prop := ∃ n ex t' σ', exec E n c t σ = some (ex, t', σ') ∧ Q ex t' σ'
def WPS (ss : List Step) (t : Tr SV) (σ : St) (Q : Tr SV → St → Prop) : Prop := ∃ n t' σ', steps E n ss t σ = some (t', σ') ∧ Q t' σ'
def WPC (f : SV) (args : List SV) (σ : St) (Q : SV → St → Prop) : Prop := ∃ n v σ', callV E n f args σ = some (v, σ') ∧ Q v σ'
def WPF (f : Nat) (args : List SV) (σ : St) (Q : SV → St → Prop) : Prop := ∃ n v σ', call E n f args σ = some (v, σ') ∧ Q v σ'
def WPR (l : Nat) (args : List SV) (σ : St) (Q : SV → St → Prop) : Prop := ∃ n v σ', round E n l args σ = some (v, σ') ∧ Q v σ'
variable {E}
variable {t : Tr SV} {σ : St} {Q Q' : Ex → Tr SV → St → Prop}

theorem WP.mono {c : SC} (h : WP E c t σ Q) (k : ∀ ex t σ, Q ex t σ → Q' ex t σ) : WP E c t σ Q' := by
  obtain ⟨n, ex, t', σ', h1, h2⟩ := h
  exact ⟨n, ex, t', σ', h1, k _ _ _ h2⟩
theorem WPS.mono {ss : List Step} {Q Q' : Tr SV → St → Prop} (h : WPS E ss t σ Q) (k : ∀ t σ, Q t σ → Q' t σ) : WPS E ss t σ Q' := by
  obtain ⟨n, t', σ', h1, h2⟩ := h
  exact ⟨n, t', σ', h1, k _ _ h2⟩
theorem WPF.mono {f : Nat} {args : List SV} {Q Q' : SV → St → Prop} (h : WPF E f args σ Q) (k : ∀ v σ, Q v σ → Q' v σ) : WPF E f args σ Q' := by
  obtain ⟨n, t', σ', h1, h2⟩ := h
  exact ⟨n, t', σ', h1, k _ _ h2⟩
theorem WPC.mono {f : SV} {args : List SV} {Q Q' : SV → St → Prop} (h : WPC E f args σ Q) (k : ∀ v σ, Q v σ → Q' v σ) : WPC E f args σ Q' := by
  obtain ⟨n, t', σ', h1, h2⟩ := h
  exact ⟨n, t', σ', h1, k _ _ h2⟩
theorem WPR.mono {l : Nat} {args : List SV} {Q Q' : SV → St → Prop} (h : WPR E l args σ Q) (k : ∀ v σ, Q v σ → Q' v σ) : WPR E l args σ Q' := by
  obtain ⟨n, t', σ', h1, h2⟩ := h
  exact ⟨n, t', σ', h1, k _ _ h2⟩

theorem WP_skip : WP E .skip t σ Q ↔ Q .normal t σ := by
  constructor
  · rintro ⟨n, ex, t', σ', h, k⟩
    cases n with
    | zero => simp [exec] at h
    | succ n => simp only [exec, Option.some.injEq, Prod.mk.injEq] at h; obtain ⟨rfl, rfl, rfl⟩ := h; exact k
  · intro h; exact ⟨1, _, _, _, by simp only [exec], h⟩
theorem WP_exit {i : Nat} : WP E (.exit i) t σ Q ↔ Q (.exit i) t σ := by
  constructor
  · rintro ⟨n, ex, t', σ', h, k⟩
    cases n with
    | zero => simp [exec] at h
    | succ n => simp only [exec, Option.some.injEq, Prod.mk.injEq] at h; obtain ⟨rfl, rfl, rfl⟩ := h; exact k
  · intro h; exact ⟨1, _, _, _, by simp only [exec], h⟩
theorem WP_ret : WP E .ret t σ Q ↔ Q .ret t σ := by
  constructor
  · rintro ⟨n, ex, t', σ', h, k⟩
    cases n with
    | zero => simp [exec] at h
    | succ n => simp only [exec, Option.some.injEq, Prod.mk.injEq] at h; obtain ⟨rfl, rfl, rfl⟩ := h; exact k
  · intro h; exact ⟨1, _, _, _, by simp only [exec], h⟩

/-- What follows a piece of code. -/
def Then (next : Tr SV → St → Prop) (Q : Ex → Tr SV → St → Prop) : Ex → Tr SV → St → Prop
  | .normal, t, σ => next t σ
  | ex, t, σ => Q ex t σ
theorem Then_normal {next : Tr SV → St → Prop} : Then next Q .normal t σ ↔ next t σ := Iff.rfl
theorem Then_ret {next : Tr SV → St → Prop} : Then next Q .ret t σ ↔ Q .ret t σ := Iff.rfl
theorem Then_exit {i : Nat} {next : Tr SV → St → Prop} : Then next Q (.exit i) t σ ↔ Q (.exit i) t σ := Iff.rfl
def InBlock (id : Nat) (Q : Ex → Tr SV → St → Prop) : Ex → Tr SV → St → Prop
  | .exit i, t, σ => Q (bif Nat.beq i id then .normal else .exit i) t σ
  | ex, t, σ => Q ex t σ
theorem InBlock_normal {id : Nat} : InBlock id Q .normal t σ ↔ Q .normal t σ := Iff.rfl
theorem InBlock_ret {id : Nat} : InBlock id Q .ret t σ ↔ Q .ret t σ := Iff.rfl
theorem InBlock_exit {id i : Nat} : InBlock id Q (.exit i) t σ ↔ Q (bif Nat.beq i id then .normal else .exit i) t σ := Iff.rfl

theorem WP_seq {a b : SC} : WP E (.seq a b) t σ Q ↔ WP E a t σ (Then (fun t1 σ1 => WP E b t1 σ1 Q) Q) := by
  constructor
  · rintro ⟨n, ex, t', σ', h, k⟩
    cases n with
    | zero => simp [exec] at h
    | succ n =>
      rw [exec_seq] at h
      cases ha : exec E n a t σ with
      | none => simp [ha] at h
      | some x =>
        obtain ⟨ex1, t1, σ1⟩ := x
        rw [ha] at h
        refine ⟨n, ex1, t1, σ1, ha, ?_⟩
        cases ex1 with
        | normal => exact ⟨n, ex, t', σ', h, k⟩
        | exit i => simp only [Option.some.injEq, Prod.mk.injEq] at h; obtain ⟨rfl, rfl, rfl⟩ := h; exact k
        | ret => simp only [Option.some.injEq, Prod.mk.injEq] at h; obtain ⟨rfl, rfl, rfl⟩ := h; exact k
  · rintro ⟨n, ex, t1, σ1, h, k⟩
    cases ex with
    | normal =>
      obtain ⟨m, ex, t', σ', h2, k2⟩ := k
      refine ⟨max n m + 1, ex, t', σ', ?_, k2⟩
      rw [exec_seq, mono_exec (Nat.le_max_left n m) h]
      exact mono_exec (Nat.le_max_right n m) h2
    | exit i => exact ⟨n + 1, _, _, _, by rw [exec_seq, h], k⟩
    | ret => exact ⟨n + 1, _, _, _, by rw [exec_seq, h], k⟩

theorem WP_cond {c : Opd} {a b : SC} {x : Bool} (hc : c.ev t = .sc (.bool x)) : WP E (.cond c a b) t σ Q ↔ WP E (if x = true then a else b) t σ Q := by
  constructor
  · rintro ⟨n, ex, t', σ', h, k⟩
    cases n with
    | zero => simp [exec] at h
    | succ n =>
      rw [exec_cond, hc] at h
      cases x
      · exact ⟨n, _, _, _, h, k⟩
      · exact ⟨n, _, _, _, h, k⟩
  · rintro ⟨n, ex, t', σ', h, k⟩
    refine ⟨n + 1, ex, t', σ', ?_, k⟩
    rw [exec_cond, hc]
    cases x <;> exact h

theorem WP_block {id : Nat} {b : SC} : WP E (.block id b) t σ Q ↔ WP E b t σ (InBlock id Q) := by
  constructor
  · rintro ⟨n, ex, t', σ', h, k⟩
    cases n with
    | zero => simp [exec] at h
    | succ n =>
      rw [exec_block] at h
      cases ha : exec E n b t σ with
      | none => simp [ha] at h
      | some x =>
        obtain ⟨ex1, t1, σ1⟩ := x
        rw [ha] at h
        refine ⟨n, ex1, t1, σ1, ha, ?_⟩
        cases ex1 with
        | normal => simp only [Option.some.injEq, Prod.mk.injEq] at h; obtain ⟨rfl, rfl, rfl⟩ := h; exact k
        | exit i => simp only [Option.some.injEq, Prod.mk.injEq] at h; obtain ⟨rfl, rfl, rfl⟩ := h; exact k
        | ret => simp only [Option.some.injEq, Prod.mk.injEq] at h; obtain ⟨rfl, rfl, rfl⟩ := h; exact k
  · rintro ⟨n, ex, t1, σ1, h, k⟩
    cases ex with
    | normal => exact ⟨n + 1, _, _, _, by rw [exec_block, h], k⟩
    | exit i => exact ⟨n + 1, _, _, _, by rw [exec_block, h], k⟩
    | ret => exact ⟨n + 1, _, _, _, by rw [exec_block, h], k⟩

theorem WP_loop {b : SC} : WP E (.loop b) t σ Q ↔ WP E b t σ (Then (fun t1 σ1 => WP E (.loop b) t1 σ1 Q) Q) := by
  constructor
  · rintro ⟨n, ex, t', σ', h, k⟩
    cases n with
    | zero => simp [exec] at h
    | succ n =>
      rw [exec_loop] at h
      cases ha : exec E n b t σ with
      | none => simp [ha] at h
      | some x =>
        obtain ⟨ex1, t1, σ1⟩ := x
        rw [ha] at h
        refine ⟨n, ex1, t1, σ1, ha, ?_⟩
        cases ex1 with
        | normal => exact ⟨n, ex, t', σ', h, k⟩
        | exit i => simp only [Option.some.injEq, Prod.mk.injEq] at h; obtain ⟨rfl, rfl, rfl⟩ := h; exact k
        | ret => simp only [Option.some.injEq, Prod.mk.injEq] at h; obtain ⟨rfl, rfl, rfl⟩ := h; exact k
  · rintro ⟨n, ex, t1, σ1, h, k⟩
    cases ex with
    | normal =>
      obtain ⟨m, ex, t', σ', h2, k2⟩ := k
      refine ⟨max n m + 1, ex, t', σ', ?_, k2⟩
      rw [exec_loop, mono_exec (Nat.le_max_left n m) h]
      exact mono_exec (Nat.le_max_right n m) h2
    | exit i => exact ⟨n + 1, _, _, _, by rw [exec_loop, h], k⟩
    | ret => exact ⟨n + 1, _, _, _, by rw [exec_loop, h], k⟩

/-- A loop by an invariant that is counted down. -/
theorem WP_loop_inv {b : SC} (I : Nat → Tr SV → St → Prop) (step : ∀ k t σ, I k t σ → WP E b t σ (Then (fun t1 σ1 => ∃ k', k' < k ∧ I k' t1 σ1) Q)) : ∀ {k : Nat} {t : Tr SV} {σ : St}, I k t σ → WP E (.loop b) t σ Q := by
  intro k
  induction k using Nat.strongRecOn with
  | _ k ih =>
    intro t σ h
    rw [WP_loop]
    refine (step k t σ h).mono fun ex t1 σ1 hq => ?_
    cases ex with
    | normal => obtain ⟨k', hlt, hi⟩ := hq; exact ih k' hlt hi
    | exit i => exact hq
    | ret => exact hq

theorem WP_reg {ss : List Step} : WP E (.reg ss) t σ Q ↔ WPS E ss t σ (fun t1 σ1 => Q .normal t1 σ1) := by
  constructor
  · rintro ⟨n, ex, t', σ', h, k⟩
    cases n with
    | zero => simp [exec] at h
    | succ n =>
      rw [exec_reg] at h
      cases ha : steps E n ss t σ with
      | none => simp [ha] at h
      | some x =>
        rw [ha] at h
        simp only [Option.some.injEq, Prod.mk.injEq] at h; obtain ⟨rfl, rfl, rfl⟩ := h
        exact ⟨n, _, _, ha, k⟩
  · rintro ⟨n, t1, σ1, h, k⟩
    exact ⟨n + 1, _, _, _, by rw [exec_reg, h], k⟩

/-- How a loop over a function is left. -/
def LeftBy (L : Nat) (t : Tr SV) (σ1 : St) (Q : Ex → Tr SV → St → Prop) : Prop :=
  match σ1.get L with
  | some (.loop _ _ _ _ st pend) => st ≠ .busy ∧ (match pend with
    | none => Q .normal t (σ1.set L .dead)
    | some .ret => Q .ret t (σ1.set L .dead)
    | some (.exit i) => Q (.exit i) t (σ1.set L .dead))
  | _ => False
theorem WP_rng {f : Opd} {ps : List Nat} {as body : SC} {g : Nat} {first cap : List SV} (hf : f.ev t = .fn g first cap) (h : WPF E g (first ++ [.yld σ.next] ++ cap) (σ.push (.loop t ps as body .ready none)) (fun _ σ1 => LeftBy σ.next t σ1 Q)) :
    WP E (.rng f ps as body) t σ Q := by
  obtain ⟨n, v, σ1, h1, h2⟩ := h
  unfold LeftBy at h2
  split at h2
  · rename_i t3 ps3 as3 b3 st pend hg
    obtain ⟨hst, h2⟩ := h2
    cases pend with
    | none =>
      refine ⟨n + 1, _, _, _, ?_, h2⟩
      rw [exec_rng, hf]; simp only; rw [h1]; simp only [hg]
      try (cases st <;> first | rfl | exact absurd rfl hst)
    | some j =>
      cases j with
      | ret =>
        refine ⟨n + 1, _, _, _, ?_, h2⟩
        rw [exec_rng, hf]; simp only; rw [h1]; simp only [hg]
        try (cases st <;> first | rfl | exact absurd rfl hst)
      | exit i =>
        refine ⟨n + 1, _, _, _, ?_, h2⟩
        rw [exec_rng, hf]; simp only; rw [h1]; simp only [hg]
        try (cases st <;> first | rfl | exact absurd rfl hst)
  · exact h2.elim

section
variable {QS : Tr SV → St → Prop}
theorem WPS_nil : WPS E [] t σ QS ↔ QS t σ := by
  constructor
  · rintro ⟨n, t', σ', h, k⟩
    cases n with
    | zero => simp [steps] at h
    | succ n => simp only [steps, Option.some.injEq, Prod.mk.injEq] at h; obtain ⟨rfl, rfl⟩ := h; exact k
  · intro h; exact ⟨1, _, _, by simp only [steps], h⟩
def isCall : SOp → Bool
  | .call .. => true
  | _ => false
theorem one_plain {n : Nat} {op : SOp} (h : isCall op = false) : one E (n + 1) op t σ = sop op t σ := by
  cases op <;> first | rfl | simp [isCall] at h
theorem WPS_pure {d : Option Nat} {op : SOp} {ss : List Step} {v : SV} {σ1 : St} (hop : isCall op = false) (hs : sop op t σ = some (v, σ1)) : WPS E (⟨d, none, op, []⟩ :: ss) t σ QS ↔ WPS E ss (putD t d v) σ1 QS := by
  constructor
  · rintro ⟨n, t', σ', h, k⟩
    cases n with
    | zero => simp [steps] at h
    | succ n =>
      rw [steps_cons] at h
      simp only [wantedS] at h
      cases n with
      | zero => simp [one] at h
      | succ n =>
        rw [one_plain hop, hs] at h
        simp only [recheck, cond_true] at h
        exact ⟨_, _, _, h, k⟩
  · rintro ⟨n, t', σ', h, k⟩
    refine ⟨n + 1 + 1, t', σ', ?_, k⟩
    rw [steps_cons]
    simp only [wantedS]
    rw [one_plain hop, hs]
    simp only [recheck, cond_true]
    exact mono_steps (by omega) h
/-- A step, whatever its guard, whatever is looked at again. -/
theorem WPS_step {s : Step} {ss : List Step} {v : SV} {σ1 : St} (hop : isCall s.op = false) (hw : wantedS t s.guard = some true) (hs : sop s.op t σ = some (v, σ1)) (hre : recheck t σ1 s.re = true) (h : WPS E ss (putD t s.dst v) σ1 QS) : WPS E (s :: ss) t σ QS := by
  obtain ⟨n, t', σ', h, k⟩ := h
  refine ⟨n + 1 + 1, t', σ', ?_, k⟩
  rw [steps_cons, hw]
  simp only
  rw [one_plain hop, hs]
  simp only [hre, cond_true]
  exact mono_steps (by omega) h
theorem WPS_skip {s : Step} {ss : List Step} (hw : wantedS t s.guard = some false) : WPS E (s :: ss) t σ QS ↔ WPS E ss (putD t s.dst .undef) σ QS := by
  constructor
  · rintro ⟨n, t', σ', h, k⟩
    cases n with
    | zero => simp [steps] at h
    | succ n => rw [steps_cons, hw] at h; exact ⟨_, _, _, h, k⟩
  · rintro ⟨n, t', σ', h, k⟩
    exact ⟨n + 1, t', σ', by rw [steps_cons, hw]; exact h, k⟩
theorem WPS_cons {s : Step} {ss : List Step} (hop : isCall s.op = false) : WPS E (s :: ss) t σ QS ↔ (match wantedS t s.guard with
    | some true => (match sop s.op t σ with
      | some (v, σ1) => recheck t σ1 s.re = true ∧ WPS E ss (putD t s.dst v) σ1 QS
      | none => False)
    | some false => WPS E ss (putD t s.dst .undef) σ QS
    | none => False) := by
  constructor
  · rintro ⟨n, t', σ', h, k⟩
    cases n with
    | zero => simp [steps] at h
    | succ n =>
      rw [steps_cons] at h
      split at h
      · rename_i hw
        rw [hw]
        cases n with
        | zero => simp [one] at h
        | succ n =>
          rw [one_plain hop] at h
          cases hs : sop s.op t σ with
          | none => simp [hs] at h
          | some x =>
            obtain ⟨v, σ1⟩ := x
            rw [hs] at h
            simp only at h ⊢
            cases hre : recheck t σ1 s.re with
            | false => simp [hre] at h
            | true => rw [hre] at h; exact ⟨rfl, _, _, _, h, k⟩
      · rename_i hw
        rw [hw]
        exact ⟨_, _, _, h, k⟩
      · cases h
  · intro h
    split at h
    · rename_i hw
      split at h
      · rename_i v σ1 hs
        exact WPS_step hop hw hs h.1 h.2
      · exact h.elim
    · rename_i hw
      exact (WPS_skip hw).2 h
    · exact h.elim
theorem WPS_call {d : Option Nat} {g : Option (Nat × Bool)} {re : List (Nat × Option (Nat × Bool) × SOp)} {f : Opd} {args : List Opd} {ss : List Step} (hw : wantedS t g = some true) (h : WPC E (f.ev t) (args.map (·.ev t)) σ (fun v σ1 => recheck t σ1 re = true ∧ WPS E ss (putD t d v) σ1 QS)) :
    WPS E (⟨d, g, .call f args, re⟩ :: ss) t σ QS := by
  obtain ⟨n, v, σ1, h1, h2, m, t', σ', h3, k⟩ := h
  refine ⟨max (n + 1) m + 1, t', σ', ?_, k⟩
  rw [steps_cons]
  simp only [hw]
  obtain ⟨q, hq⟩ : ∃ q, max (n + 1) m = q + 1 := ⟨max (n + 1) m - 1, by omega⟩
  have : one E (max (n + 1) m) (.call f args) t σ = some (v, σ1) := by
    rw [hq]
    simp only [one]
    exact mono_callV (by omega) h1
  rw [this]
  simp only [h2, cond_true]
  exact mono_steps (by omega) h3
end

theorem WPC_fn {f : Nat} {first cap args : List SV} {Q : SV → St → Prop} (h : WPF E f (first ++ args ++ cap) σ Q) : WPC E (.fn f first cap) args σ Q := by
  obtain ⟨n, v, σ', h, k⟩ := h
  exact ⟨n + 1, v, σ', by rw [callV_eq]; exact h, k⟩
theorem WPC_yld {l : Nat} {args : List SV} {Q : SV → St → Prop} (h : WPR E l args σ Q) : WPC E (.yld l) args σ Q := by
  obtain ⟨n, v, σ', h, k⟩ := h
  exact ⟨n + 1, v, σ', by rw [callV_eq]; exact h, k⟩
/-- A function's end. -/
def Ends (rs : List RV) (Q : SV → St → Prop) : Ex → Tr SV → St → Prop
  | .exit _, _, _ => False
  | _, t, σ => ∃ v, resultsSV t σ rs = some v ∧ Q v σ
theorem Ends_normal {rs : List RV} {Q : SV → St → Prop} : Ends rs Q .normal t σ ↔ ∃ v, resultsSV t σ rs = some v ∧ Q v σ := Iff.rfl
theorem Ends_ret {rs : List RV} {Q : SV → St → Prop} : Ends rs Q .ret t σ ↔ ∃ v, resultsSV t σ rs = some v ∧ Q v σ := Iff.rfl
theorem WPF_fn {f : Nat} {fn : SFun} {args : List SV} {Q : SV → St → Prop} (he : E.ext f = none) (hf : E.fn f = some fn) (hl : args.length = fn.np) (h : WP E fn.body (Tr.fill .nil 0 args) σ (Ends fn.results Q)) : WPF E f args σ Q := by
  obtain ⟨n, ex, t', σ', h, k⟩ := h
  have hb : Nat.beq args.length fn.np = true := by rw [hl]; exact Nat.beq_refl _
  cases ex with
  | exit i => exact k.elim
  | normal =>
    obtain ⟨v, h1, h2⟩ := k
    exact ⟨n + 1, v, σ', by rw [call_eq, he]; simp only [hf, hb, cond_true, h, h1, Option.map_some], h2⟩
  | ret =>
    obtain ⟨v, h1, h2⟩ := k
    exact ⟨n + 1, v, σ', by rw [call_eq, he]; simp only [hf, hb, cond_true, h, h1, Option.map_some], h2⟩
theorem WPF_ext {f : Nat} {g : List SV → St → Option (SV × St)} {args : List SV} {Q : SV → St → Prop} {v : SV} {σ' : St} (he : E.ext f = some g) (h : g args σ = some (v, σ')) (k : Q v σ') : WPF E f args σ Q :=
  ⟨1, v, σ', by rw [call_eq, he]; exact h, k⟩
/-- A round: the assignment, the body, the end. -/
def RoundEnd (L : Nat) (Q : SV → St → Prop) : Ex → Tr SV → St → Prop := fun ex _ σ2 => match σ2.get L with
  | some (.loop t3 ps3 as3 body3 _ _) => (match ex with
    | .normal => Q (.bool true) (σ2.set L (.loop t3 ps3 as3 body3 .ready none))
    | .ret => Q (.bool false) (σ2.set L (.loop t3 ps3 as3 body3 .done (some .ret)))
    | .exit i => Q (.bool false) (σ2.set L (.loop t3 ps3 as3 body3 .done (some (.exit i)))))
  | _ => False
theorem WPR_round {L : Nat} {args : List SV} {Q : SV → St → Prop} {t : Tr SV} {ps : List Nat} {as body : SC} (hg : σ.get L = some (.loop t ps as body .ready none)) (hl : args.length = ps.length)
    (h : WP E as (setMany t ps args) σ (Then (fun t1 σ1 => ∃ t2 ps2 as2 body2, σ1.get L = some (.loop t2 ps2 as2 body2 .ready none) ∧ WP E body t1 (σ1.set L (.loop t2 ps2 as2 body2 .busy none)) (RoundEnd L Q)) (fun _ _ _ => False))) : WPR E L args σ Q := by
  obtain ⟨n, ex, t1, σ1, h1, k⟩ := h
  cases ex with
  | exit i => exact k.elim
  | ret => exact k.elim
  | normal =>
    obtain ⟨t2, ps2, as2, body2, hg1, m, ex2, t', σ2, h2, k2⟩ := k
    have hb : Nat.beq args.length ps.length = true := by rw [hl]; exact Nat.beq_refl _
    have e1 := mono_exec (Nat.le_max_left n m) h1
    have e2 := mono_exec (Nat.le_max_right n m) h2
    unfold RoundEnd at k2
    split at k2
    · rename_i t3 ps3 as3 b3 st pend hg2
      cases ex2 with
      | normal => exact ⟨max n m + 1, _, _, by rw [round_eq, hg]; simp only [hb, cond_true, e1, hg1, e2, hg2], k2⟩
      | ret => exact ⟨max n m + 1, _, _, by rw [round_eq, hg]; simp only [hb, cond_true, e1, hg1, e2, hg2], k2⟩
      | exit i => exact ⟨max n m + 1, _, _, by rw [round_eq, hg]; simp only [hb, cond_true, e1, hg1, e2, hg2], k2⟩
    · exact k2.elim
end
end Go.Proofs.Ytojjhcgbbmknmaa.Sh
