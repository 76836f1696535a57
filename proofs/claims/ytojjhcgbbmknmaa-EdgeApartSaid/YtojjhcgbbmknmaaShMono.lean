/- More fuel changes nothing. -/
import Derived.Test.YtojjhcgbbmknmaaShCore
namespace Go.Proofs.Ytojjhcgbbmknmaa.Sh
set_option linter.unusedSimpArgs false
set_option linter.unusedVariables false
open Go

section
variable {E : Env}

theorem exec_seq (n : Nat) (a b : SC) (t : Tr SV) (σ : St) : exec E (n + 1) (.seq a b) t σ = (match exec E n a t σ with
      | some (.normal, t1, σ1) => exec E n b t1 σ1
      | r => r) := by simp only [exec] <;> rfl
theorem exec_cond (n : Nat) (c : Opd) (a b : SC) (t : Tr SV) (σ : St) : exec E (n + 1) (.cond c a b) t σ = (match c.ev t with
      | .sc (.bool true) => exec E n a t σ
      | .sc (.bool false) => exec E n b t σ
      | _ => none) := by simp only [exec] <;> rfl
theorem exec_block (n id : Nat) (b : SC) (t : Tr SV) (σ : St) : exec E (n + 1) (.block id b) t σ = (match exec E n b t σ with
      | some (.exit i, t1, σ1) => some (bif Nat.beq i id then .normal else .exit i, t1, σ1)
      | r => r) := by simp only [exec] <;> rfl
theorem exec_loop (n : Nat) (b : SC) (t : Tr SV) (σ : St) : exec E (n + 1) (.loop b) t σ = (match exec E n b t σ with
      | some (.normal, t1, σ1) => exec E n (.loop b) t1 σ1
      | r => r) := by simp only [exec] <;> rfl
theorem exec_reg (n : Nat) (ss : List Step) (t : Tr SV) (σ : St) : exec E (n + 1) (.reg ss) t σ = (match steps E n ss t σ with
      | some (t1, σ1) => some (.normal, t1, σ1)
      | none => none) := by simp only [exec] <;> rfl
theorem exec_rng (n : Nat) (f : Opd) (ps : List Nat) (as body : SC) (t : Tr SV) (σ : St) : exec E (n + 1) (.rng f ps as body) t σ = (match f.ev t with
      | .fn g first cap => (match call E n g (first ++ [.yld σ.next] ++ cap) (σ.push (.loop t ps as body .ready none)) with
        | some (_, σ1) => (match σ1.get σ.next with
          | some (.loop _ _ _ _ .busy _) => none
          | some (.loop _ _ _ _ _ none) => some (.normal, t, σ1.set σ.next .dead)
          | some (.loop _ _ _ _ _ (some .ret)) => some (.ret, t, σ1.set σ.next .dead)
          | some (.loop _ _ _ _ _ (some (.exit i))) => some (.exit i, t, σ1.set σ.next .dead)
          | _ => none)
        | none => none)
      | _ => none) := by simp only [exec] <;> rfl
theorem steps_cons (n : Nat) (s : Step) (ss : List Step) (t : Tr SV) (σ : St) : steps E (n + 1) (s :: ss) t σ = (match wantedS t s.guard with
      | some true => (match one E n s.op t σ with
        | some (v, σ1) => bif recheck t σ1 s.re then steps E n ss (putD t s.dst v) σ1 else none
        | none => none)
      | some false => steps E n ss (putD t s.dst .undef) σ
      | none => none) := by simp only [steps] <;> rfl
theorem callV_eq (n : Nat) (f : SV) (args : List SV) (σ : St) : callV E (n + 1) f args σ = (match f with
    | .fn f first cap => call E n f (first ++ args ++ cap) σ
    | .yld l => round E n l args σ
    | _ => none) := by simp only [callV] <;> rfl
theorem call_eq (n f : Nat) (args : List SV) (σ : St) : call E (n + 1) f args σ = (match E.ext f with
    | some g => g args σ
    | none => match E.fn f with
      | some fn => bif Nat.beq args.length fn.np then
          (match exec E n fn.body (Tr.fill .nil 0 args) σ with
          | some (.normal, t1, σ1) => (resultsSV t1 σ1 fn.results).map fun v => (v, σ1)
          | some (.ret, t1, σ1) => (resultsSV t1 σ1 fn.results).map fun v => (v, σ1)
          | _ => none) else none
      | none => none) := by simp only [call] <;> rfl
theorem round_eq (n l : Nat) (args : List SV) (σ : St) : round E (n + 1) l args σ = (match σ.get l with
    | some (.loop t ps as body .ready none) => bif Nat.beq args.length ps.length then
        (match exec E n as (setMany t ps args) σ with
        | some (.normal, t1, σ1) => (match σ1.get l with
          | some (.loop t2 ps2 as2 body2 .ready none) =>
            (match exec E n body t1 (σ1.set l (.loop t2 ps2 as2 body2 .busy none)) with
            | some (ex, _, σ2) => (match σ2.get l with
              | some (.loop t3 ps3 as3 body3 _ _) => (match ex with
                | .normal => some (.bool true, σ2.set l (.loop t3 ps3 as3 body3 .ready none))
                | .ret => some (.bool false, σ2.set l (.loop t3 ps3 as3 body3 .done (some .ret)))
                | .exit i => some (.bool false, σ2.set l (.loop t3 ps3 as3 body3 .done (some (.exit i)))))
              | _ => none)
            | none => none)
          | _ => none)
        | _ => none) else none
    | _ => none) := by simp only [round] <;> rfl

structure MonoAt (E : Env) (n : Nat) : Prop where
  exec : ∀ c t σ r, exec E n c t σ = some r → exec E (n + 1) c t σ = some r
  steps : ∀ ss t σ r, steps E n ss t σ = some r → steps E (n + 1) ss t σ = some r
  one : ∀ o t σ r, one E n o t σ = some r → one E (n + 1) o t σ = some r
  callV : ∀ f args σ r, callV E n f args σ = some r → callV E (n + 1) f args σ = some r
  call : ∀ f args σ r, call E n f args σ = some r → call E (n + 1) f args σ = some r
  round : ∀ l args σ r, round E n l args σ = some r → round E (n + 1) l args σ = some r

theorem mono_all : ∀ n, MonoAt E n := by
  intro n
  induction n with
  | zero =>
    refine ⟨fun c t σ r h => ?_, fun ss t σ r h => ?_, fun o t σ r h => ?_, fun f args σ r h => ?_, fun f args σ r h => ?_, fun l args σ r h => ?_⟩
    · simp [exec] at h
    · simp [steps] at h
    · simp [one] at h
    · simp [callV] at h
    · simp [call] at h
    · simp [round] at h
  | succ n ih =>
    refine ⟨fun c t σ r h => ?_, fun ss t σ r h => ?_, fun o t σ r h => ?_, fun f args σ r h => ?_, fun f args σ r h => ?_, fun l args σ r h => ?_⟩
    · cases c with
      | skip => exact h
      | exit _ => exact h
      | ret => exact h
      | bad => exact h
      | seq a b =>
        rw [exec_seq] at h ⊢
        cases ha : exec E n a t σ with
        | none => simp [ha] at h
        | some x =>
          obtain ⟨ex, t1, σ1⟩ := x
          rw [ih.exec _ _ _ _ ha]
          rw [ha] at h
          cases ex with
          | normal => exact ih.exec _ _ _ _ h
          | exit _ => exact h
          | ret => exact h
      | cond c a b =>
        rw [exec_cond] at h ⊢
        split at h
        · exact ih.exec _ _ _ _ h
        · exact ih.exec _ _ _ _ h
        · exact h
      | block id b =>
        rw [exec_block] at h ⊢
        cases ha : exec E n b t σ with
        | none => simp [ha] at h
        | some x =>
          rw [ih.exec _ _ _ _ ha]
          rw [ha] at h
          exact h
      | loop b =>
        rw [exec_loop] at h ⊢
        cases ha : exec E n b t σ with
        | none => simp [ha] at h
        | some x =>
          obtain ⟨ex, t1, σ1⟩ := x
          rw [ih.exec _ _ _ _ ha]
          rw [ha] at h
          cases ex with
          | normal => exact ih.exec _ _ _ _ h
          | exit _ => exact h
          | ret => exact h
      | reg ss =>
        rw [exec_reg] at h ⊢
        cases ha : steps E n ss t σ with
        | none => simp [ha] at h
        | some x =>
          rw [ih.steps _ _ _ _ ha]
          rw [ha] at h
          exact h
      | rng f ps as body =>
        rw [exec_rng] at h ⊢
        split at h
        · rename_i g first cap e
          cases ha : call E n g (first ++ [.yld σ.next] ++ cap) (σ.push (.loop t ps as body .ready none)) with
          | none => rw [ha] at h; cases h
          | some x =>
            rw [ih.call _ _ _ _ ha]
            rw [ha] at h
            exact h
        · exact h
    · cases ss with
      | nil => exact h
      | cons s ss =>
        rw [steps_cons] at h ⊢
        split at h
        · rename_i hw
          cases ha : one E n s.op t σ with
          | none => simp [ha] at h
          | some x =>
            obtain ⟨v, σ1⟩ := x
            rw [ih.one _ _ _ _ ha]
            rw [ha] at h
            simp only at h ⊢
            cases hre : recheck t σ1 s.re with
            | false => rw [hre] at h; exact h
            | true => rw [hre] at h; exact ih.steps _ _ _ _ h
        · exact ih.steps _ _ _ _ h
        · exact h
    · by_cases hso : ∃ f l, o = .call f l
      · obtain ⟨f, l, rfl⟩ := hso
        exact ih.callV _ _ _ _ h
      · have : ∀ m, one E (m + 1) o t σ = sop o t σ := fun m => by
          cases o <;> first | rfl | exact absurd ⟨_, _, rfl⟩ hso
        rw [this] at h ⊢; exact h
    · rw [callV_eq] at h ⊢
      split at h
      · exact ih.call _ _ _ _ h
      · exact ih.round _ _ _ _ h
      · exact h
    · rw [call_eq] at h ⊢
      split at h
      · exact h
      · split at h
        · rename_i fn hfn
          cases hb : Nat.beq args.length fn.np with
          | false => rw [hb] at h; exact h
          | true =>
            rw [hb] at h
            simp only [cond_true] at h ⊢
            cases ha : exec E n fn.body (Tr.fill .nil 0 args) σ with
            | none => simp [ha] at h
            | some x =>
              rw [ih.exec _ _ _ _ ha]
              rw [ha] at h
              exact h
        · exact h
    · rw [round_eq] at h ⊢
      split at h
      · rename_i t0 ps as body hg
        cases hb : Nat.beq args.length ps.length with
        | false => rw [hb] at h; exact h
        | true =>
          rw [hb] at h
          simp only [cond_true] at h ⊢
          cases ha : exec E n as (setMany t0 ps args) σ with
          | none => simp [ha] at h
          | some x =>
            obtain ⟨ex, t1, σ1⟩ := x
            rw [ih.exec _ _ _ _ ha]
            rw [ha] at h
            cases ex with
            | exit _ => exact h
            | ret => exact h
            | normal =>
              simp only at h ⊢
              split at h
              · rename_i hg1
                split at h
                · rename_i hx2
                  rw [ih.exec _ _ _ _ hx2]
                  exact h
                · cases h
              · cases h
      · exact h

theorem mono_exec {n m : Nat} (h : n ≤ m) {c : SC} {t : Tr SV} {σ : St} {r} (k : exec E n c t σ = some r) : exec E m c t σ = some r := by
  induction h with
  | refl => exact k
  | step _ ih => exact (mono_all _).exec _ _ _ _ ih
theorem mono_steps {n m : Nat} (h : n ≤ m) {c : List Step} {t : Tr SV} {σ : St} {r} (k : steps E n c t σ = some r) : steps E m c t σ = some r := by
  induction h with
  | refl => exact k
  | step _ ih => exact (mono_all _).steps _ _ _ _ ih
theorem mono_call {n m : Nat} (h : n ≤ m) {f : Nat} {args : List SV} {σ : St} {r} (k : call E n f args σ = some r) : call E m f args σ = some r := by
  induction h with
  | refl => exact k
  | step _ ih => exact (mono_all _).call _ _ _ _ ih
theorem mono_callV {n m : Nat} (h : n ≤ m) {f : SV} {args : List SV} {σ : St} {r} (k : callV E n f args σ = some r) : callV E m f args σ = some r := by
  induction h with
  | refl => exact k
  | step _ ih => exact (mono_all _).callV _ _ _ _ ih
theorem mono_round {n m : Nat} (h : n ≤ m) {f : Nat} {args : List SV} {σ : St} {r} (k : round E n f args σ = some r) : round E m f args σ = some r := by
  induction h with
  | refl => exact k
  | step _ ih => exact (mono_all _).round _ _ _ _ ih
end
end Go.Proofs.Ytojjhcgbbmknmaa.Sh
