/- The shadow is right: what it computes of code, the machine does. -/
import Derived.Test.YtojjhcgbbmknmaaShExec0
namespace Go.Proofs.Ytojjhcgbbmknmaa.Sh
set_option linter.unusedSimpArgs false
set_option linter.unusedVariables false
open Go Go.RowKit

section
variable (P : Program) (w0 : World) (E : Env)

def OneOK (n : Nat) : Prop := ∀ o so N t σ v σ', compOp P o = some so → one E n so t σ = some (v, σ') → ∀ ro m B ρ a w, RS P w0 B ρ σ t N ro a w →
  OpDoes P ro m o a w (fun u w' => ∃ ρ', OK w0 ρ' v u ∧ Step1 P w0 ρ σ w ρ' σ' w')
def DrawOK : Prop := ∀ n, (∀ k, k < n → OneOK P w0 E k) → ∀ N ops ss t σ t' σ', compReg P N ops true = some ss → steps E n ss t σ = some (t', σ') → ∀ ro m B ρ a w id Q, RS P w0 B ρ σ t N ro a w →
  (∀ a' w' ρ', TR w0 ρ' t' N a'.tmps → MKS B ρ' w' a'.defers → Step1 P w0 ρ σ w ρ' σ' w' → Q .normal a' w') → (Code.region id ops true).wpIn (FR ro) m P Q a w
def ExecOK (n : Nat) : Prop := ∀ c sc N t σ ex t' σ', compCode P N c = some sc → exec E n sc t σ = some (ex, t', σ') → ∀ ro m B ρ a w, RS P w0 B ρ σ t N ro a w →
  c.wpIn (FR ro) m P (EPost P w0 B ρ σ w N ex t' σ') a w
def CallOK (n : Nat) : Prop := ∀ f args σ v σ', call E n f args σ = some (v, σ') → (∀ vals w, (callFunc f vals).run P w = .ok (.enter f vals) w) ∧
  ∀ ro m ρ w (vals : Array Value), SR P w0 ρ σ w → OKs w0 ρ args vals.toList → CallsIn (FR ro) m P f vals w (fun e w' => ∃ u ρ', e = .returned u ∧ OK w0 ρ' v u ∧ Step1 P w0 ρ σ w ρ' σ' w')
def RoundOK (n : Nat) : Prop := ∀ L args σ v σ', round E n L args σ = some (v, σ') → ∀ ro m ρ w (vals : Array Value) p, SR P w0 ρ σ w → ρ L = some p → OKs w0 ρ args vals.toList →
  ∃ r : Loop, w.heap[p.blk]? = some (Obj.loop r) ∧ vals.size = r.params.size ∧
    RoundIn (FR ro) m P p.blk r.fn ((r.params.zip vals).foldl (fun tmps (t, a) => tmps.setIfInBounds t a) r.tmps) r.assign r.body w (fun e w' => ∃ u ρ', e = .returned u ∧ OK w0 ρ' v u ∧ Step1 P w0 ρ σ w ρ' σ' w')
/-- The functions of the environment are the program's. -/
structure EnvOK : Prop where
  fn : ∀ f fn, E.ext f = none → E.fn f = some fn → ∃ F : Func, P.funcs[f]? = some F ∧ compFun P F = some fn
  ext : ∀ f g, E.ext f = some g → (∀ vals w, (callFunc f vals).run P w = .ok (.enter f vals) w) ∧ ∀ args σ v σ', g args σ = some (v, σ') → ∀ ro m ρ w (vals : Array Value), SR P w0 ρ σ w → OKs w0 ρ args vals.toList →
    CallsIn (FR ro) m P f vals w (fun e w' => ∃ u ρ', e = .returned u ∧ OK w0 ρ' v u ∧ Step1 P w0 ρ σ w ρ' σ' w')
variable {P w0 E}
variable {B : Nat} {ρ ρ' ρ'' : Rho} {σ σ' σ'' : St} {w w' w'' : World} {N : Nat} {t t' : Tr SV} {a : Act}

theorem compStep_eq {ops : Array Oper} {o : Oper} {s : Step} (h : compStep P N ops o = some s) : compOp P o = some s.op ∧ compGuard ops o.guard = some s.guard ∧ o.dst = s.dst ∧ dstOk N s.dst = true ∧ s.re = [] := by
  unfold compStep at h
  cases h1 : compOp P o with
  | none => simp [h1] at h
  | some so =>
    cases h2 : compGuard ops o.guard with
    | none => simp [h1, h2] at h
    | some g =>
      simp only [h1, h2] at h
      by_cases h3 : dstOk N o.dst = true
      · rw [if_pos h3] at h
        simp only [Option.some.injEq] at h
        subst h
        exact ⟨rfl, rfl, rfl, h3, rfl⟩
      · rw [if_neg h3] at h
        cases h

theorem seq_ok {n : Nat} (h1 : ∀ k, k < n → OneOK P w0 E k) {ro : Option Nat} {m : Nat} {ops : Array Oper} {Q : Exit → Act → World → Prop} : ∀ (l : List Oper) (i : Nat) (ss : List Step) (n' : Nat) (t : Tr SV) (σ : St) (ρ : Rho) (a : Act) (w : World), n' ≤ n → compSteps P N ops l = some ss → (∀ j, l[j]? = ops[i + j]?) →
    steps E n' ss t σ = some (t', σ') → RS P w0 B ρ σ t N ro a w →
    (∀ a' w' ρ', TR w0 ρ' t' N a'.tmps → MKS B ρ' w' a'.defers → Step1 P w0 ρ σ w ρ' σ' w' → Q .normal a' w') → wpOpsIn (FR ro) m P ops Q (List.range' i l.length) a w
  | [], i, ss, n', t, σ, ρ, a, w, hn, hc, hl, hs, hr, hQ => by
    simp only [compSteps, Option.some.injEq] at hc
    subst hc
    cases n' with
    | zero => simp [steps] at hs
    | succ n' =>
      simp only [steps, Option.some.injEq, Prod.mk.injEq] at hs
      obtain ⟨rfl, rfl⟩ := hs
      simp only [List.length_nil, List.range'_zero, wpOpsIn]
      exact hQ a w ρ hr.tr hr.marks (Step1.refl hr.sr)
  | o :: r, i, ss, n', t, σ, ρ, a, w, hn, hc, hl, hs, hr, hQ => by
    simp only [compSteps] at hc
    split at hc
    · rename_i s ss' hc1 hc2
      cases hc
      obtain ⟨e1, e2, e3, e4, e5⟩ := compStep_eq hc1
      have hoi : ops[i]? = some o := by have := hl 0; simpa using this.symm
      have hrest : ∀ j, r[j]? = ops[i + 1 + j]? := fun j => by have := hl (j + 1); rw [List.getElem?_cons_succ] at this; rw [this]; congr 1; omega
      cases n' with
      | zero => simp [steps] at hs
      | succ n' =>
        simp only [steps] at hs
        simp only [List.length_cons, List.range'_succ, wpOpsIn, hoi]
        split at hs
        · rename_i hw
          rw [if_pos (wanted_ok e2 hr.tr hw)]
          split at hs
          · rename_i v σ1 hone
            rw [e5] at hs
            simp only [recheck, cond_true] at hs
            refine h1 n' (by omega) o s.op N t σ v σ1 e1 hone ro m B ρ a w hr _ _ ?_
            rintro u w1 ⟨ρ1, hok, hst⟩
            have htr : TR w0 ρ1 (putD t s.dst v) N (a.put o.dst u).tmps := by rw [e3]; exact (hr.tr.mono hst.ext).put e4 hok
            have hmk : MKS B ρ1 w1 (a.put o.dst u).defers := by
              have : (a.put o.dst u).defers = a.defers := by unfold Act.put; split <;> rfl
              rw [this]; exact hr.marks.step hst
            refine seq_ok h1 r (i + 1) ss' n' _ σ1 ρ1 _ w1 (by omega) hc2 hrest hs (hr.step hst htr hmk) ?_
            intro a' w' ρ' k1 k2 k3
            exact hQ a' w' ρ' k1 k2 (hst.trans k3)
          · cases hs
        · rename_i hw
          rw [if_neg (by rw [wanted_ok e2 hr.tr hw]; simp)]
          refine ⟨fun _ _ => trivial, ?_⟩
          have htr : TR w0 ρ (putD t s.dst .undef) N (a.put o.dst Go.undef).tmps := by rw [e3]; exact hr.tr.put e4 OK.mk_undef
          have hmk : MKS B ρ w (a.put o.dst Go.undef).defers := by
            have : (a.put o.dst Go.undef).defers = a.defers := by unfold Act.put; split <;> rfl
            rw [this]; exact hr.marks
          exact seq_ok h1 r (i + 1) ss' n' _ σ ρ _ w (by omega) hc2 hrest hs (hr.step (Step1.refl hr.sr) htr hmk) hQ
        · cases hs
    · cases hc

theorem TR.jump {i : Jump} : (jumpOf i) = (match i with | .ret => Code.ret | .exit j => Code.exit j) := by cases i <;> rfl

/-- The arguments, in a new frame. -/
theorem getT_fill : ∀ (l : List SV) (t : Tr SV) (n i : Nat), getT (t.fill n l) i = if n ≤ i ∧ i < n + l.length then l.getD (i - n) (.sc .undef) else getT t i
  | [], t, n, i => by simp [Tr.fill]; intro h1 h2; omega
  | x :: r, t, n, i => by
    rw [Tr.fill, getT_fill r _ (n + 1) i, getT_set]
    by_cases h1 : i = n
    · subst h1
      rw [if_neg (by omega), if_pos rfl, if_pos (by simp)]
      simp
    · by_cases h2 : n + 1 ≤ i ∧ i < n + 1 + r.length
      · rw [if_pos h2, if_pos (by simp; omega)]
        rw [show i - n = (i - (n + 1)) + 1 by omega]
        simp
      · rw [if_neg h2, if_neg h1, if_neg (by simp; omega)]
theorem TR.init {args : List SV} {vals : Array Value} (h : OKs w0 ρ args vals.toList) (hN : args.length ≤ N) : TR w0 ρ (Tr.fill .nil 0 args) N (vals ++ Array.replicate (N - vals.size) Go.undef) := by
  have hl := h.len
  have hl' : vals.size = args.length := by simpa using hl
  refine ⟨by simp; omega, fun i => ?_⟩
  rw [getT_fill]
  by_cases hi : i < args.length
  · rw [if_pos (by omega)]
    obtain ⟨u, hu, hv⟩ := h.1.get (List.getElem?_eq_getElem hi)
    have e1 : args.getD (i - 0) (.sc .undef) = args[i] := by simp [List.getD, hi]
    have hu' : vals[i]? = some u := by simpa using hu
    have e2 : (vals ++ Array.replicate (N - vals.size) Go.undef).getD i Go.undef = u := by
      rw [Array.getD_eq_getD_getElem?, Array.getElem?_append_left (by omega), hu']; rfl
    rw [e1, e2]
    exact ⟨hv, wfs_iff.1 h.2 _ (List.getElem_mem hi)⟩
  · rw [if_neg (by omega)]
    have e1 : getT (Tr.nil : Tr SV) i = .sc .undef := rfl
    have e2 : (vals ++ Array.replicate (N - vals.size) Go.undef).getD i Go.undef = Go.undef := by
      rw [Array.getD_eq_getD_getElem?, Array.getElem?_append_right (by omega)]
      cases hq : (Array.replicate (N - vals.size) Go.undef)[i - vals.size]? with
      | none => rfl
      | some u => rw [Array.getElem?_replicate] at hq; split at hq <;> simp_all
    rw [e1, e2]
    exact OK.mk_undef

theorem TR.many : ∀ {ps : List Nat} {args : List SV} {vals : List Value} {t : Tr SV} {A : Array Value}, TR w0 ρ t N A → OKs w0 ρ args vals → (∀ p ∈ ps, p < N) → args.length = ps.length →
    TR w0 ρ (setMany t ps args) N ((ps.zip vals).foldl (fun tmps (t, a) => tmps.setIfInBounds t a) A)
  | [], _, _, _, _, h, _, _, _ => by simpa [setMany] using h
  | p :: ps, [], _, _, _, _, _, _, hl => by simp at hl
  | p :: ps, x :: xs, vals, t, A, h, k, hp, hl => by
    obtain ⟨k1, k2⟩ := k
    simp only [VRs] at k1
    obtain ⟨u, r, rfl, k3, k4⟩ := k1
    have := TR.put (a := { tmps := A, defers := [] }) h (d := some p) (by simpa [dstOk] using hp p (by simp)) (⟨k3, k2.1⟩ : OK w0 ρ x u)
    simp only [setMany, List.zip_cons_cons, List.foldl_cons]
    exact TR.many this ⟨k4, k2.2⟩ (fun q hq => hp q (by simp [hq])) (by simpa using hl)

/-- One result. -/
def resR (A : Array Value) : ResultVar → Sem Value
  | .tmp t => pure (A.getD t Go.undef)
  | .cell a t => do loadVar t (← asAddr (A.getD a Go.undef))
theorem results_eq (fn : Func) (A : Array Value) : results fn A = (do let vs ← fn.results.mapM (resR A); pure (if h : vs.size = 1 then vs[0] else .tuple vs)) := by
  unfold results
  rfl

/-- Results. -/
theorem results_ok {fn : Func} {rs : List RV} {A : Array Value} {v : SV} (hc : compRVs P fn.results.toList = some rs) (sr : SR P w0 ρ σ w) (k : TR w0 ρ t N A) (h : resultsSV t σ rs = some v) : ∃ u, (results fn A).run P w = .ok u w ∧ OK w0 ρ v u := by
  have many : ∀ (l : List ResultVar) (rs : List RV) (vs : List SV), compRVs P l = some rs → resMany t σ rs = some vs →
      ∃ us : List Value, (l.mapM (resR A)).run P w = .ok us w ∧ OKs w0 ρ vs us := by
    intro l
    induction l with
    | nil =>
      intro rs vs h1 h2
      simp only [compRVs, Option.some.injEq] at h1
      subst h1
      simp only [resMany, Option.some.injEq] at h2
      subst h2
      exact ⟨[], by simp, VRs.nil, trivial⟩
    | cons r l ih =>
      intro rs vs h1 h2
      simp only [compRVs] at h1
      split at h1
      · rename_i x xs g1 g2
        cases h1
        simp only [resMany] at h2
        split at h2
        · rename_i v' vs' e1 e2
          cases h2
          obtain ⟨us, hr, hk⟩ := ih _ _ g2 e2
          have hone : ∃ u, (resR A r).run P w = .ok u w ∧ OK w0 ρ v' u := by
            cases r with
            | tmp i =>
              simp only [compRV, Option.some.injEq] at g1
              subst g1
              simp only [resOne, Option.some.injEq] at e1
              subst e1
              exact ⟨_, by simp [resR], k.2 i⟩
            | cell i ty =>
              simp only [compRV] at g1
              split at g1
              · rename_i ag n ha hs
                split at g1
                · cases g1
                  simp only [resOne] at e1
                  obtain ⟨B, u, hB, hrun, hok⟩ := load_ok ha hs sr (k.2 i) e1
                  exact ⟨u, by simp [resR, hB, asAddr, hrun], hok⟩
                · cases g1
              · cases g1
          obtain ⟨u, hu1, hu2⟩ := hone
          refine ⟨u :: us, ?_, VRs.cons hu2.1 hk.1, hu2.2, hk.2⟩
          rw [List.mapM_cons]
          simp only [Sem.run_bind, hu1, Result.andThen_ok, hr, Sem.run_pure]
        · cases h2
      · cases h1
  unfold resultsSV at h
  have fin : ∀ vs, resMany t σ rs = some vs → ∃ us : List Value, (results fn A).run P w = .ok (if h : us.toArray.size = 1 then us.toArray[0] else .tuple us.toArray) w ∧ OKs w0 ρ vs us := by
    intro vs hv
    obtain ⟨us, hr, hk⟩ := many _ _ _ hc hv
    refine ⟨us, ?_, hk⟩
    rw [results_eq, Array.mapM_eq_mapM_toList]
    simp [Sem.run_bind, hr]
  split at h
  · rename_i v' hv
    cases h
    obtain ⟨us, hr, hk⟩ := fin _ hv
    obtain ⟨u, rfl, hu⟩ := hk.1.one
    exact ⟨u, by simpa using hr, hu, hk.2.1⟩
  · rename_i vs hne hv
    cases h
    obtain ⟨us, hr, hk⟩ := fin _ hv
    have hl := hk.len
    have : ¬ us.toArray.size = 1 := by
      intro h1
      have : vs.length = 1 := by simp at h1; omega
      match vs, this with
      | [x], _ => exact hne x rfl
    rw [dif_neg this] at hr
    exact ⟨_, hr, by simp only [VR]; exact ⟨_, rfl, by simpa using hk.1⟩, hk.2⟩
  · cases h
end
end Go.Proofs.Ytojjhcgbbmknmaa.Sh
