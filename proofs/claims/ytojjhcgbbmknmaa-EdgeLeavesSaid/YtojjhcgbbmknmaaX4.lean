/- Several texts, merged: What the machine does of code, told by the shadow: words; small pieces. And more. -/
import Derived.Test.YtojjhcgbbmknmaaX3
import Derived.RangeFuncCalls

/- What the machine does of code, told by the shadow: words; small pieces. -/
namespace Go.Proofs.Ytojjhcgbbmknmaa.Sh
set_option linter.unusedSimpArgs false
set_option linter.unusedVariables false
open Go Go.RowKit

/-- The fence of this walk: nothing is shut out; in a round, or not. -/
def FR (ro : Option Nat) : Fence := { fn := fun _ => True, depth := none, alive := false, round := ro }
theorem FR_none : FR none = Fence.wide := rfl
theorem FR_in (ro : Option Nat) (l : Nat) : (FR ro).inRound l = FR (some l) := rfl
theorem FR_room (ro : Option Nat) (n : Nat) : (FR ro).room n := fun _ h => by simp [FR] at h

/-- A loop, by rounds that are counted down beside the state. -/
theorem wpIn_loopG {F : Fence} {n : Nat} {P : Program} {Q : Exit → Act → World → Prop} {c : Code} (J : Nat → Act → World → Prop)
    (round : ∀ j a w, J j a w → c.wpIn F n P (Exit.then (fun a' w' => ∃ j', j' < j ∧ J j' a' w') Q) a w) {j0 : Nat} {a : Act} {w : World} (h₀ : J j0 a w) : (Code.loop c).wpIn F n P Q a w := by
  intro b k cs hro hb hr
  have key : ∀ j a w, J j a w → ∃ e a' w', Q e a' w' ∧ ArrivesIn (Machine.fenced P F) P (lone (b.atR a (.code c :: .inLoop c :: k)) cs w) b k cs e a' w' := by
    intro j
    induction j using Nat.strongRecOn with
    | _ j ih =>
      intro a w hI
      obtain ⟨e, a₁, w₁, hq, harr⟩ := round j a w hI b (.inLoop c :: k) cs hro hb hr
      cases e with
      | normal =>
        obtain ⟨j', hlt, hI₁⟩ := hq
        obtain ⟨e₂, a₂, w₂, hq₂, harr₂⟩ := ih j' hlt a₁ w₁ hI₁
        exact ⟨e₂, a₂, w₂, hq₂, .of_steps (StepsIn.trans harr (.one (fenced_calm hb hr rfl) stepR_inLoop)) harr₂⟩
      | exit id => exact ⟨_, a₁, w₁, hq, .pass (x := .inLoop c) rfl (fun _ _ => .inl (by simp)) harr⟩
      | goto l => exact ⟨_, a₁, w₁, hq, .pass (x := .inLoop c) rfl (fun _ _ => .inl (by simp)) harr⟩
      | ret => exact ⟨_, a₁, w₁, hq, .pass (x := .inLoop c) rfl (fun _ _ => .inl (by simp)) harr⟩
      | panic ch => exact ⟨_, a₁, w₁, hq, .pass (x := .inLoop c) rfl (fun _ _ => .inl (by simp)) harr⟩
      | outgrown => exact ⟨_, a₁, w₁, hq, .pass (x := .inLoop c) rfl (fun _ _ => .inl (by simp)) harr⟩
  obtain ⟨e, a', w', hq, harr⟩ := key _ a w h₀
  exact ⟨e, a', w', hq, .of_steps (.one (fenced_calm hb hr rfl) stepR_loop) harr⟩

section
variable (P : Program) (w0 : World)

/-- The marks among the deferred calls: blocks of the machine that are none of the shadow's. -/
def MKS (B : Nat) (ρ : Rho) (w : World) (ds : List Deferred) : Prop :=
  ∃ bs : List Nat, ds = bs.map (fun b => { target := .collected b, args := #[] }) ∧ bs.Nodup ∧ ∀ b ∈ bs, w.heap[b]? = some (.deferred (some [])) ∧ B ≤ b ∧ ∀ i p, ρ i = some p → p.blk ≠ b

structure RS (B : Nat) (ρ : Rho) (σ : St) (t : Tr SV) (N : Nat) (ro : Option Nat) (a : Act) (w : World) : Prop where
  sr : SR P w0 ρ σ w
  tr : TR w0 ρ t N a.tmps
  marks : MKS B ρ w a.defers
  lo : B ≤ w.heap.size
  rd : ∀ l, ro = some l → ∃ r : Loop, w.heap[l]? = some (Obj.loop r)

def ExR : Ex → Exit → Prop
  | .normal, .normal => True
  | .exit i, .exit j => i = j
  | .ret, .ret => True
  | _, _ => False

def EPost (B : Nat) (ρ : Rho) (σ : St) (w : World) (N : Nat) (ex : Ex) (t' : Tr SV) (σ' : St) : Exit → Act → World → Prop := fun e a' w' =>
  ExR ex e ∧ ∃ ρ', TR w0 ρ' t' N a'.tmps ∧ MKS B ρ' w' a'.defers ∧ Step1 P w0 ρ σ w ρ' σ' w'
variable {P w0}
variable {B : Nat} {ρ ρ' ρ'' : Rho} {σ σ' σ'' : St} {w w' w'' : World} {N : Nat} {t t' : Tr SV} {a : Act}

theorem MKS.step {ds : List Deferred} (h : MKS B ρ w ds) (k : Step1 P w0 ρ σ w ρ' σ' w') : MKS B ρ' w' ds := by
  obtain ⟨bs, rfl, hn, hb⟩ := h
  refine ⟨bs, rfl, hn, fun b hm => ?_⟩
  obtain ⟨h1, h2, h3⟩ := hb b hm
  have hlt := (Array.getElem?_eq_some_iff.1 h1).1
  refine ⟨(k.frame b hlt h3).trans h1, h2, fun i p e hp => ?_⟩
  by_cases hi : ρ i = none
  · rcases k.newblk i p e hi with g | ⟨j, q, g1, g2⟩
    · omega
    · exact h3 j q g1 (g2.trans hp)
  · obtain ⟨q, hq⟩ := Option.ne_none_iff_exists'.1 hi
    have := k.ext _ _ hq
    rw [e] at this; cases this
    exact h3 i p hq hp

theorem RS.step {ro : Option Nat} (h : RS P w0 B ρ σ t N ro a w) (k : Step1 P w0 ρ σ w ρ' σ' w') {a' : Act} (ht : TR w0 ρ' t' N a'.tmps) (hm : MKS B ρ' w' a'.defers) : RS P w0 B ρ' σ' t' N ro a' w' :=
  ⟨k.sr, ht, hm, Nat.le_trans h.lo k.size, fun l e => by obtain ⟨r, hr⟩ := h.rd l e; exact k.loops l r hr⟩

/-- A foreign block is laid. -/
theorem Step1.foreign (h : SR P w0 ρ σ w) (o : Obj) : Step1 P w0 ρ σ w ρ σ (w.alloc o) := by
  have hsz : (w.alloc o).heap.size = w.heap.size + 1 := by show (w.heap.push o).size = _; simp
  exact ⟨⟨h.below.alloc h.below.size _, fun i p e => by have := h.dom i p e; exact ⟨this.1, this.2.1, by rw [hsz]; omega⟩, h.inj, fun i p e => (h.obs i p e).world (Below.heap_alloc _ _ _ (h.dom i p e).2.2) (by rw [hsz]; omega), h.fresh, fun a v e => by
      obtain ⟨h1, h2⟩ := h.hold a v e
      exact ⟨(cell?_block (Below.heap_alloc _ _ _ (cell?_lt h1))).trans h1, h2⟩⟩,
    Ext.refl _, Nat.le_refl _, by rw [hsz]; omega, fun _ _ h => .inl h, fun _ _ h k => (by rw [h] at k; cases k), fun b hb _ => Below.heap_alloc _ _ _ hb, fun _ _ _ => rfl,
    fun b r h => ⟨r, (Below.heap_alloc _ _ _ (Array.getElem?_eq_some_iff.1 h).1).trans h⟩, fun _ _ h => .inl h⟩

/-- Temporaries after a step. -/
theorem getT_set (t : Tr SV) (d i : Nat) (v : SV) : getT (t.set d v) i = if i = d then v else getT t i := by
  unfold getT
  rw [Tr.get_set]
  by_cases h : i = d
  · rw [if_pos h, if_pos h]
  · rw [if_neg h, if_neg h]
theorem TR.put (h : TR w0 ρ t N a.tmps) {d : Option Nat} {v : SV} {u : Value} (hd : dstOk N d = true) (hv : OK w0 ρ v u) : TR w0 ρ (putD t d v) N (a.put d u).tmps := by
  cases d with
  | none => exact h
  | some d =>
    have hd : d < N := of_decide_eq_true hd
    refine ⟨by simp [Act.put, h.1], fun i => ?_⟩
    simp only [putD, Act.put, getT_set]
    by_cases hi : i = d
    · subst hi
      rw [if_pos rfl]
      have : (a.tmps.setIfInBounds i u).getD i Go.undef = u := by simp [Array.getD, h.1, hd]
      rw [this]; exact hv
    · rw [if_neg hi]
      have : (a.tmps.setIfInBounds d u).getD i Go.undef = a.tmps.getD i Go.undef := by
        simp only [Array.getD_eq_getD_getElem?]
        rw [Array.getElem?_setIfInBounds_ne (Ne.symm hi)]
      rw [this]; exact h.2 i

/-- What one operation does, whatever is asked behind it. -/
def OpDoes (P : Program) (ro : Option Nat) (m : Nat) (o : Oper) (a : Act) (w : World) (R : Value → World → Prop) : Prop :=
  ∀ (next : Act → World → Prop) (Q : Exit → Act → World → Prop), (∀ u w', R u w' → next (a.put o.dst u) w') → o.wpIn (FR ro) m P a w next Q

theorem compOp_noDefer {o : Oper} {so : SOp} (h : compOp P o = some so) : ∀ c, o.op ≠ .defer c := by
  intro c ho
  simp [compOp, compOp1, compOp2, ho] at h

theorem opDoes_run {ro : Option Nat} {m : Nat} {o : Oper} {so : SOp} (hc : compOp P o = some so) {nx : Next} {u : Value} (hr : (execOp a.eval o).run P w = .ok nx w') (hnx : nx = .value u ∨ (nx = .skip ∧ u = Go.undef)) :
    OpDoes P ro m o a w (fun x y => x = u ∧ y = w') := by
  intro next Q h
  refine ⟨fun _ _ => trivial, ?_⟩
  rw [Oper.semAt_eq _ _ _ (compOp_noDefer hc), hr]
  rcases hnx with rfl | ⟨rfl, rfl⟩
  · exact h _ _ ⟨rfl, rfl⟩
  · exact h _ _ ⟨rfl, rfl⟩

/-- One operation that is no call: what it does. -/
theorem sop_does {ro : Option Nat} {m : Nat} {o : Oper} {so : SOp} {v : SV} (hc : compOp P o = some so) (hn : ∀ f l, so ≠ .call f l) (sr : SR P w0 ρ σ w) (k : TR w0 ρ t N a.tmps) (h : sop so t σ = some (v, σ')) :
    OpDoes P ro m o a w (fun u w' => ∃ ρ', OK w0 ρ' v u ∧ Step1 P w0 ρ σ w ρ' σ' w') := by
  have mono : ∀ {u : Value} {w' : World}, OpDoes P ro m o a w (fun x y => x = u ∧ y = w') → (∃ ρ', OK w0 ρ' v u ∧ Step1 P w0 ρ σ w ρ' σ' w') → OpDoes P ro m o a w (fun u w' => ∃ ρ', OK w0 ρ' v u ∧ Step1 P w0 ρ σ w ρ' σ' w') := by
    intro u w' h1 h2 next Q hk
    exact h1 next Q (by rintro _ _ ⟨rfl, rfl⟩; exact hk _ _ h2)
  cases hk : sopKd so with
  | pure =>
    obtain ⟨rfl, hy⟩ := pure_sound hc hk k h
    obtain ⟨u, hr, hu⟩ := hy w
    exact mono (opDoes_run hc hr (.inl rfl)) ⟨ρ, hu, Step1.refl sr⟩
  | reads =>
    obtain ⟨rfl, u, hr, hu⟩ := reads_sound hc hk sr k h
    exact mono (opDoes_run hc hr (.inl rfl)) ⟨ρ, hu, Step1.refl sr⟩
  | alloc =>
    obtain ⟨ob, rfl, hy⟩ := alloc_sound hc hk k h
    obtain ⟨O, n, u, hr, hl⟩ := hy w
    have hn0 : ρ σ.next = none := by
      cases e : ρ σ.next with
      | none => rfl
      | some p => have := sr.dom _ _ e; omega
    obtain ⟨h1, h2⟩ := hl _ (Ext.put (p := ⟨w.heap.size, 0, n⟩) hn0) (Rho.put_self _ _ _)
    exact mono (opDoes_run hc hr (.inl rfl)) ⟨_, h1, Step1.new sr ob h2⟩
  | big =>
    obtain ⟨nx, u, w', ρ', hr, hnx, hok, hst⟩ := big_sound hc hk sr k h
    exact mono (opDoes_run hc hr hnx) ⟨ρ', hok, hst⟩

/-- A guard, told by the shadow. -/
theorem wanted_ok {ops : Array Oper} {o : Oper} {g : Option (Nat × Bool)} {b : Bool} (hg : compGuard ops o.guard = some g) (k : TR w0 ρ t N a.tmps) (h : wantedS t g = some b) : Region.wanted o (yielded ops a.tmps) = b := by
  unfold compGuard at hg
  split at hg
  · rename_i e
    cases hg
    simp only [wantedS, Option.some.injEq] at h
    subst h
    simp [Region.wanted, e]
  · rename_i j want e
    split at hg
    · rename_i d hd
      cases hg
      simp only [wantedS] at h
      split at h
      · rename_i c hc
        cases h
        have hv := (k.2 d).bool hc
        have : yielded ops a.tmps j = some c := by
          unfold yielded
          rw [hd]
          simp only [Option.bind_some]
          have hs : a.tmps[d]? = some (.bool c) := by
            rw [Array.getD_eq_getD_getElem?] at hv
            cases hq : a.tmps[d]? with
            | none => rw [hq] at hv; simp [Go.undef] at hv
            | some u => rw [hq] at hv; simpa using hv
          rw [hs]
        simp only [Region.wanted, e, this]
        cases c <;> cases want <;> rfl
      · rename_i hc
        cases h
        have hv := (k.2 d).1
        rw [hc] at hv
        simp only [VR, Sc.val] at hv
        have : yielded ops a.tmps j = none := by
          unfold yielded
          rw [hd]
          simp only [Option.bind_some]
          cases hq : a.tmps[d]? with
          | none => rfl
          | some u =>
            rw [Array.getD_eq_getD_getElem?, hq] at hv
            simp only [Option.getD_some] at hv
            rw [hv]; rfl
        simp only [Region.wanted, e, this]
        rfl
      · cases h
    · cases hg
end
end Go.Proofs.Ytojjhcgbbmknmaa.Sh

/- The shadow is right: what it computes of code, the machine does. -/
namespace Go.Proofs.Ytojjhcgbbmknmaa.Sh
set_option linter.unusedSimpArgs false
set_option linter.unusedVariables false
open Go Go.RowKit

section
variable (P : Program) (w0 : World) (E : Env)

def OneOK (n : Nat) : Prop := ∀ o so N t σ v σ', compOp P o = some so → one E n so t σ = some (v, σ') → ∀ ro m B ρ a w, RS P w0 B ρ σ t N ro a w →
  OpDoes P ro m o a w (fun u w' => ∃ ρ', OK w0 ρ' v u ∧ Step1 P w0 ρ σ w ρ' σ' w')
def DrawOK : Prop := ∀ n, (∀ k, k < n → OneOK P w0 E k) → ∀ N ops ss t σ t' σ', compReg P N ops true = some ss → steps E n ss t σ = some (t', σ') → ∀ ro m B ρ a w id Q, RS P w0 B ρ σ t N ro a w →
  (∀ a' w' ρ', TR w0 ρ' t' N a'.tmps → MKS B ρ' w' a'.defers → Step1 P w0 ρ σ w ρ' σ' w' → Q .normal a' w') → (Code.region id ops true).wpIn (FR ro) m P Q a w
def ExecOK (n : Nat) : Prop := ∀ c sc N t σ ex t' σ', compCode P N c = some sc → exec E n sc t σ = some (ex, t', σ') → ∀ ro m B ρ a w, RS P w0 B ρ σ t N ro a w →
  c.wpIn (FR ro) m P (EPost P w0 B ρ σ w N ex t' σ') a w
def CallOK (n : Nat) : Prop := ∀ f args σ v σ', call E n f args σ = some (v, σ') → (∀ vals w, (callFunc f vals).run P w = .ok (.enter f vals) w) ∧
  ∀ ro m ρ w (vals : Array Value), SR P w0 ρ σ w → OKs w0 ρ args vals.toList → CallsIn (FR ro) m P f vals w (fun e w' => ∃ u ρ', e = .returned u ∧ OK w0 ρ' v u ∧ Step1 P w0 ρ σ w ρ' σ' w')
def RoundOK (n : Nat) : Prop := ∀ L args σ v σ', round E n L args σ = some (v, σ') → ∀ ro m ρ w (vals : Array Value) p, SR P w0 ρ σ w → ρ L = some p → OKs w0 ρ args vals.toList →
  ∃ r : Loop, w.heap[p.blk]? = some (Obj.loop r) ∧ vals.size = r.params.size ∧
    RoundIn (FR ro) m P p.blk r.fn ((r.params.zip vals).foldl (fun tmps (t, a) => tmps.setIfInBounds t a) r.tmps) r.assign r.body w (fun e w' => ∃ u ρ', e = .returned u ∧ OK w0 ρ' v u ∧ Step1 P w0 ρ σ w ρ' σ' w')
/-- The functions of the environment are the program's. -/
structure EnvOK : Prop where
  fn : ∀ f fn, E.ext f = none → E.fn f = some fn → ∃ F : Func, P.funcs[f]? = some F ∧ compFun P F = some fn
  ext : ∀ f g, E.ext f = some g → (∀ vals w, (callFunc f vals).run P w = .ok (.enter f vals) w) ∧ ∀ args σ v σ', g args σ = some (v, σ') → ∀ ro m ρ w (vals : Array Value), SR P w0 ρ σ w → OKs w0 ρ args vals.toList →
    CallsIn (FR ro) m P f vals w (fun e w' => ∃ u ρ', e = .returned u ∧ OK w0 ρ' v u ∧ Step1 P w0 ρ σ w ρ' σ' w')
variable {P w0 E}
variable {B : Nat} {ρ ρ' ρ'' : Rho} {σ σ' σ'' : St} {w w' w'' : World} {N : Nat} {t t' : Tr SV} {a : Act}

theorem compStep_eq {ops : Array Oper} {o : Oper} {s : Step} (h : compStep P N ops o = some s) : compOp P o = some s.op ∧ compGuard ops o.guard = some s.guard ∧ o.dst = s.dst ∧ dstOk N s.dst = true ∧ s.re = [] := by
  unfold compStep at h
  cases h1 : compOp P o with
  | none => simp [h1] at h
  | some so =>
    cases h2 : compGuard ops o.guard with
    | none => simp [h1, h2] at h
    | some g =>
      simp only [h1, h2] at h
      by_cases h3 : dstOk N o.dst = true
      · rw [if_pos h3] at h
        simp only [Option.some.injEq] at h
        subst h
        exact ⟨rfl, rfl, rfl, h3, rfl⟩
      · rw [if_neg h3] at h
        cases h

theorem seq_ok {n : Nat} (h1 : ∀ k, k < n → OneOK P w0 E k) {ro : Option Nat} {m : Nat} {ops : Array Oper} {Q : Exit → Act → World → Prop} : ∀ (l : List Oper) (i : Nat) (ss : List Step) (n' : Nat) (t : Tr SV) (σ : St) (ρ : Rho) (a : Act) (w : World), n' ≤ n → compSteps P N ops l = some ss → (∀ j, l[j]? = ops[i + j]?) →
    steps E n' ss t σ = some (t', σ') → RS P w0 B ρ σ t N ro a w →
    (∀ a' w' ρ', TR w0 ρ' t' N a'.tmps → MKS B ρ' w' a'.defers → Step1 P w0 ρ σ w ρ' σ' w' → Q .normal a' w') → wpOpsIn (FR ro) m P ops Q (List.range' i l.length) a w
  | [], i, ss, n', t, σ, ρ, a, w, hn, hc, hl, hs, hr, hQ => by
    simp only [compSteps, Option.some.injEq] at hc
    subst hc
    cases n' with
    | zero => simp [steps] at hs
    | succ n' =>
      simp only [steps, Option.some.injEq, Prod.mk.injEq] at hs
      obtain ⟨rfl, rfl⟩ := hs
      simp only [List.length_nil, List.range'_zero, wpOpsIn]
      exact hQ a w ρ hr.tr hr.marks (Step1.refl hr.sr)
  | o :: r, i, ss, n', t, σ, ρ, a, w, hn, hc, hl, hs, hr, hQ => by
    simp only [compSteps] at hc
    split at hc
    · rename_i s ss' hc1 hc2
      cases hc
      obtain ⟨e1, e2, e3, e4, e5⟩ := compStep_eq hc1
      have hoi : ops[i]? = some o := by have := hl 0; simpa using this.symm
      have hrest : ∀ j, r[j]? = ops[i + 1 + j]? := fun j => by have := hl (j + 1); rw [List.getElem?_cons_succ] at this; rw [this]; congr 1; omega
      cases n' with
      | zero => simp [steps] at hs
      | succ n' =>
        simp only [steps] at hs
        simp only [List.length_cons, List.range'_succ, wpOpsIn, hoi]
        split at hs
        · rename_i hw
          rw [if_pos (wanted_ok e2 hr.tr hw)]
          split at hs
          · rename_i v σ1 hone
            rw [e5] at hs
            simp only [recheck, cond_true] at hs
            refine h1 n' (by omega) o s.op N t σ v σ1 e1 hone ro m B ρ a w hr _ _ ?_
            rintro u w1 ⟨ρ1, hok, hst⟩
            have htr : TR w0 ρ1 (putD t s.dst v) N (a.put o.dst u).tmps := by rw [e3]; exact (hr.tr.mono hst.ext).put e4 hok
            have hmk : MKS B ρ1 w1 (a.put o.dst u).defers := by
              have : (a.put o.dst u).defers = a.defers := by unfold Act.put; split <;> rfl
              rw [this]; exact hr.marks.step hst
            refine seq_ok h1 r (i + 1) ss' n' _ σ1 ρ1 _ w1 (by omega) hc2 hrest hs (hr.step hst htr hmk) ?_
            intro a' w' ρ' k1 k2 k3
            exact hQ a' w' ρ' k1 k2 (hst.trans k3)
          · cases hs
        · rename_i hw
          rw [if_neg (by rw [wanted_ok e2 hr.tr hw]; simp)]
          refine ⟨fun _ _ => trivial, ?_⟩
          have htr : TR w0 ρ (putD t s.dst .undef) N (a.put o.dst Go.undef).tmps := by rw [e3]; exact hr.tr.put e4 OK.mk_undef
          have hmk : MKS B ρ w (a.put o.dst Go.undef).defers := by
            have : (a.put o.dst Go.undef).defers = a.defers := by unfold Act.put; split <;> rfl
            rw [this]; exact hr.marks
          exact seq_ok h1 r (i + 1) ss' n' _ σ ρ _ w (by omega) hc2 hrest hs (hr.step (Step1.refl hr.sr) htr hmk) hQ
        · cases hs
    · cases hc

theorem TR.jump {i : Jump} : (jumpOf i) = (match i with | .ret => Code.ret | .exit j => Code.exit j) := by cases i <;> rfl

/-- The arguments, in a new frame. -/
theorem getT_fill : ∀ (l : List SV) (t : Tr SV) (n i : Nat), getT (t.fill n l) i = if n ≤ i ∧ i < n + l.length then l.getD (i - n) (.sc .undef) else getT t i
  | [], t, n, i => by simp [Tr.fill]; intro h1 h2; omega
  | x :: r, t, n, i => by
    rw [Tr.fill, getT_fill r _ (n + 1) i, getT_set]
    by_cases h1 : i = n
    · subst h1
      rw [if_neg (by omega), if_pos rfl, if_pos (by simp)]
      simp
    · by_cases h2 : n + 1 ≤ i ∧ i < n + 1 + r.length
      · rw [if_pos h2, if_pos (by simp; omega)]
        rw [show i - n = (i - (n + 1)) + 1 by omega]
        simp
      · rw [if_neg h2, if_neg h1, if_neg (by simp; omega)]
theorem TR.init {args : List SV} {vals : Array Value} (h : OKs w0 ρ args vals.toList) (hN : args.length ≤ N) : TR w0 ρ (Tr.fill .nil 0 args) N (vals ++ Array.replicate (N - vals.size) Go.undef) := by
  have hl := h.len
  have hl' : vals.size = args.length := by simpa using hl
  refine ⟨by simp; omega, fun i => ?_⟩
  rw [getT_fill]
  by_cases hi : i < args.length
  · rw [if_pos (by omega)]
    obtain ⟨u, hu, hv⟩ := h.1.get (List.getElem?_eq_getElem hi)
    have e1 : args.getD (i - 0) (.sc .undef) = args[i] := by simp [List.getD, hi]
    have hu' : vals[i]? = some u := by simpa using hu
    have e2 : (vals ++ Array.replicate (N - vals.size) Go.undef).getD i Go.undef = u := by
      rw [Array.getD_eq_getD_getElem?, Array.getElem?_append_left (by omega), hu']; rfl
    rw [e1, e2]
    exact ⟨hv, wfs_iff.1 h.2 _ (List.getElem_mem hi)⟩
  · rw [if_neg (by omega)]
    have e1 : getT (Tr.nil : Tr SV) i = .sc .undef := rfl
    have e2 : (vals ++ Array.replicate (N - vals.size) Go.undef).getD i Go.undef = Go.undef := by
      rw [Array.getD_eq_getD_getElem?, Array.getElem?_append_right (by omega)]
      cases hq : (Array.replicate (N - vals.size) Go.undef)[i - vals.size]? with
      | none => rfl
      | some u => rw [Array.getElem?_replicate] at hq; split at hq <;> simp_all
    rw [e1, e2]
    exact OK.mk_undef

theorem TR.many : ∀ {ps : List Nat} {args : List SV} {vals : List Value} {t : Tr SV} {A : Array Value}, TR w0 ρ t N A → OKs w0 ρ args vals → (∀ p ∈ ps, p < N) → args.length = ps.length →
    TR w0 ρ (setMany t ps args) N ((ps.zip vals).foldl (fun tmps (t, a) => tmps.setIfInBounds t a) A)
  | [], _, _, _, _, h, _, _, _ => by simpa [setMany] using h
  | p :: ps, [], _, _, _, _, _, _, hl => by simp at hl
  | p :: ps, x :: xs, vals, t, A, h, k, hp, hl => by
    obtain ⟨k1, k2⟩ := k
    simp only [VRs] at k1
    obtain ⟨u, r, rfl, k3, k4⟩ := k1
    have := TR.put (a := { tmps := A, defers := [] }) h (d := some p) (by simpa [dstOk] using hp p (by simp)) (⟨k3, k2.1⟩ : OK w0 ρ x u)
    simp only [setMany, List.zip_cons_cons, List.foldl_cons]
    exact TR.many this ⟨k4, k2.2⟩ (fun q hq => hp q (by simp [hq])) (by simpa using hl)

/-- One result. -/
def resR (A : Array Value) : ResultVar → Sem Value
  | .tmp t => pure (A.getD t Go.undef)
  | .cell a t => do loadVar t (← asAddr (A.getD a Go.undef))
theorem results_eq (fn : Func) (A : Array Value) : results fn A = (do let vs ← fn.results.mapM (resR A); pure (if h : vs.size = 1 then vs[0] else .tuple vs)) := by
  unfold results
  rfl

/-- Results. -/
theorem results_ok {fn : Func} {rs : List RV} {A : Array Value} {v : SV} (hc : compRVs P fn.results.toList = some rs) (sr : SR P w0 ρ σ w) (k : TR w0 ρ t N A) (h : resultsSV t σ rs = some v) : ∃ u, (results fn A).run P w = .ok u w ∧ OK w0 ρ v u := by
  have many : ∀ (l : List ResultVar) (rs : List RV) (vs : List SV), compRVs P l = some rs → resMany t σ rs = some vs →
      ∃ us : List Value, (l.mapM (resR A)).run P w = .ok us w ∧ OKs w0 ρ vs us := by
    intro l
    induction l with
    | nil =>
      intro rs vs h1 h2
      simp only [compRVs, Option.some.injEq] at h1
      subst h1
      simp only [resMany, Option.some.injEq] at h2
      subst h2
      exact ⟨[], by simp, VRs.nil, trivial⟩
    | cons r l ih =>
      intro rs vs h1 h2
      simp only [compRVs] at h1
      split at h1
      · rename_i x xs g1 g2
        cases h1
        simp only [resMany] at h2
        split at h2
        · rename_i v' vs' e1 e2
          cases h2
          obtain ⟨us, hr, hk⟩ := ih _ _ g2 e2
          have hone : ∃ u, (resR A r).run P w = .ok u w ∧ OK w0 ρ v' u := by
            cases r with
            | tmp i =>
              simp only [compRV, Option.some.injEq] at g1
              subst g1
              simp only [resOne, Option.some.injEq] at e1
              subst e1
              exact ⟨_, by simp [resR], k.2 i⟩
            | cell i ty =>
              simp only [compRV] at g1
              split at g1
              · rename_i ag n ha hs
                split at g1
                · cases g1
                  simp only [resOne] at e1
                  obtain ⟨B, u, hB, hrun, hok⟩ := load_ok ha hs sr (k.2 i) e1
                  exact ⟨u, by simp [resR, hB, asAddr, hrun], hok⟩
                · cases g1
              · cases g1
          obtain ⟨u, hu1, hu2⟩ := hone
          refine ⟨u :: us, ?_, VRs.cons hu2.1 hk.1, hu2.2, hk.2⟩
          rw [List.mapM_cons]
          simp only [Sem.run_bind, hu1, Result.andThen_ok, hr, Sem.run_pure]
        · cases h2
      · cases h1
  unfold resultsSV at h
  have fin : ∀ vs, resMany t σ rs = some vs → ∃ us : List Value, (results fn A).run P w = .ok (if h : us.toArray.size = 1 then us.toArray[0] else .tuple us.toArray) w ∧ OKs w0 ρ vs us := by
    intro vs hv
    obtain ⟨us, hr, hk⟩ := many _ _ _ hc hv
    refine ⟨us, ?_, hk⟩
    rw [results_eq, Array.mapM_eq_mapM_toList]
    simp [Sem.run_bind, hr]
  split at h
  · rename_i v' hv
    cases h
    obtain ⟨us, hr, hk⟩ := fin _ hv
    obtain ⟨u, rfl, hu⟩ := hk.1.one
    exact ⟨u, by simpa using hr, hu, hk.2.1⟩
  · rename_i vs hne hv
    cases h
    obtain ⟨us, hr, hk⟩ := fin _ hv
    have hl := hk.len
    have : ¬ us.toArray.size = 1 := by
      intro h1
      have : vs.length = 1 := by simp at h1; omega
      match vs, this with
      | [x], _ => exact hne x rfl
    rw [dif_neg this] at hr
    exact ⟨_, hr, by simp only [VR]; exact ⟨_, rfl, by simpa using hk.1⟩, hk.2⟩
  · cases h
end
end Go.Proofs.Ytojjhcgbbmknmaa.Sh

/- The shadow is right: code, rounds, calls, by the fuel. -/
namespace Go.Proofs.Ytojjhcgbbmknmaa.Sh
set_option linter.unusedSimpArgs false
set_option linter.unusedVariables false
open Go Go.RowKit

section
variable {P : Program} {w0 : World} {E : Env}
variable {B : Nat} {ρ ρ' ρ'' ρ1 : Rho} {σ σ' σ'' σ1 : St} {w w' w'' w1 : World} {N : Nat} {t t' : Tr SV} {a : Act}

theorem compOp1_call {o : Oper} {f : Opd} {args : List Opd} (h : compOp1 P o = some (.call f args)) : ∃ c g, o.op = .call c ∧ c.callee = .value g ∧ compOpd g = some f ∧ compOpds c.args.toList = some args := by
  cases ho : o.op
  case call c =>
    cases hc : c.callee
    case value g =>
      simp only [compOp1, ho, hc] at h
      split at h
      · rename_i h1 h2
        cases h
        exact ⟨c, g, rfl, hc, h1, h2⟩
      · cases h
    case builtin b =>
      cases b <;> simp only [compOp1, ho, hc] at h <;> (repeat' (split at h)) <;> first | cases h | skip
    all_goals simp only [compOp1, ho, hc] at h <;> cases h
  all_goals
    exfalso
    revert h
    simp only [compOp1, ho]
    repeat' split
    all_goals first | (intro h; simp_all; done) | simp

theorem compOp_call {o : Oper} {f : Opd} {args : List Opd} (h : compOp P o = some (.call f args)) : ∃ c g, o.op = .call c ∧ c.callee = .value g ∧ compOpd g = some f ∧ compOpds c.args.toList = some args := by
  rcases compOp_inv h with h1 | h1 | h1
  · exact compOp1_call h1
  · rcases comp2_inv h1 with ⟨_, _, _, _, _, _, _, _, _, e⟩ | ⟨_, _, _, _, _, _, _, _, _, _, _, _, _, _, e⟩ | ⟨_, _, _, _, _, _, _, _, _, _, _, _, _, e⟩ | ⟨_, _, _, _, _, _, _, _, _, e⟩ <;> cases e
  · cases h1

theorem run_args {c : Call} {g : Operand} {ty : TypeId} {f : Nat} {A C : Array Value} (hc : c.callee = .value g) (hg : a.eval g = .func (.func f) A C) :
    (resolve a.eval c ty).run P w = .ok { target := .fn (.func f) C, args := A ++ c.args.map a.eval } w := by
  simp [resolve, hc, hg, Deferred.ofValue]
theorem run_argsY {c : Call} {g : Operand} {ty : TypeId} {l : Nat} (hc : c.callee = .value g) (hg : a.eval g = .func (.yield l) #[] #[]) :
    (resolve a.eval c ty).run P w = .ok { target := .fn (.yield l) #[], args := #[] ++ c.args.map a.eval } w := by
  simp [resolve, hc, hg, Deferred.ofValue]

theorem OKs.mk_append {x y : List SV} {u v : Array Value} (h : OKs w0 ρ x u.toList) (k : OKs w0 ρ y v.toList) : OKs w0 ρ (x ++ y) (u ++ v).toList := by
  rw [Array.toList_append]; exact h.append k

theorem OK.fn {f : Nat} {x y : List SV} {u : Value} (h : OK w0 ρ (.fn f x y) u) : ∃ A C : Array Value, u = .func (.func f) A C ∧ OKs w0 ρ x A.toList ∧ OKs w0 ρ y C.toList := by
  obtain ⟨h1, h2⟩ := h
  simp only [VR] at h1
  obtain ⟨A, C, rfl, h3, h4⟩ := h1
  exact ⟨A, C, rfl, ⟨h3, h2.1⟩, h4, h2.2⟩
theorem OK.yld {l : Nat} {u : Value} (h : OK w0 ρ (.yld l) u) : ∃ p, ρ l = some p ∧ u = .func (.yield p.blk) #[] #[] := by
  have := h.1
  simpa only [VR] using this

/-- An operation that calls. -/
theorem one_call {n : Nat} (h3 : ∀ k, k < n → CallOK P w0 E k) (h4 : ∀ k, k < n → RoundOK P w0 E k) {o : Oper} {f : Opd} {args : List Opd} {v : SV} (hc : compOp P o = some (.call f args))
    (h : callV E n (f.ev t) (args.map (·.ev t)) σ = some (v, σ')) {ro : Option Nat} {m : Nat} (hr : RS P w0 B ρ σ t N ro a w) :
    OpDoes P ro m o a w (fun u w' => ∃ ρ', OK w0 ρ' v u ∧ Step1 P w0 ρ σ w ρ' σ' w') := by
  obtain ⟨c, g, ho, hcal, hg, ha⟩ := compOp_call hc
  have hf := opd_ok hg hr.tr
  have hargs : OKs w0 ρ (args.map (·.ev t)) (c.args.map a.eval).toList := by simpa using opds_ok ha hr.tr
  cases n with
  | zero => simp [callV] at h
  | succ n =>
    intro next Q hk
    refine ⟨fun _ _ => trivial, ?_⟩
    rw [Oper.semAt_eq _ _ _ (compOp_noDefer hc)]
    simp only [callV] at h
    split at h
    · rename_i fi first cap hfe
      rw [hfe] at hf
      obtain ⟨A, C, hu, k1, k2⟩ := hf.fn
      obtain ⟨e1, e2⟩ := h3 n (by omega) _ _ _ _ _ h
      have hrun : (execOp a.eval o).run P w = .ok (.enter fi (A ++ c.args.map a.eval ++ C)) w := by
        simp only [execOp, ho, Sem.run_bind, run_args hcal hu, Result.andThen_ok]
        exact e1 _ _
      rw [hrun, Oper.uponIn_enter]
      refine ⟨by simp [FR], (e2 ro (m - 1) ρ w _ hr.sr ((k1.mk_append hargs).mk_append k2)).mono ?_⟩
      rintro e w' ⟨u, ρ', rfl, hok, hst⟩
      exact hk u w' ⟨ρ', hok, hst⟩
    · rename_i l hfe
      rw [hfe] at hf
      obtain ⟨p, hp, hu⟩ := hf.yld
      obtain ⟨r, hr1, hr2, hr3⟩ := h4 n (by omega) _ _ _ _ _ h ro (m - 1) ρ w (c.args.map a.eval) p hr.sr hp hargs
      have hrun : (execOp a.eval o).run P w = .ok (.round p.blk r.fn ((r.params.zip (c.args.map a.eval)).foldl (fun tmps (t, a) => tmps.setIfInBounds t a) r.tmps) r.assign r.body) w := by
        simp only [execOp, ho, Sem.run_bind, run_argsY hcal hu, Result.andThen_ok]
        rw [Array.empty_append]
        exact run_yield hr1 hr2
      rw [hrun, Oper.uponIn_round]
      refine ⟨by simp [FR], hr3.mono ?_⟩
      rintro e w' ⟨u, ρ', rfl, hok, hst⟩
      exact hk u w' ⟨ρ', hok, hst⟩
    · cases h

theorem one_step {n : Nat} (h3 : ∀ k, k ≤ n → CallOK P w0 E k) (h4 : ∀ k, k ≤ n → RoundOK P w0 E k) : OneOK P w0 E (n + 1) := by
  intro o so N t σ v σ' hc h ro m B ρ a w hr
  by_cases hso : ∃ f l, so = .call f l
  · obtain ⟨f, l, rfl⟩ := hso
    simp only [one] at h
    exact one_call (n := n) (fun k hk => h3 k (by omega)) (fun k hk => h4 k (by omega)) hc h hr
  · have h' : sop so t σ = some (v, σ') := by
      cases so <;> first | exact h | (exact absurd ⟨_, _, rfl⟩ hso)
    exact sop_does hc (fun f l e => hso ⟨f, l, e⟩) hr.sr hr.tr h'

theorem EPost.from (h : Step1 P w0 ρ σ w ρ1 σ1 w1) {ex : Ex} {e : Exit} {a' : Act} (k : EPost P w0 B ρ1 σ1 w1 N ex t' σ' e a' w') : EPost P w0 B ρ σ w N ex t' σ' e a' w' := by
  obtain ⟨k1, ρ', k2, k3, k4⟩ := k
  exact ⟨k1, ρ', k2, k3, h.trans k4⟩

/-- Where a loop over a function is entered. -/
theorem enter_ok {ro : Option Nat} (hr : RS P w0 B ρ σ t N ro a w) (fn : FuncId) {ps : Array Tmp} {assign body : Code} {as bd : SC} (h1 : compCode P N assign = some as) (h2 : compCode P N body = some bd) (hps : ∀ p ∈ ps.toList, p < N) :
    ∃ l mark w1, (Instr.enterLoop fn a.tmps ps assign body ro).run P w = .ok (l, mark) w1 ∧ Step1 P w0 ρ σ w (ρ.put σ.next ⟨l, 0, 0⟩) (σ.push (.loop t ps.toList as bd .ready none)) w1 ∧ MKS B (ρ.put σ.next ⟨l, 0, 0⟩) w1 (mark ++ a.defers) := by
  have hn0 : ρ σ.next = none := by
    cases e : ρ σ.next with
    | none => rfl
    | some p => have := hr.sr.dom _ _ e; omega
  have hob : ∀ (w1 : World) (d : Nat), ObR P w0 (ρ.put σ.next ⟨w1.heap.size, 0, 0⟩) ⟨w1.heap.size, 0, 0⟩ (w1.alloc (.loop { state := .ready, pending := none, fn, tmps := a.tmps, params := ps, assign, body, defers := d })) (some (.loop t ps.toList as bd .ready none)) := by
    intro w1 d
    exact ⟨_, World.alloc_heap_new _ _, rfl, rfl, by simp, N, hr.tr.mono (Ext.put hn0), h1, h2, hps⟩
  cases ro with
  | none =>
    have s1 := Step1.foreign hr.sr (.deferred (some []))
    have s2 := Step1.new s1.sr (.loop t ps.toList as bd .ready none) (n := 0) (o := .loop { state := .ready, pending := none, fn, tmps := a.tmps, params := ps, assign, body, defers := w.heap.size }) (hob _ _)
    have hsz : (w.alloc (.deferred (some []))).heap.size = w.heap.size + 1 := World.size_alloc _ _
    rw [hsz] at s2
    refine ⟨w.heap.size + 1, _, _, run_enterLoop_outer .., s1.trans s2, ?_⟩
    obtain ⟨bs, hd, hnd, hb⟩ := hr.marks.step (s1.trans s2)
    obtain ⟨bs0, hd0, hnd0, hb0⟩ := hr.marks
    have hbs : bs = bs0 := by
      have h1 : bs.map (fun b => ({ target := .collected b, args := #[] } : Deferred)) = bs0.map (fun b => ({ target := .collected b, args := #[] } : Deferred)) := by rw [← hd, hd0]
      exact (List.map_inj_right (fun x y e => by simpa using e)).1 h1
    subst hbs
    refine ⟨w.heap.size :: bs, by simp [hd], List.nodup_cons.2 ⟨fun hm => ?_, hnd⟩, fun b hm => ?_⟩
    · have := (Array.getElem?_eq_some_iff.1 (hb0 _ hm).1).1; omega
    · rcases List.mem_cons.1 hm with rfl | hm
      · refine ⟨?_, hr.lo, fun i p e => ?_⟩
        · rw [Below.heap_alloc _ _ _ (by rw [hsz]; omega)]
          exact World.alloc_heap_new _ _
        · simp only [Rho.put] at e
          split at e
          · cases e; simp
          · have := hr.sr.dom _ _ e; omega
      · exact hb b hm
  | some l0 =>
    obtain ⟨r, hl⟩ := hr.rd l0 rfl
    have s2 := Step1.new hr.sr (.loop t ps.toList as bd .ready none) (n := 0) (o := .loop { state := .ready, pending := none, fn, tmps := a.tmps, params := ps, assign, body, defers := r.defers }) (hob _ _)
    refine ⟨w.heap.size, [], _, ?_, s2, by simpa using hr.marks.step s2⟩
    unfold Instr.enterLoop
    simp only [Sem.run_bind, run_getLoop hl, run_newObj_alloc, Result.andThen, Sem.run_pure]

theorem exec_step {n : Nat} (hd : DrawOK P w0 E) (h1 : ∀ k, k ≤ n → OneOK P w0 E k) (h2 : ∀ k, k ≤ n → ExecOK P w0 E k) (h3 : ∀ k, k ≤ n → CallOK P w0 E k) : ExecOK P w0 E (n + 1) := by
  intro c sc N t σ ex t' σ' hc h ro m B ρ a w hr
  cases c with
  | skip =>
    simp only [compCode, Option.some.injEq] at hc
    subst hc
    simp only [exec, Option.some.injEq, Prod.mk.injEq] at h
    obtain ⟨rfl, rfl, rfl⟩ := h
    exact wpIn_skip ⟨trivial, ρ, hr.tr, hr.marks, Step1.refl hr.sr⟩
  | region id ops draw =>
    simp only [compCode] at hc
    split at hc
    case h_2 =>
      simp only [Option.some.injEq] at hc
      subst hc
      simp [exec] at h
    rename_i ss hreg
    simp only [Option.some.injEq] at hc
    subst hc
    have hc := hreg
    simp only [exec] at h
    split at h
    · rename_i t1 σ1 hs
      cases h
      cases draw with
      | true => exact hd n (fun k hk => h1 k (by omega)) N ops ss t σ _ _ hc hs ro m B ρ a w id _ hr (fun a' w' ρ' k1 k2 k3 => ⟨trivial, ρ', k1, k2, k3⟩)
      | false =>
        refine wpIn_region ?_
        rw [List.range_eq_range', show ops.size = ops.toList.length by simp]
        refine seq_ok (n := n) (fun k hk => h1 k (by omega)) ops.toList 0 ss n t σ ρ a w (Nat.le_refl _) (by simpa [compReg] using hc) (fun j => by simp) hs hr (fun a' w' ρ' k1 k2 k3 => ⟨trivial, ρ', k1, k2, k3⟩)
    · cases h
  | seq x y =>
    simp only [compCode] at hc
    split at hc
    · rename_i sa sb hx hy
      cases hc
      simp only [exec] at h
      refine wpIn_seq ?_
      cases hxe : exec E n sa t σ with
      | none => simp [hxe] at h
      | some r =>
        obtain ⟨ex1, t1, σ1⟩ := r
        refine wpIn_mono (h2 n (Nat.le_refl _) x sa N t σ ex1 t1 σ1 hx hxe ro m B ρ a w hr) ?_
        rintro e a1 w1 ⟨k0, ρ1, k1, k2, k3⟩
        cases ex1 with
        | normal =>
          cases e <;> try exact k0.elim
          simp only [hxe] at h
          exact wpIn_mono (h2 n (Nat.le_refl _) y sb N t1 σ1 ex t' σ' hy h ro m B ρ1 a1 w1 (hr.step k3 k1 k2)) (fun e a w k => k.from k3)
        | exit i =>
          cases e <;> try exact k0.elim
          simp only [hxe, Option.some.injEq, Prod.mk.injEq] at h
          obtain ⟨rfl, rfl, rfl⟩ := h
          exact ⟨k0, ρ1, k1, k2, k3⟩
        | ret =>
          cases e <;> try exact k0.elim
          simp only [hxe, Option.some.injEq, Prod.mk.injEq] at h
          obtain ⟨rfl, rfl, rfl⟩ := h
          exact ⟨k0, ρ1, k1, k2, k3⟩
    · cases hc
  | cond c x y =>
    simp only [compCode] at hc
    split at hc
    · rename_i sc' sa sb hcc hx hy
      cases hc
      have hv := opd_ok hcc hr.tr
      simp only [exec] at h
      split at h
      · rename_i hb
        exact wpIn_cond_true (hv.bool hb) (h2 n (Nat.le_refl _) x sa N t σ ex t' σ' hx h ro m B ρ a w hr)
      · rename_i hb
        exact wpIn_cond_false (hv.bool hb) (h2 n (Nat.le_refl _) y sb N t σ ex t' σ' hy h ro m B ρ a w hr)
      · cases h
    · cases hc
  | block id x =>
    simp only [compCode, Option.map_eq_some_iff] at hc
    obtain ⟨sb, hc, rfl⟩ := hc
    simp only [exec] at h
    refine wpIn_block ?_
    cases hxe : exec E n sb t σ with
    | none => simp [hxe] at h
    | some r =>
      obtain ⟨ex1, t1, σ1⟩ := r
      refine wpIn_mono (h2 n (Nat.le_refl _) x sb N t σ ex1 t1 σ1 hc hxe ro m B ρ a w hr) ?_
      rintro e a1 w1 ⟨k0, ρ1, k1, k2, k3⟩
      cases ex1 with
      | normal =>
        cases e <;> try exact k0.elim
        simp only [hxe, Option.some.injEq, Prod.mk.injEq] at h
        obtain ⟨rfl, rfl, rfl⟩ := h
        exact ⟨k0, ρ1, k1, k2, k3⟩
      | exit i =>
        cases e <;> try exact k0.elim
        rename_i j
        have k0 : i = j := k0
        subst k0
        simp only [hxe, Option.some.injEq, Prod.mk.injEq] at h
        obtain ⟨rfl, rfl, rfl⟩ := h
        simp only [Exit.inBlock]
        by_cases hi : i = id
        · subst hi
          rw [if_pos rfl]
          exact ⟨by simp [ExR], ρ1, k1, k2, k3⟩
        · rw [if_neg hi]
          refine ⟨?_, ρ1, k1, k2, k3⟩
          have : Nat.beq i id = false := by
            cases hq : Nat.beq i id with
            | false => rfl
            | true => exact absurd (Nat.eq_of_beq_eq_true hq) hi
          rw [this]; exact rfl
      | ret =>
        cases e <;> try exact k0.elim
        simp only [hxe, Option.some.injEq, Prod.mk.injEq] at h
        obtain ⟨rfl, rfl, rfl⟩ := h
        exact ⟨k0, ρ1, k1, k2, k3⟩
  | loop x =>
    simp only [compCode, Option.map_eq_some_iff] at hc
    obtain ⟨sb, hc, rfl⟩ := hc
    refine wpIn_loopG (fun k a1 w1 => k ≤ n + 1 ∧ ∃ t1 σ1 ρ1, exec E k (.loop sb) t1 σ1 = some (ex, t', σ') ∧ RS P w0 B ρ1 σ1 t1 N ro a1 w1 ∧ Step1 P w0 ρ σ w ρ1 σ1 w1) ?_ (j0 := n + 1) ⟨Nat.le_refl _, t, σ, ρ, h, hr, Step1.refl hr.sr⟩
    rintro j a1 w1 ⟨hj, t1, σ1, ρ1, he, hr1, hs1⟩
    cases j with
    | zero => simp [exec] at he
    | succ j =>
      simp only [exec] at he
      cases hxe : exec E j sb t1 σ1 with
      | none => simp [hxe] at he
      | some r =>
        obtain ⟨ex2, t2, σ2⟩ := r
        refine wpIn_mono (h2 j (by omega) x sb N t1 σ1 ex2 t2 σ2 hc hxe ro m B ρ1 a1 w1 hr1) ?_
        rintro e a2 w2 ⟨k0, ρ2, k1, k2, k3⟩
        cases ex2 with
        | normal =>
          cases e <;> try exact k0.elim
          simp only [hxe] at he
          exact ⟨j, Nat.lt_succ_self _, by omega, t2, σ2, ρ2, he, hr1.step k3 k1 k2, hs1.trans k3⟩
        | exit i =>
          cases e <;> try exact k0.elim
          simp only [hxe, Option.some.injEq, Prod.mk.injEq] at he
          obtain ⟨rfl, rfl, rfl⟩ := he
          exact ⟨k0, ρ2, k1, k2, hs1.trans k3⟩
        | ret =>
          cases e <;> try exact k0.elim
          simp only [hxe, Option.some.injEq, Prod.mk.injEq] at he
          obtain ⟨rfl, rfl, rfl⟩ := he
          exact ⟨k0, ρ2, k1, k2, hs1.trans k3⟩
  | exit i =>
    simp only [compCode, Option.some.injEq] at hc
    subst hc
    simp only [exec, Option.some.injEq, Prod.mk.injEq] at h
    obtain ⟨rfl, rfl, rfl⟩ := h
    exact wpIn_exit ⟨rfl, ρ, hr.tr, hr.marks, Step1.refl hr.sr⟩
  | ret =>
    simp only [compCode, Option.some.injEq] at hc
    subst hc
    simp only [exec, Option.some.injEq, Prod.mk.injEq] at h
    obtain ⟨rfl, rfl, rfl⟩ := h
    exact wpIn_ret ⟨trivial, ρ, hr.tr, hr.marks, Step1.refl hr.sr⟩
  | rangeFunc g ps assign body =>
    simp only [compCode] at hc
    split at hc
    · rename_i fo as bd hg has hbd
      split at hc
      · rename_i hps
        cases hc
        have hps' : ∀ p ∈ ps.toList, p < N := fun p hp => of_decide_eq_true (List.all_eq_true.1 hps p hp)
        have hv := opd_ok hg hr.tr
        simp only [exec] at h
        split at h
        · rename_i gi first cap hfe
          rw [hfe] at hv
          obtain ⟨A, C, hu, q1, q2⟩ := hv.fn
          split at h
          · rename_i v1 σ1 hcall
            obtain ⟨e1, e2⟩ := h3 n (Nat.le_refl _) _ _ _ _ _ hcall
            refine wpIn_rangeFunc fun fn _ => ?_
            obtain ⟨l, mark, w1, hen, s1, hmk⟩ := enter_ok hr fn has hbd hps'
            refine ⟨l, mark, w1, _, w1, gi, A ++ #[.func (.yield l) #[] #[]] ++ C, w1, hen, run_args rfl hu, fun _ _ => trivial, ?_, by simp [FR], ?_⟩
            · have hmap : Array.map a.eval (rangeCall g l).args = #[.func (.yield l) #[] #[]] := by simp [rangeCall]; rfl
              show (callFunc gi (A ++ Array.map a.eval (rangeCall g l).args ++ C)).run P w1 = _
              rw [hmap]; exact e1 _ _
            · have hyl : OK w0 (ρ.put σ.next ⟨l, 0, 0⟩) (.yld σ.next) (.func (.yield l) #[] #[]) := ⟨by simp only [VR]; exact ⟨_, Rho.put_self _ _ _, rfl⟩, trivial⟩
              refine (e2 ro (m - 1) _ w1 _ s1.sr (((q1.mono s1.ext).mk_append (v := #[.func (.yield l) #[] #[]]) (y := [.yld σ.next]) ⟨VRs.cons hyl.1 VRs.nil, hyl.2, trivial⟩).mk_append (q2.mono s1.ext))).mono ?_
              rintro e w3 ⟨u, ρ3, rfl, hok, s3⟩
              have hp3 : ρ3 σ.next = some ⟨l, 0, 0⟩ := s3.ext _ _ (Rho.put_self _ _ _)
              have hob := s3.sr.obs _ _ hp3
              have htr : TR w0 ρ3 t N a.tmps := hr.tr.mono (s1.ext.trans s3.ext)
              have fin : ∀ (t3 : Tr SV) (ps3 : List Nat) (as3 bd3 : SC) (st : LoopState) (pend : Option Jump), σ1.get σ.next = some (.loop t3 ps3 as3 bd3 st pend) → st ≠ .busy →
                  ∃ w4, (Instr.endLoop l).run P w3 = .ok (pend.map jumpOf) w4 ∧ Step1 P w0 ρ σ w ρ3 (σ1.set σ.next .dead) w4 ∧ MKS B ρ3 w4 (mark ++ a.defers) := by
                intro t3 ps3 as3 bd3 st pend hget hbusy
                rw [hget] at hob
                obtain ⟨r, hr1, hr2, hr3, hr4⟩ := hob
                have hlt := (Array.getElem?_eq_some_iff.1 hr1).1
                have s4 : Step1 P w0 ρ3 σ1 w3 ρ3 (σ1.set σ.next .dead) (w3.putObj l (.loop { r with state := .exhausted })) :=
                  SR.write s3.sr hp3 (by rw [hget]; simp) World.putObj_size (World.putObj_heap_same hlt) (fun k hk => World.putObj_heap_other hk) rfl rfl rfl trivial (fun _ _ => ⟨_, rfl⟩)
                refine ⟨_, by rw [run_endLoop hr1 (by rw [hr2]; exact hbusy), hr3], (s1.trans s3).trans s4, (hmk.step s3).step s4⟩
              split at h
              · cases h
              · rename_i hget
                cases h
                obtain ⟨w4, f1, f2, f3⟩ := fin _ _ _ _ _ _ hget (by intro e; subst e; simp_all)
                exact ⟨_, w4, f1, ⟨trivial, ρ3, htr, f3, f2⟩⟩
              · rename_i hget
                cases h
                obtain ⟨w4, f1, f2, f3⟩ := fin _ _ _ _ _ _ hget (by intro e; subst e; simp_all)
                exact ⟨_, w4, f1, wpIn_ret ⟨trivial, ρ3, htr, f3, f2⟩⟩
              · rename_i hget
                cases h
                obtain ⟨w4, f1, f2, f3⟩ := fin _ _ _ _ _ _ hget (by intro e; subst e; simp_all)
                exact ⟨_, w4, f1, wpIn_exit ⟨rfl, ρ3, htr, f3, f2⟩⟩
              · cases h
          · cases h
        · cases h
      · cases hc
    · cases hc
  | _ =>
    simp only [compCode, Option.some.injEq] at hc
    subst hc
    simp [exec] at h
end
end Go.Proofs.Ytojjhcgbbmknmaa.Sh

/- The shadow is right: rounds and calls; all of it, by the fuel. -/
namespace Go.Proofs.Ytojjhcgbbmknmaa.Sh
set_option linter.unusedSimpArgs false
set_option linter.unusedVariables false
open Go Go.RowKit

section
variable {P : Program} {w0 : World} {E : Env}
variable {B : Nat} {ρ ρ' ρ'' ρ1 : Rho} {σ σ' σ'' σ1 : St} {w w' w'' w1 : World} {N : Nat} {t t' : Tr SV} {a : Act}

theorem loop_write (s : SR P w0 ρ σ w) {L : Nat} {p : Pl} (hp : ρ L = some p) {t : Tr SV} {ps : List Nat} {as bd : SC} {st : LoopState} {pend : Option Jump} (hg : σ.get L = some (.loop t ps as bd st pend)) (st' : LoopState) (pend' : Option Jump) :
    ∃ r : Loop, w.heap[p.blk]? = some (Obj.loop r) ∧ r.state = st ∧ r.pending = pend.map jumpOf ∧
      Step1 P w0 ρ σ w ρ (σ.set L (.loop t ps as bd st' pend')) (w.putObj p.blk (.loop { r with state := st', pending := pend'.map jumpOf })) := by
  have hob := s.obs _ _ hp
  rw [hg] at hob
  obtain ⟨r, hr1, hr2, hr3, hr4⟩ := hob
  have hlt := (Array.getElem?_eq_some_iff.1 hr1).1
  refine ⟨r, hr1, hr2, hr3, SR.write s hp (by rw [hg]; simp) World.putObj_size (World.putObj_heap_same hlt) (fun k hk => World.putObj_heap_other hk) rfl rfl rfl ?_ (fun _ _ => ⟨_, rfl⟩)⟩
  exact ⟨_, World.putObj_heap_same hlt, rfl, rfl, hr4⟩

theorem round_step {n : Nat} (h2 : ∀ k, k ≤ n → ExecOK P w0 E k) : RoundOK P w0 E (n + 1) := by
  intro L args σ v σ' h ro m ρ w vals p hs hp hargs
  simp only [round] at h
  split at h
  · rename_i t ps as body hget
    have hob := hs.obs _ _ hp
    rw [hget] at hob
    obtain ⟨r, hr1, hr2, hr3, hr4, N, hr5, hr6, hr7, hr8⟩ := hob
    cases hlen : Nat.beq args.length ps.length with
    | false => simp [hlen] at h
    | true =>
      have hlen := Nat.eq_of_beq_eq_true hlen
      rw [hlen] at h
      simp only [Nat.beq_eq_true_eq, cond_true, Nat.beq_refl] at h
      have hvl : vals.size = r.params.size := by rw [hr4]; have := hargs.len; simp at this ⊢; omega
      refine ⟨r, hr1, hvl, ?_⟩
      refine roundIn_of_wpIn trivial ?_
      split at h
      · rename_i t1 σ1 hex1
        have htr : TR w0 ρ (setMany t ps args) N ((r.params.zip vals).foldl (fun tmps (t, a) => tmps.setIfInBounds t a) r.tmps) := by
          have := TR.many (vals := vals.toList) hr5 hargs hr8 hlen
          rw [hr4]
          rw [← Array.foldl_toList, Array.toList_zip]
          exact this
        have hrs : RS P w0 w.heap.size ρ σ (setMany t ps args) N (some p.blk) { tmps := (r.params.zip vals).foldl (fun tmps (t, a) => tmps.setIfInBounds t a) r.tmps, defers := [] } w :=
          ⟨hs, htr, ⟨[], rfl, List.nodup_nil, by simp⟩, Nat.le_refl _, fun l e => by cases e; exact ⟨r, hr1⟩⟩
        refine wpIn_mono (h2 n (Nat.le_refl _) r.assign as N _ σ .normal t1 σ1 hr6 hex1 (some p.blk) m _ ρ _ w hrs) ?_
        rintro e a1 w1 ⟨k0, ρ1, k1, k2, k3⟩
        cases e <;> try exact k0.elim
        have hp1 := k3.ext _ _ hp
        split at h
        · rename_i t2 ps2 as2 body2 hget1
          obtain ⟨r1, q1, q2, q3, q4⟩ := loop_write k3.sr hp1 hget1 .busy none
          refine ⟨_, run_beginRound q1 q2, ?_⟩
          have q4' : Step1 P w0 ρ1 σ1 w1 ρ1 (σ1.set L (.loop t2 ps2 as2 body2 .busy none)) (w1.putObj p.blk (.loop { r1 with state := .busy })) := by
            have : ({ r1 with state := .busy, pending := (none : Option Jump).map jumpOf } : Loop) = { r1 with state := .busy } := by
              cases r1; simp_all
            rw [← this]; exact q4
          split at h
          · rename_i ex t2' σ2 hex2
            have hrs1 : RS P w0 w.heap.size ρ σ (setMany t ps args) N (some p.blk) _ w := hrs
            refine wpIn_mono (h2 n (Nat.le_refl _) r.body body N t1 _ ex _ σ2 hr7 hex2 (some p.blk) m w.heap.size ρ1 a1 _ (hrs.step (k3.trans q4') k1 (k2.step q4'))) ?_
            rintro e2 a2 w2 ⟨j0, ρ2, j1, j2, j3⟩
            have hp2 := j3.ext _ _ hp1
            split at h
            · rename_i t3 ps3 as3 body3 st3 pend3 hget2
              have fin : ∀ (st' : LoopState) (pend' : Option Jump) (jump : Option Code), jump = pend'.map jumpOf → st' = (if jump.isNone then .ready else .done) → σ' = σ2.set L (.loop t3 ps3 as3 body3 st' pend') → v = .bool jump.isNone →
                  ∃ v' w', (Instr.endRound p.blk jump).run P w2 = .ok v' w' ∧ ∃ u ρ', Ending.returned v' = Ending.returned u ∧ OK w0 ρ' v u ∧ Step1 P w0 ρ σ w ρ' σ' w' := by
                rintro st' pend' jump rfl rfl rfl rfl
                obtain ⟨r2, y1, y2, y3, y4⟩ := loop_write j3.sr hp2 hget2 (if (pend'.map jumpOf).isNone then .ready else .done) pend'
                exact ⟨_, _, run_endRound _ y1, _, ρ2, rfl, OK.mk_bool, ((k3.trans q4').trans j3).trans y4⟩
              split at h
              · cases e2 <;> try exact j0.elim
                cases h
                exact fin .ready none none rfl rfl rfl rfl
              · cases e2 <;> try exact j0.elim
                cases h
                exact fin .done (some .ret) (some .ret) rfl rfl rfl rfl
              · cases e2 <;> try exact j0.elim
                cases h
                have j0 : _ = _ := j0
                subst j0
                exact fin .done (some (.exit _)) (some (.exit _)) rfl rfl rfl rfl
            · cases h
          · cases h
        · cases h
      · cases h
  · cases h

/-- A block of no one is turned behind a step. -/
theorem Step1.put_other (h : Step1 P w0 ρ σ w ρ' σ' w') (h0 : w0.heap.size ≤ w.heap.size) {b : Nat} {o : Obj} (h1 : w.heap.size ≤ b) (h2 : b < w'.heap.size) (h3 : ∀ i p, ρ' i = some p → p.blk ≠ b) (hz : ∀ a v, w'.cell? a = some v → a.block ≠ b) : Step1 P w0 ρ σ w ρ' σ' (w'.putObj b o) :=
  ⟨Step1.other h.sr h2 (Nat.le_trans h0 h1) h3 hz, h.ext, h.nxt, by simpa using h.size, h.newid, h.newblk, fun c hc hn => (World.putObj_heap_other (by omega)).trans (h.frame c hc hn), h.keep,
    fun c r hc => by
      have := (Array.getElem?_eq_some_iff.1 hc).1
      obtain ⟨r', hr'⟩ := h.loops c r hc
      exact ⟨r', (World.putObj_heap_other (by omega)).trans hr'⟩, h.newfz⟩

theorem leaves_ok {F : Func} {A : Array Value} {R : Ending → World → Prop} {m : Nat} (h0 : w0.heap.size ≤ w.heap.size) (hR : ∀ w', Step1 P w0 ρ σ w ρ' σ' w' → ∃ v, (results F A).run P w' = .ok v w' ∧ R (.returned v) w') :
    ∀ (ds : List Deferred) (w' : World), Step1 P w0 ρ σ w ρ' σ' w' → MKS w.heap.size ρ' w' ds → LeavesInM (FR none) m P F A R ds .returning w' := by
  intro ds
  induction ds with
  | nil =>
    intro w' h _
    exact hR w' h
  | cons d ds ih =>
    rintro w' h ⟨bs, hd, hnd, hb⟩
    cases bs with
    | nil => simp at hd
    | cons b bs =>
      simp only [List.map_cons, List.cons.injEq] at hd
      obtain ⟨rfl, rfl⟩ := hd
      obtain ⟨h1, h2, h3⟩ := hb b (by simp)
      have hlt := (Array.getElem?_eq_some_iff.1 h1).1
      refine ⟨by simp, .inl ⟨b, _, rfl, run_takeDeferred h1, ih _ (h.put_other h0 h2 hlt h3 (fun a v hc e => by
        subst e
        simp only [World.cell?, h1] at hc
        cases hc)) ⟨bs, rfl, (List.nodup_cons.1 hnd).2, fun c hc => ?_⟩⟩⟩
      obtain ⟨g1, g2, g3⟩ := hb c (by simp [hc])
      have hne : c ≠ b := fun e => by subst e; exact (List.nodup_cons.1 hnd).1 hc
      exact ⟨(World.putObj_heap_other hne).trans g1, g2, g3⟩

theorem callFunc_ok {f : Nat} {F : Func} {fn : SFun} (hf : P.funcs[f]? = some F) (hc : compFun P F = some fn) (vals : Array Value) (w : World) : (callFunc f vals).run P w = .ok (.enter f vals) w := by
  unfold compFun at hc
  split at hc
  · rename_i c hb
    split at hc
    · split at hc
      · rename_i h
        have h2 := h.2
        simp only [beq_eq_false_iff_ne] at h2
        simp [callFunc, hf, h2, hb]
      · cases hc
    · cases hc
  · cases hc

theorem call_step {n : Nat} (he : EnvOK P w0 E) (h2 : ∀ k, k ≤ n → ExecOK P w0 E k) : CallOK P w0 E (n + 1) := by
  intro f args σ v σ' h
  simp only [call] at h
  split at h
  · rename_i g hg
    obtain ⟨e1, e2⟩ := he.ext f g hg
    exact ⟨e1, fun ro m ρ w vals hs ha => e2 args σ v σ' h ro m ρ w vals hs ha⟩
  · rename_i hext
    split at h
    · rename_i fn hfn
      obtain ⟨F, hF, hcomp⟩ := he.fn f fn hext hfn
      refine ⟨fun vals w => callFunc_ok hF hcomp vals w, fun ro m ρ w vals hs ha => ?_⟩
      show CallsIn (FR none) m P f vals w _
      unfold compFun at hcomp
      split at hcomp
      · rename_i c hb
        split at hcomp
        · rename_i b rs hcb hrs
          split at hcomp
          · rename_i hnp
            simp only [Option.some.injEq] at hcomp
            subst hcomp
            cases hlen : Nat.beq args.length (F.params.size + F.nfree) with
            | false => simp [hlen] at h
            | true =>
              simp only [hlen, cond_true] at h
              have hlen := Nat.eq_of_beq_eq_true hlen
              refine callsIn_of_wp_marks hF hb trivial ?_
              have hrs0 : RS P w0 w.heap.size ρ σ (Tr.fill .nil 0 args) F.ntmps none { tmps := vals ++ Array.replicate (F.ntmps - vals.size) Go.undef, defers := [] } w :=
                ⟨hs, TR.init ha (by omega), ⟨[], rfl, List.nodup_nil, by simp⟩, Nat.le_refl _, fun l e => by cases e⟩
              have fin : ∀ (t1 : Tr SV) (σ1 : St) (a1 : Act) (w1 : World) (ρ1 : Rho), (resultsSV t1 σ1 rs).map (fun v => (v, σ1)) = some (v, σ') → TR w0 ρ1 t1 F.ntmps a1.tmps → MKS w.heap.size ρ1 w1 a1.defers → Step1 P w0 ρ σ w ρ1 σ1 w1 →
                  LeavesInM (FR none) m P F a1.tmps (fun e w' => ∃ u ρ', e = .returned u ∧ OK w0 ρ' v u ∧ Step1 P w0 ρ σ w ρ' σ' w') a1.defers .returning w1 := by
                intro t1 σ1 a1 w1 ρ1 hres htr hmk hst
                obtain ⟨v', hv', heq⟩ := Option.map_eq_some_iff.1 hres
                cases heq
                refine leaves_ok (ρ' := ρ1) hs.below.size (fun w' hst' => ?_) _ _ hst hmk
                obtain ⟨u, hu1, hu2⟩ := results_ok hrs hst'.sr htr hv'
                exact ⟨u, hu1, u, ρ1, rfl, hu2, hst'⟩
              cases hex : exec E n b (Tr.fill .nil 0 args) σ with
              | none => simp [hex] at h
              | some r =>
                obtain ⟨ex, t1, σ1⟩ := r
                refine wpIn_mono (h2 n (Nat.le_refl _) c b F.ntmps _ σ ex t1 σ1 hcb hex none m _ ρ _ w hrs0) ?_
                rintro e a1 w1 ⟨k0, ρ1, k1, k2, k3⟩
                cases ex with
                | normal =>
                  cases e <;> try exact k0.elim
                  simp only [hex] at h
                  exact fin _ _ _ _ _ h k1 k2 k3
                | ret =>
                  cases e <;> try exact k0.elim
                  simp only [hex] at h
                  exact fin _ _ _ _ _ h k1 k2 k3
                | exit i => simp [hex] at h
          · cases hcomp
        · cases hcomp
      · cases hcomp
    · cases h

theorem all_ok (he : EnvOK P w0 E) (hd : DrawOK P w0 E) : ∀ n k, k ≤ n → OneOK P w0 E k ∧ ExecOK P w0 E k ∧ CallOK P w0 E k ∧ RoundOK P w0 E k := by
  intro n
  induction n with
  | zero =>
    intro k hk
    have : k = 0 := by omega
    subst this
    refine ⟨fun o so N t σ v σ' _ h => ?_, fun c sc N t σ ex t' σ' _ h => ?_, fun f args σ v σ' h => ?_, fun L args σ v σ' h => ?_⟩
    · simp [one] at h
    · simp [exec] at h
    · simp [call] at h
    · simp [round] at h
  | succ n ih =>
    intro k hk
    by_cases hkn : k ≤ n
    · exact ih k hkn
    · have : k = n + 1 := by omega
      subst this
      exact ⟨one_step (fun k hk => (ih k hk).2.2.1) (fun k hk => (ih k hk).2.2.2), exec_step hd (fun k hk => (ih k hk).1) (fun k hk => (ih k hk).2.1) (fun k hk => (ih k hk).2.2.1), call_step he (fun k hk => (ih k hk).2.1), round_step (fun k hk => (ih k hk).2.1)⟩

/-- **What the shadow computes of a call, the machine does.** -/
theorem call_ok (he : EnvOK P w0 E) (hd : DrawOK P w0 E) (n : Nat) : CallOK P w0 E n := (all_ok he hd n n (Nat.le_refl _)).2.2.1
end
end Go.Proofs.Ytojjhcgbbmknmaa.Sh
