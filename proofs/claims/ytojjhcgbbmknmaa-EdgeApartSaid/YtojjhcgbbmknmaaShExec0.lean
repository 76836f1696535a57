/- What the machine does of code, told by the shadow: words; small pieces. -/
import Derived.Test.YtojjhcgbbmknmaaShOp3
import Derived.RangeFuncCalls
namespace Go.Proofs.Ytojjhcgbbmknmaa.Sh
set_option linter.unusedSimpArgs false
set_option linter.unusedVariables false
open Go Go.RowKit

/-- The fence of this walk: nothing is shut out; in a round, or not. -/
def FR (ro : Option Nat) : Fence := { fn := fun _ => True, depth := none, alive := false, round := ro }
theorem FR_none : FR none = Fence.wide := rfl
theorem FR_in (ro : Option Nat) (l : Nat) : (FR ro).inRound l = FR (some l) := rfl
theorem FR_room (ro : Option Nat) (n : Nat) : (FR ro).room n := fun _ h => by simp [FR] at h

/-- A loop, by rounds that are counted down beside the state. -/
theorem wpIn_loopG {F : Fence} {n : Nat} {P : Program} {Q : Exit → Act → World → Prop} {c : Code} (J : Nat → Act → World → Prop)
    (round : ∀ j a w, J j a w → c.wpIn F n P (Exit.then (fun a' w' => ∃ j', j' < j ∧ J j' a' w') Q) a w) {j0 : Nat} {a : Act} {w : World} (h₀ : J j0 a w) : (Code.loop c).wpIn F n P Q a w := by
  intro b k cs hro hb hr
  have key : ∀ j a w, J j a w → ∃ e a' w', Q e a' w' ∧ ArrivesIn (Machine.fenced P F) P (lone (b.atR a (.code c :: .inLoop c :: k)) cs w) b k cs e a' w' := by
    intro j
    induction j using Nat.strongRecOn with
    | _ j ih =>
      intro a w hI
      obtain ⟨e, a₁, w₁, hq, harr⟩ := round j a w hI b (.inLoop c :: k) cs hro hb hr
      cases e with
      | normal =>
        obtain ⟨j', hlt, hI₁⟩ := hq
        obtain ⟨e₂, a₂, w₂, hq₂, harr₂⟩ := ih j' hlt a₁ w₁ hI₁
        exact ⟨e₂, a₂, w₂, hq₂, .of_steps (StepsIn.trans harr (.one (fenced_calm hb hr rfl) stepR_inLoop)) harr₂⟩
      | exit id => exact ⟨_, a₁, w₁, hq, .pass (x := .inLoop c) rfl (fun _ _ => .inl (by simp)) harr⟩
      | goto l => exact ⟨_, a₁, w₁, hq, .pass (x := .inLoop c) rfl (fun _ _ => .inl (by simp)) harr⟩
      | ret => exact ⟨_, a₁, w₁, hq, .pass (x := .inLoop c) rfl (fun _ _ => .inl (by simp)) harr⟩
      | panic ch => exact ⟨_, a₁, w₁, hq, .pass (x := .inLoop c) rfl (fun _ _ => .inl (by simp)) harr⟩
      | outgrown => exact ⟨_, a₁, w₁, hq, .pass (x := .inLoop c) rfl (fun _ _ => .inl (by simp)) harr⟩
  obtain ⟨e, a', w', hq, harr⟩ := key _ a w h₀
  exact ⟨e, a', w', hq, .of_steps (.one (fenced_calm hb hr rfl) stepR_loop) harr⟩

section
variable (P : Program) (w0 : World)

/-- The marks among the deferred calls: blocks of the machine that are none of the shadow's. -/
def MKS (B : Nat) (ρ : Rho) (w : World) (ds : List Deferred) : Prop :=
  ∃ bs : List Nat, ds = bs.map (fun b => { target := .collected b, args := #[] }) ∧ bs.Nodup ∧ ∀ b ∈ bs, w.heap[b]? = some (.deferred (some [])) ∧ B ≤ b ∧ ∀ i p, ρ i = some p → p.blk ≠ b

structure RS (B : Nat) (ρ : Rho) (σ : St) (t : Tr SV) (N : Nat) (ro : Option Nat) (a : Act) (w : World) : Prop where
  sr : SR P w0 ρ σ w
  tr : TR w0 ρ t N a.tmps
  marks : MKS B ρ w a.defers
  lo : B ≤ w.heap.size
  rd : ∀ l, ro = some l → ∃ r : Loop, w.heap[l]? = some (Obj.loop r)

def ExR : Ex → Exit → Prop
  | .normal, .normal => True
  | .exit i, .exit j => i = j
  | .ret, .ret => True
  | _, _ => False

def EPost (B : Nat) (ρ : Rho) (σ : St) (w : World) (N : Nat) (ex : Ex) (t' : Tr SV) (σ' : St) : Exit → Act → World → Prop := fun e a' w' =>
  ExR ex e ∧ ∃ ρ', TR w0 ρ' t' N a'.tmps ∧ MKS B ρ' w' a'.defers ∧ Step1 P w0 ρ σ w ρ' σ' w'
variable {P w0}
variable {B : Nat} {ρ ρ' ρ'' : Rho} {σ σ' σ'' : St} {w w' w'' : World} {N : Nat} {t t' : Tr SV} {a : Act}

theorem MKS.step {ds : List Deferred} (h : MKS B ρ w ds) (k : Step1 P w0 ρ σ w ρ' σ' w') : MKS B ρ' w' ds := by
  obtain ⟨bs, rfl, hn, hb⟩ := h
  refine ⟨bs, rfl, hn, fun b hm => ?_⟩
  obtain ⟨h1, h2, h3⟩ := hb b hm
  have hlt := (Array.getElem?_eq_some_iff.1 h1).1
  refine ⟨(k.frame b hlt h3).trans h1, h2, fun i p e hp => ?_⟩
  by_cases hi : ρ i = none
  · rcases k.newblk i p e hi with g | ⟨j, q, g1, g2⟩
    · omega
    · exact h3 j q g1 (g2.trans hp)
  · obtain ⟨q, hq⟩ := Option.ne_none_iff_exists'.1 hi
    have := k.ext _ _ hq
    rw [e] at this; cases this
    exact h3 i p hq hp

theorem RS.step {ro : Option Nat} (h : RS P w0 B ρ σ t N ro a w) (k : Step1 P w0 ρ σ w ρ' σ' w') {a' : Act} (ht : TR w0 ρ' t' N a'.tmps) (hm : MKS B ρ' w' a'.defers) : RS P w0 B ρ' σ' t' N ro a' w' :=
  ⟨k.sr, ht, hm, Nat.le_trans h.lo k.size, fun l e => by obtain ⟨r, hr⟩ := h.rd l e; exact k.loops l r hr⟩

/-- A foreign block is laid. -/
theorem Step1.foreign (h : SR P w0 ρ σ w) (o : Obj) : Step1 P w0 ρ σ w ρ σ (w.alloc o) := by
  have hsz : (w.alloc o).heap.size = w.heap.size + 1 := by show (w.heap.push o).size = _; simp
  exact ⟨⟨h.below.alloc h.below.size _, fun i p e => by have := h.dom i p e; exact ⟨this.1, this.2.1, by rw [hsz]; omega⟩, h.inj, fun i p e => (h.obs i p e).world (Below.heap_alloc _ _ _ (h.dom i p e).2.2) (by rw [hsz]; omega), h.fresh, fun a v e => by
      obtain ⟨h1, h2⟩ := h.hold a v e
      exact ⟨(cell?_block (Below.heap_alloc _ _ _ (cell?_lt h1))).trans h1, h2⟩⟩,
    Ext.refl _, Nat.le_refl _, by rw [hsz]; omega, fun _ _ h => .inl h, fun _ _ h k => (by rw [h] at k; cases k), fun b hb _ => Below.heap_alloc _ _ _ hb, fun _ _ _ => rfl,
    fun b r h => ⟨r, (Below.heap_alloc _ _ _ (Array.getElem?_eq_some_iff.1 h).1).trans h⟩, fun _ _ h => .inl h⟩

/-- Temporaries after a step. -/
theorem getT_set (t : Tr SV) (d i : Nat) (v : SV) : getT (t.set d v) i = if i = d then v else getT t i := by
  unfold getT
  rw [Tr.get_set]
  by_cases h : i = d
  · rw [if_pos h, if_pos h]
  · rw [if_neg h, if_neg h]
theorem TR.put (h : TR w0 ρ t N a.tmps) {d : Option Nat} {v : SV} {u : Value} (hd : dstOk N d = true) (hv : OK w0 ρ v u) : TR w0 ρ (putD t d v) N (a.put d u).tmps := by
  cases d with
  | none => exact h
  | some d =>
    have hd : d < N := of_decide_eq_true hd
    refine ⟨by simp [Act.put, h.1], fun i => ?_⟩
    simp only [putD, Act.put, getT_set]
    by_cases hi : i = d
    · subst hi
      rw [if_pos rfl]
      have : (a.tmps.setIfInBounds i u).getD i Go.undef = u := by simp [Array.getD, h.1, hd]
      rw [this]; exact hv
    · rw [if_neg hi]
      have : (a.tmps.setIfInBounds d u).getD i Go.undef = a.tmps.getD i Go.undef := by
        simp only [Array.getD_eq_getD_getElem?]
        rw [Array.getElem?_setIfInBounds_ne (Ne.symm hi)]
      rw [this]; exact h.2 i

/-- What one operation does, whatever is asked behind it. -/
def OpDoes (P : Program) (ro : Option Nat) (m : Nat) (o : Oper) (a : Act) (w : World) (R : Value → World → Prop) : Prop :=
  ∀ (next : Act → World → Prop) (Q : Exit → Act → World → Prop), (∀ u w', R u w' → next (a.put o.dst u) w') → o.wpIn (FR ro) m P a w next Q

theorem compOp_noDefer {o : Oper} {so : SOp} (h : compOp P o = some so) : ∀ c, o.op ≠ .defer c := by
  intro c ho
  simp [compOp, compOp1, compOp2, ho] at h

theorem opDoes_run {ro : Option Nat} {m : Nat} {o : Oper} {so : SOp} (hc : compOp P o = some so) {nx : Next} {u : Value} (hr : (execOp a.eval o).run P w = .ok nx w') (hnx : nx = .value u ∨ (nx = .skip ∧ u = Go.undef)) :
    OpDoes P ro m o a w (fun x y => x = u ∧ y = w') := by
  intro next Q h
  refine ⟨fun _ _ => trivial, ?_⟩
  rw [Oper.semAt_eq _ _ _ (compOp_noDefer hc), hr]
  rcases hnx with rfl | ⟨rfl, rfl⟩
  · exact h _ _ ⟨rfl, rfl⟩
  · exact h _ _ ⟨rfl, rfl⟩

/-- One operation that is no call: what it does. -/
theorem sop_does {ro : Option Nat} {m : Nat} {o : Oper} {so : SOp} {v : SV} (hc : compOp P o = some so) (hn : ∀ f l, so ≠ .call f l) (sr : SR P w0 ρ σ w) (k : TR w0 ρ t N a.tmps) (h : sop so t σ = some (v, σ')) :
    OpDoes P ro m o a w (fun u w' => ∃ ρ', OK w0 ρ' v u ∧ Step1 P w0 ρ σ w ρ' σ' w') := by
  have mono : ∀ {u : Value} {w' : World}, OpDoes P ro m o a w (fun x y => x = u ∧ y = w') → (∃ ρ', OK w0 ρ' v u ∧ Step1 P w0 ρ σ w ρ' σ' w') → OpDoes P ro m o a w (fun u w' => ∃ ρ', OK w0 ρ' v u ∧ Step1 P w0 ρ σ w ρ' σ' w') := by
    intro u w' h1 h2 next Q hk
    exact h1 next Q (by rintro _ _ ⟨rfl, rfl⟩; exact hk _ _ h2)
  cases hk : sopKd so with
  | pure =>
    obtain ⟨rfl, hy⟩ := pure_sound hc hk k h
    obtain ⟨u, hr, hu⟩ := hy w
    exact mono (opDoes_run hc hr (.inl rfl)) ⟨ρ, hu, Step1.refl sr⟩
  | reads =>
    obtain ⟨rfl, u, hr, hu⟩ := reads_sound hc hk sr k h
    exact mono (opDoes_run hc hr (.inl rfl)) ⟨ρ, hu, Step1.refl sr⟩
  | alloc =>
    obtain ⟨ob, rfl, hy⟩ := alloc_sound hc hk k h
    obtain ⟨O, n, u, hr, hl⟩ := hy w
    have hn0 : ρ σ.next = none := by
      cases e : ρ σ.next with
      | none => rfl
      | some p => have := sr.dom _ _ e; omega
    obtain ⟨h1, h2⟩ := hl _ (Ext.put (p := ⟨w.heap.size, 0, n⟩) hn0) (Rho.put_self _ _ _)
    exact mono (opDoes_run hc hr (.inl rfl)) ⟨_, h1, Step1.new sr ob h2⟩
  | big =>
    obtain ⟨nx, u, w', ρ', hr, hnx, hok, hst⟩ := big_sound hc hk sr k h
    exact mono (opDoes_run hc hr hnx) ⟨ρ', hok, hst⟩

/-- A guard, told by the shadow. -/
theorem wanted_ok {ops : Array Oper} {o : Oper} {g : Option (Nat × Bool)} {b : Bool} (hg : compGuard ops o.guard = some g) (k : TR w0 ρ t N a.tmps) (h : wantedS t g = some b) : Region.wanted o (yielded ops a.tmps) = b := by
  unfold compGuard at hg
  split at hg
  · rename_i e
    cases hg
    simp only [wantedS, Option.some.injEq] at h
    subst h
    simp [Region.wanted, e]
  · rename_i j want e
    split at hg
    · rename_i d hd
      cases hg
      simp only [wantedS] at h
      split at h
      · rename_i c hc
        cases h
        have hv := (k.2 d).bool hc
        have : yielded ops a.tmps j = some c := by
          unfold yielded
          rw [hd]
          simp only [Option.bind_some]
          have hs : a.tmps[d]? = some (.bool c) := by
            rw [Array.getD_eq_getD_getElem?] at hv
            cases hq : a.tmps[d]? with
            | none => rw [hq] at hv; simp [Go.undef] at hv
            | some u => rw [hq] at hv; simpa using hv
          rw [hs]
        simp only [Region.wanted, e, this]
        cases c <;> cases want <;> rfl
      · rename_i hc
        cases h
        have hv := (k.2 d).1
        rw [hc] at hv
        simp only [VR, Sc.val] at hv
        have : yielded ops a.tmps j = none := by
          unfold yielded
          rw [hd]
          simp only [Option.bind_some]
          cases hq : a.tmps[d]? with
          | none => rfl
          | some u =>
            rw [Array.getD_eq_getD_getElem?, hq] at hv
            simp only [Option.getD_some] at hv
            rw [hv]; rfl
        simp only [Region.wanted, e, this]
        rfl
      · cases h
    · cases hg
end
end Go.Proofs.Ytojjhcgbbmknmaa.Sh
