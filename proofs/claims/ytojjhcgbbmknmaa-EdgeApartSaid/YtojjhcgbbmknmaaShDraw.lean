/- Regions that draw their order: whatever order is drawn, what is computed is what the order at hand computes. -/
import Derived.Test.YtojjhcgbbmknmaaShDraw1
import Derived.Test.YtojjhcgbbmknmaaShExec
namespace Go.Proofs.Ytojjhcgbbmknmaa.Sh
set_option linter.unusedSimpArgs false
set_option linter.unusedVariables false
open Go Go.RowKit

def lis (L : Array Bool) (i : Nat) : Prop := L.getD i false = true
theorem lis_set {L : Array Bool} {i q : Nat} (h : i < L.size) : lis (L.setIfInBounds i true) q ↔ (q = i ∨ lis L q) := by
  unfold lis
  by_cases hq : q = i
  · subst hq
    simp [Array.getD, h]
  · rw [getD_set_ne false (Ne.symm hq)]
    simp [hq]

theorem TR.congr {w0 : World} {ρ : Rho} {t t' : Tr SV} {N : Nat} {a : Array Value} (h : TR w0 ρ t N a) (k : ∀ d, getT t d = getT t' d) : TR w0 ρ t' N a := ⟨h.1, fun i => by rw [← k i]; exact h.2 i⟩

theorem getT_putD_ne {t : Tr SV} {dst : Option Nat} {v : SV} {d : Nat} (h : dst ≠ some d) : getT (putD t dst v) d = getT t d := by
  cases dst with
  | none => rfl
  | some e => simp only [putD]; rw [getT_set, if_neg (fun e' => h (by rw [e']))]
theorem getT_putD_eq {t : Tr SV} {dst : Option Nat} {v : SV} {d : Nat} (h : dst = some d) : getT (putD t dst v) d = v := by
  subst h; simp only [putD]; rw [getT_set, if_pos rfl]

theorem MKS.lay {B : Nat} {ρ : Rho} {w : World} {ds : List Deferred} (h : MKS B ρ w ds) (id n : Nat) (o : Obj) : MKS B (ρ.put id ⟨w.heap.size, 0, n⟩) (w.alloc o) ds := by
  obtain ⟨bs, h1, h2, h3⟩ := h
  refine ⟨bs, h1, h2, fun b hb => ?_⟩
  obtain ⟨g1, g2, g3⟩ := h3 b hb
  have hlt := (Array.getElem?_eq_some_iff.1 g1).1
  refine ⟨by rw [Below.heap_alloc _ _ _ hlt]; exact g1, g2, fun i p e => ?_⟩
  simp only [Rho.put] at e
  split at e
  · cases e; simp; omega
  · exact g3 i p e

section
variable (P : Program) (E : Env) (n N : Nat) (ops : Array Oper) (a : Anc) (l : List Itm) (T : Nat → Tr SV) (Z : Nat → St) (R : Nat → SV)

/-- The run at hand, told by the items. -/
structure LT : Prop where
  D : DrawF P N ops a l
  put : ∀ (j : Nat) (x : Itm), l[j]? = some x → T (j + 1) = putD (T j) x.s.dst (R j)
  run : ∀ (j : Nat) (x : Itm), l[j]? = some x → (wantedS (T j) x.s.guard = some true ∧ (∃ k, k < n ∧ one E k x.s.op (T j) (Z j) = some (R j, Z (j + 1))) ∧ (isBig x.s = true → recheck (T j) (Z (j + 1)) (reOf a (l.take j) x) = true)) ∨
    (wantedS (T j) x.s.guard = some false ∧ R j = .undef ∧ Z (j + 1) = Z j)

variable (w0 : World) (B : Nat) (ρ : Rho) (σ : St) (w : World)
structure Inv (L : Array Bool) (p : Nat) (tS : Tr SV) (ρ' : Rho) (a' : Act) (w' : World) : Prop where
  sz : L.size = ops.size
  closed : ∀ (j : Nat) (x : Itm), l[j]? = some x → lis L x.i → ∀ q ∈ x.ps, lis L q
  hi : p ≤ l.length
  above : ∀ (j : Nat) (x : Itm), p ≤ j → l[j]? = some x → ¬ lis L x.i
  below : ∀ (j : Nat) (x : Itm), j < p → l[j]? = some x → isBig x.s = true → lis L x.i
  tr : TR w0 ρ' tS N a'.tmps
  t1 : ∀ (j : Nat) (x : Itm) (d : Nat), l[j]? = some x → x.s.dst = some d → lis L x.i → getT tS d = R j
  t2 : ∀ d : Nat, (∀ (j : Nat) (x : Itm), l[j]? = some x → x.s.dst = some d → ¬ lis L x.i) → getT tS d = getT (T 0) d
  step : Step1 P w0 ρ σ w ρ' (Z p) w'
  marks : MKS B ρ' w' a'.defers
  mono : ∀ j, j < p → (Z j).next ≤ (Z (j + 1)).next
  pend : ∀ (j : Nat) (x : Itm), j < p → l[j]? = some x → ¬ lis L x.i → wantedS (T j) x.s.guard = some true →
    (sopKd x.s.op = .reads → sop x.s.op (T j) (Z p) = some (R j, Z p)) ∧
    (sopKd x.s.op = .alloc → σ.next ≤ (Z j).next ∧ (Z j).next < (Z (j + 1)).next ∧ (Z (j + 1)).next ≤ (Z p).next ∧ ρ' (Z j).next = none ∧ (Z p).get (Z j).next = (Z (j + 1)).get (Z j).next)
def NB (p : Nat) : Prop := p = l.length ∨ ∃ x : Itm, l[p]? = some x ∧ isBig x.s = true
variable {P E n N ops a l T Z R w0 B ρ σ w}
variable {L : Array Bool} {p : Nat} {tS : Tr SV} {ρ' : Rho} {a' : Act} {w' : World}

theorem LT.val1 (h : LT P E n N ops a l T Z R) : ∀ (j : Nat), j ≤ l.length → ∀ (j' : Nat) (y : Itm) (d : Nat), j' < j → l[j']? = some y → y.s.dst = some d → getT (T j) d = R j' := by
  intro j
  induction j with
  | zero => intro _ j' y d hlt; omega
  | succ j ih =>
    intro hj j' y d hlt hy hd
    obtain ⟨x, hx⟩ : ∃ x, l[j]? = some x := ⟨_, List.getElem?_eq_getElem (by omega)⟩
    rw [h.put j x hx]
    by_cases he : j' = j
    · subst he; rw [hx] at hy; cases hy
      exact getT_putD_eq hd
    · rw [getT_putD_ne (fun e => he (h.D.dst _ _ _ _ _ hy hx hd e))]
      exact ih (by omega) j' y d (by omega) hy hd
theorem LT.val0 (h : LT P E n N ops a l T Z R) : ∀ (j : Nat), j ≤ l.length → ∀ (d : Nat), (∀ (j' : Nat) (y : Itm), j' < j → l[j']? = some y → y.s.dst ≠ some d) → getT (T j) d = getT (T 0) d := by
  intro j
  induction j with
  | zero => intro _ d _; rfl
  | succ j ih =>
    intro hj d hn
    obtain ⟨x, hx⟩ : ∃ x, l[j]? = some x := ⟨_, List.getElem?_eq_getElem (by omega)⟩
    rw [h.put j x hx, getT_putD_ne (hn j x (by omega) hx)]
    exact ih (by omega) d (fun j' y hlt hy => hn j' y (by omega) hy)

theorem lt_len {j : Nat} {x : Itm} (h : l[j]? = some x) : j < l.length := (List.getElem?_eq_some_iff.1 h).1

theorem LT.anc_lt (h : LT P E n N ops a l T Z R) {j : Nat} {x : Itm} (hx : l[j]? = some x) {q : Nat} (hq : q ∈ ancOf a x.i) : ∃ (k : Nat) (z : Itm), k < j ∧ l[k]? = some z ∧ z.i = q := by
  refine h.D.anc j x hx (fun q => ∃ (k : Nat) (z : Itm), k < j ∧ l[k]? = some z ∧ z.i = q) ?_ ?_ q hq
  · rintro j1 y hy ⟨k, z, hk, hz, e⟩ q hq
    have : j1 = k := h.D.idx _ _ _ _ hy hz e.symm
    subst this
    obtain ⟨k', z', h1, h2, h3⟩ := h.D.preds j1 y hy q hq
    exact ⟨k', z', by omega, h2, h3⟩
  · intro q hq
    exact h.D.preds j x hx q hq
theorem Inv.anc_lis (I : Inv P N ops l T Z R w0 B ρ σ w L p tS ρ' a' w') (h : LT P E n N ops a l T Z R) {j : Nat} {x : Itm} (hx : l[j]? = some x) (hr : ∀ q ∈ x.ps, lis L q) {q : Nat} (hq : q ∈ ancOf a x.i) : lis L q :=
  h.D.anc j x hx (lis L) (fun j y hy hl => I.closed j y hy hl) hr q hq

theorem Inv.agree (I : Inv P N ops l T Z R w0 B ρ σ w L p tS ρ' a' w') (h : LT P E n N ops a l T Z R) {j : Nat} {x : Itm} (hx : l[j]? = some x) (hr : ∀ q ∈ x.ps, lis L q) (hu : ¬ lis L x.i) : Agree tS (T j) (stepTmps x.s) := by
  intro d hd
  have hjl := Nat.le_of_lt (lt_len hx)
  by_cases hw : ∃ (j' : Nat) (y : Itm), l[j']? = some y ∧ y.s.dst = some d
  · obtain ⟨j', y, hy, hyd⟩ := hw
    have none_ : ¬ lis L y.i → j ≤ j' → getT tS d = getT (T j) d := fun hny hle => by
      rw [I.t2 d (fun k z hz hzd => by rw [show z = y by
            have := h.D.dst _ _ _ _ _ hz hy hzd hyd
            subst this; rw [hz] at hy; cases hy; rfl]; exact hny),
        h.val0 j hjl d (fun k z hk hz hzd => by have := h.D.dst _ _ _ _ _ hz hy hzd hyd; omega)]
    rcases h.D.own j j' x y d hx hy hyd hd with e | e | e
    · subst e
      rw [hx] at hy; cases hy
      exact none_ hu (Nat.le_refl _)
    · obtain ⟨k, z, hk, hz, hzi⟩ := h.anc_lt hx e
      have : k = j' := h.D.idx _ _ _ _ hz hy hzi
      subst this
      rw [I.t1 k y d hy hyd (I.anc_lis h hx hr e), h.val1 j hjl k y d hk hy hyd]
    · obtain ⟨k, z, hk, hz, hzi⟩ := h.anc_lt hy e
      have : k = j := h.D.idx _ _ _ _ hz hx hzi
      subst this
      refine none_ (fun hl => hu ?_) (by omega)
      exact I.anc_lis h hy (I.closed j' y hy hl) e
  · rw [I.t2 d (fun k z hz hzd => absurd ⟨k, z, hz, hzd⟩ hw), h.val0 j hjl d (fun k z _ hz hzd => hw ⟨k, z, hz, hzd⟩)]

theorem isBig_kd {s : Step} : isBig s = false ↔ sopKd s.op ≠ .big := by simp [isBig]

theorem Inv.adv1 (I : Inv P N ops l T Z R w0 B ρ σ w L p tS ρ' a' w') (h : LT P E n N ops a l T Z R) {x : Itm} (hx : l[p]? = some x) (hb : isBig x.s = false) : Inv P N ops l T Z R w0 B ρ σ w L (p + 1) tS ρ' a' w' := by
  have hk := isBig_kd.1 hb
  have hfresh := I.step.sr.fresh
  have hZ : Z (p + 1) = Z p ∨ ∃ ob, Z (p + 1) = (Z p).push ob := by
    rcases h.run p x hx with ⟨h1, ⟨k, _, h2⟩, _⟩ | ⟨_, _, h3⟩
    · have h2 := one_sop hk h2
      cases hkk : sopKd x.s.op with
      | big => exact absurd hkk hk
      | pure => exact .inl (pure_any hkk h2).1
      | reads => exact .inl (reads_push hkk h2).1
      | alloc => exact .inr (alloc_push hkk h2)
    · exact .inl h3
  have hnx : (Z p).next ≤ (Z (p + 1)).next := by
    rcases hZ with e | ⟨ob, e⟩ <;> rw [e] <;> simp
  refine ⟨I.sz, I.closed, lt_len hx, fun j y hj => I.above j y (by omega), fun j y hj hy hby => ?_, I.tr, I.t1, I.t2, ?_, I.marks, fun j hj => ?_, fun j y hj hy hny hwy => ?_⟩
  · by_cases e : j = p
    · subst e; rw [hx] at hy; cases hy; rw [hb] at hby; cases hby
    · exact I.below j y (by omega) hy hby
  · rcases hZ with e | ⟨ob, e⟩
    · rw [e]; exact I.step
    · rw [e]; exact I.step.push ob
  · by_cases e : j = p
    · subst e; exact hnx
    · exact I.mono j (by omega)
  · by_cases e : j = p
    · subst e
      rw [hx] at hy; cases hy
      rcases h.run j x hx with ⟨h1, ⟨k, _, h2⟩, _⟩ | ⟨h1, _⟩
      · have h2 := one_sop hk h2
        refine ⟨fun hkk => ?_, fun hkk => ?_⟩
        · have := (reads_push hkk h2).1
          rw [this] at h2 ⊢; exact h2
        · obtain ⟨ob, e⟩ := alloc_push hkk h2
          refine ⟨I.step.nxt, by rw [e]; simp, Nat.le_refl _, ?_, rfl⟩
          cases e' : ρ' (Z j).next with
          | none => rfl
          | some q => have := I.step.sr.dom _ _ e'; omega
      · rw [hwy] at h1; cases h1
    · obtain ⟨g1, g2⟩ := I.pend j y (by omega) hy hny hwy
      refine ⟨fun hkk => ?_, fun hkk => ?_⟩
      · rcases hZ with e | ⟨ob, e⟩
        · rw [e]; exact g1 hkk
        · rw [e]; exact (reads_push hkk (g1 hkk)).2 hfresh ob
      · obtain ⟨e1, e2, e3, e4, e5⟩ := g2 hkk
        refine ⟨e1, e2, by omega, e4, ?_⟩
        rcases hZ with e | ⟨ob, e⟩
        · rw [e]; exact e5
        · rw [e, St.get_push, if_neg (by omega)]; exact e5

theorem Inv.adv (h : LT P E n N ops a l T Z R) : ∀ (k p : Nat), l.length - p ≤ k → Inv P N ops l T Z R w0 B ρ σ w L p tS ρ' a' w' → ∃ p', Inv P N ops l T Z R w0 B ρ σ w L p' tS ρ' a' w' ∧ NB l p' := by
  intro k
  induction k with
  | zero =>
    intro p hp I
    have := I.hi
    exact ⟨p, I, .inl (by omega)⟩
  | succ k ih =>
    intro p hp I
    have := I.hi
    by_cases he : p = l.length
    · exact ⟨p, I, .inl he⟩
    · obtain ⟨x, hx⟩ : ∃ x, l[p]? = some x := ⟨_, List.getElem?_eq_getElem (by omega)⟩
      cases hb : isBig x.s with
      | true => exact ⟨p, I, .inr ⟨x, hx, hb⟩⟩
      | false => exact ih (p + 1) (by omega) (I.adv1 h hx hb)

/-- Behind an item. -/
theorem Inv.upd (I : Inv P N ops l T Z R w0 B ρ σ w L p tS ρ' a' w') (h : LT P E n N ops a l T Z R) {j : Nat} {x : Itm} (hx : l[j]? = some x) (hr : ∀ q ∈ x.ps, lis L q) {p' : Nat} {ρ'' : Rho} {w'' : World} {u : Value} {o : Oper} (hod : o.dst = x.s.dst) (hok' : dstOk N x.s.dst = true)
    (hok : OK w0 ρ'' (R j) u) (hstep : Step1 P w0 ρ σ w ρ'' (Z p') w'') (hext : Ext ρ' ρ'') (hmk : MKS B ρ'' w'' a'.defers) (hp : (p' = p ∧ j < p) ∨ (p' = p + 1 ∧ j = p)) (hnx : (Z p).next ≤ (Z p').next)
    (hnew : ∀ (k : Nat) (y : Itm), k < p → k ≠ j → l[k]? = some y → ¬ lis L y.i → wantedS (T k) y.s.guard = some true → sopKd y.s.op = .alloc → ρ'' (Z k).next = none ∧ (Z p').get (Z k).next = (Z p).get (Z k).next)
    (hread : ∀ (k : Nat) (y : Itm), k < p → k ≠ j → l[k]? = some y → ¬ lis L y.i → wantedS (T k) y.s.guard = some true → sopKd y.s.op = .reads → sop y.s.op (T k) (Z p') = some (R k, Z p')) :
    Inv P N ops l T Z R w0 B ρ σ w (L.setIfInBounds x.i true) p' (putD tS x.s.dst (R j)) ρ'' (a'.put o.dst u) w'' := by
  have hi : x.i < L.size := by
    obtain ⟨o, ho, _⟩ := h.D.op j x hx
    rw [I.sz]; exact (Array.getElem?_eq_some_iff.1 ho).1
  have hjl := lt_len hx
  have hl' : ∀ q, lis (L.setIfInBounds x.i true) q ↔ (q = x.i ∨ lis L q) := fun q => lis_set hi
  refine ⟨by rw [Array.size_setIfInBounds]; exact I.sz, fun k y hy hl q hq => ?_, by have := I.hi; omega, fun k y hk hy hl => ?_, fun k y hk hy hb => ?_, ?_, fun k y d hy hd hl => ?_, fun d hd => ?_, hstep, ?_, fun k hk => ?_, fun k y hk hy hny hwy => ?_⟩
  · rcases (hl' _).1 hl with e | e
    · have : k = j := h.D.idx _ _ _ _ hy hx e
      subst this
      rw [hx] at hy; cases hy
      exact (hl' q).2 (.inr (hr q hq))
    · exact (hl' q).2 (.inr (I.closed k y hy e q hq))
  · rcases (hl' _).1 hl with e | e
    · have : k = j := h.D.idx _ _ _ _ hy hx e
      omega
    · exact I.above k y (by omega) hy e
  · refine (hl' _).2 ?_
    by_cases e : k = j
    · subst e; rw [hx] at hy; cases hy; exact .inl rfl
    · exact .inr (I.below k y (by omega) hy hb)
  · rw [hod]; exact (I.tr.mono hext).put hok' hok
  · by_cases e : k = j
    · subst e; rw [hx] at hy; cases hy; exact getT_putD_eq hd
    · rw [getT_putD_ne (fun e' => e (h.D.dst _ _ _ _ _ hy hx hd e'))]
      refine I.t1 k y d hy hd ?_
      rcases (hl' _).1 hl with e' | e'
      · exact absurd (h.D.idx _ _ _ _ hy hx e') e
      · exact e'
  · rw [getT_putD_ne (fun e => hd j x hx e ((hl' _).2 (.inl rfl)))]
    exact I.t2 d (fun k y hy hyd hl => hd k y hy hyd ((hl' _).2 (.inr hl)))
  · have : (a'.put o.dst u).defers = a'.defers := by unfold Act.put; split <;> rfl
    rw [this]; exact hmk
  · by_cases e : k < p
    · exact I.mono k e
    · have : k = p := by omega
      subst this
      rcases hp with ⟨e1, _⟩ | ⟨e1, _⟩
      · omega
      · rw [← e1]; exact hnx
  · have hkj : k ≠ j := fun e => by subst e; rw [hx] at hy; cases hy; exact hny ((hl' _).2 (.inl rfl))
    have hkp : k < p := by omega
    have hny' : ¬ lis L y.i := fun hl => hny ((hl' _).2 (.inr hl))
    refine ⟨fun hkk => hread k y hkp hkj hy hny' hwy hkk, fun hkk => ?_⟩
    obtain ⟨e1, e2, e3, e4, e5⟩ := (I.pend k y hkp hy hny' hwy).2 hkk
    obtain ⟨g1, g2⟩ := hnew k y hkp hkj hy hny' hwy hkk
    exact ⟨e1, e2, by omega, g1, g2.trans e5⟩
end
end Go.Proofs.Ytojjhcgbbmknmaa.Sh
