/- The shadow is right: code, rounds, calls, by the fuel. -/
import Derived.Test.YtojjhcgbbmknmaaShExec
namespace Go.Proofs.Ytojjhcgbbmknmaa.Sh
set_option linter.unusedSimpArgs false
set_option linter.unusedVariables false
open Go Go.RowKit

section
variable {P : Program} {w0 : World} {E : Env}
variable {B : Nat} {ρ ρ' ρ'' ρ1 : Rho} {σ σ' σ'' σ1 : St} {w w' w'' w1 : World} {N : Nat} {t t' : Tr SV} {a : Act}

theorem compOp1_call {o : Oper} {f : Opd} {args : List Opd} (h : compOp1 P o = some (.call f args)) : ∃ c g, o.op = .call c ∧ c.callee = .value g ∧ compOpd g = some f ∧ compOpds c.args.toList = some args := by
  cases ho : o.op
  case call c =>
    cases hc : c.callee
    case value g =>
      simp only [compOp1, ho, hc] at h
      split at h
      · rename_i h1 h2
        cases h
        exact ⟨c, g, rfl, hc, h1, h2⟩
      · cases h
    case builtin b =>
      cases b <;> simp only [compOp1, ho, hc] at h <;> (repeat' (split at h)) <;> first | cases h | skip
    all_goals simp only [compOp1, ho, hc] at h <;> cases h
  all_goals
    exfalso
    revert h
    simp only [compOp1, ho]
    repeat' split
    all_goals first | (intro h; simp_all; done) | simp

theorem compOp_call {o : Oper} {f : Opd} {args : List Opd} (h : compOp P o = some (.call f args)) : ∃ c g, o.op = .call c ∧ c.callee = .value g ∧ compOpd g = some f ∧ compOpds c.args.toList = some args := by
  rcases compOp_inv h with h1 | h1 | h1
  · exact compOp1_call h1
  · rcases comp2_inv h1 with ⟨_, _, _, _, _, _, _, _, _, e⟩ | ⟨_, _, _, _, _, _, _, _, _, _, _, _, _, _, e⟩ | ⟨_, _, _, _, _, _, _, _, _, _, _, _, _, e⟩ | ⟨_, _, _, _, _, _, _, _, _, e⟩ <;> cases e
  · cases h1

theorem run_args {c : Call} {g : Operand} {ty : TypeId} {f : Nat} {A C : Array Value} (hc : c.callee = .value g) (hg : a.eval g = .func (.func f) A C) :
    (resolve a.eval c ty).run P w = .ok { target := .fn (.func f) C, args := A ++ c.args.map a.eval } w := by
  simp [resolve, hc, hg, Deferred.ofValue]
theorem run_argsY {c : Call} {g : Operand} {ty : TypeId} {l : Nat} (hc : c.callee = .value g) (hg : a.eval g = .func (.yield l) #[] #[]) :
    (resolve a.eval c ty).run P w = .ok { target := .fn (.yield l) #[], args := #[] ++ c.args.map a.eval } w := by
  simp [resolve, hc, hg, Deferred.ofValue]

theorem OKs.mk_append {x y : List SV} {u v : Array Value} (h : OKs w0 ρ x u.toList) (k : OKs w0 ρ y v.toList) : OKs w0 ρ (x ++ y) (u ++ v).toList := by
  rw [Array.toList_append]; exact h.append k

theorem OK.fn {f : Nat} {x y : List SV} {u : Value} (h : OK w0 ρ (.fn f x y) u) : ∃ A C : Array Value, u = .func (.func f) A C ∧ OKs w0 ρ x A.toList ∧ OKs w0 ρ y C.toList := by
  obtain ⟨h1, h2⟩ := h
  simp only [VR] at h1
  obtain ⟨A, C, rfl, h3, h4⟩ := h1
  exact ⟨A, C, rfl, ⟨h3, h2.1⟩, h4, h2.2⟩
theorem OK.yld {l : Nat} {u : Value} (h : OK w0 ρ (.yld l) u) : ∃ p, ρ l = some p ∧ u = .func (.yield p.blk) #[] #[] := by
  have := h.1
  simpa only [VR] using this

/-- An operation that calls. -/
theorem one_call {n : Nat} (h3 : ∀ k, k < n → CallOK P w0 E k) (h4 : ∀ k, k < n → RoundOK P w0 E k) {o : Oper} {f : Opd} {args : List Opd} {v : SV} (hc : compOp P o = some (.call f args))
    (h : callV E n (f.ev t) (args.map (·.ev t)) σ = some (v, σ')) {ro : Option Nat} {m : Nat} (hr : RS P w0 B ρ σ t N ro a w) :
    OpDoes P ro m o a w (fun u w' => ∃ ρ', OK w0 ρ' v u ∧ Step1 P w0 ρ σ w ρ' σ' w') := by
  obtain ⟨c, g, ho, hcal, hg, ha⟩ := compOp_call hc
  have hf := opd_ok hg hr.tr
  have hargs : OKs w0 ρ (args.map (·.ev t)) (c.args.map a.eval).toList := by simpa using opds_ok ha hr.tr
  cases n with
  | zero => simp [callV] at h
  | succ n =>
    intro next Q hk
    refine ⟨fun _ _ => trivial, ?_⟩
    rw [Oper.semAt_eq _ _ _ (compOp_noDefer hc)]
    simp only [callV] at h
    split at h
    · rename_i fi first cap hfe
      rw [hfe] at hf
      obtain ⟨A, C, hu, k1, k2⟩ := hf.fn
      obtain ⟨e1, e2⟩ := h3 n (by omega) _ _ _ _ _ h
      have hrun : (execOp a.eval o).run P w = .ok (.enter fi (A ++ c.args.map a.eval ++ C)) w := by
        simp only [execOp, ho, Sem.run_bind, run_args hcal hu, Result.andThen_ok]
        exact e1 _ _
      rw [hrun, Oper.uponIn_enter]
      refine ⟨by simp [FR], (e2 ro (m - 1) ρ w _ hr.sr ((k1.mk_append hargs).mk_append k2)).mono ?_⟩
      rintro e w' ⟨u, ρ', rfl, hok, hst⟩
      exact hk u w' ⟨ρ', hok, hst⟩
    · rename_i l hfe
      rw [hfe] at hf
      obtain ⟨p, hp, hu⟩ := hf.yld
      obtain ⟨r, hr1, hr2, hr3⟩ := h4 n (by omega) _ _ _ _ _ h ro (m - 1) ρ w (c.args.map a.eval) p hr.sr hp hargs
      have hrun : (execOp a.eval o).run P w = .ok (.round p.blk r.fn ((r.params.zip (c.args.map a.eval)).foldl (fun tmps (t, a) => tmps.setIfInBounds t a) r.tmps) r.assign r.body) w := by
        simp only [execOp, ho, Sem.run_bind, run_argsY hcal hu, Result.andThen_ok]
        rw [Array.empty_append]
        exact run_yield hr1 hr2
      rw [hrun, Oper.uponIn_round]
      refine ⟨by simp [FR], hr3.mono ?_⟩
      rintro e w' ⟨u, ρ', rfl, hok, hst⟩
      exact hk u w' ⟨ρ', hok, hst⟩
    · cases h

theorem one_step {n : Nat} (h3 : ∀ k, k ≤ n → CallOK P w0 E k) (h4 : ∀ k, k ≤ n → RoundOK P w0 E k) : OneOK P w0 E (n + 1) := by
  intro o so N t σ v σ' hc h ro m B ρ a w hr
  by_cases hso : ∃ f l, so = .call f l
  · obtain ⟨f, l, rfl⟩ := hso
    simp only [one] at h
    exact one_call (n := n) (fun k hk => h3 k (by omega)) (fun k hk => h4 k (by omega)) hc h hr
  · have h' : sop so t σ = some (v, σ') := by
      cases so <;> first | exact h | (exact absurd ⟨_, _, rfl⟩ hso)
    exact sop_does hc (fun f l e => hso ⟨f, l, e⟩) hr.sr hr.tr h'

theorem EPost.from (h : Step1 P w0 ρ σ w ρ1 σ1 w1) {ex : Ex} {e : Exit} {a' : Act} (k : EPost P w0 B ρ1 σ1 w1 N ex t' σ' e a' w') : EPost P w0 B ρ σ w N ex t' σ' e a' w' := by
  obtain ⟨k1, ρ', k2, k3, k4⟩ := k
  exact ⟨k1, ρ', k2, k3, h.trans k4⟩

/-- Where a loop over a function is entered. -/
theorem enter_ok {ro : Option Nat} (hr : RS P w0 B ρ σ t N ro a w) (fn : FuncId) {ps : Array Tmp} {assign body : Code} {as bd : SC} (h1 : compCode P N assign = some as) (h2 : compCode P N body = some bd) (hps : ∀ p ∈ ps.toList, p < N) :
    ∃ l mark w1, (Instr.enterLoop fn a.tmps ps assign body ro).run P w = .ok (l, mark) w1 ∧ Step1 P w0 ρ σ w (ρ.put σ.next ⟨l, 0, 0⟩) (σ.push (.loop t ps.toList as bd .ready none)) w1 ∧ MKS B (ρ.put σ.next ⟨l, 0, 0⟩) w1 (mark ++ a.defers) := by
  have hn0 : ρ σ.next = none := by
    cases e : ρ σ.next with
    | none => rfl
    | some p => have := hr.sr.dom _ _ e; omega
  have hob : ∀ (w1 : World) (d : Nat), ObR P w0 (ρ.put σ.next ⟨w1.heap.size, 0, 0⟩) ⟨w1.heap.size, 0, 0⟩ (w1.alloc (.loop { state := .ready, pending := none, fn, tmps := a.tmps, params := ps, assign, body, defers := d })) (some (.loop t ps.toList as bd .ready none)) := by
    intro w1 d
    exact ⟨_, World.alloc_heap_new _ _, rfl, rfl, by simp, N, hr.tr.mono (Ext.put hn0), h1, h2, hps⟩
  cases ro with
  | none =>
    have s1 := Step1.foreign hr.sr (.deferred (some []))
    have s2 := Step1.new s1.sr (.loop t ps.toList as bd .ready none) (n := 0) (o := .loop { state := .ready, pending := none, fn, tmps := a.tmps, params := ps, assign, body, defers := w.heap.size }) (hob _ _)
    have hsz : (w.alloc (.deferred (some []))).heap.size = w.heap.size + 1 := World.size_alloc _ _
    rw [hsz] at s2
    refine ⟨w.heap.size + 1, _, _, run_enterLoop_outer .., s1.trans s2, ?_⟩
    obtain ⟨bs, hd, hnd, hb⟩ := hr.marks.step (s1.trans s2)
    obtain ⟨bs0, hd0, hnd0, hb0⟩ := hr.marks
    have hbs : bs = bs0 := by
      have h1 : bs.map (fun b => ({ target := .collected b, args := #[] } : Deferred)) = bs0.map (fun b => ({ target := .collected b, args := #[] } : Deferred)) := by rw [← hd, hd0]
      exact (List.map_inj_right (fun x y e => by simpa using e)).1 h1
    subst hbs
    refine ⟨w.heap.size :: bs, by simp [hd], List.nodup_cons.2 ⟨fun hm => ?_, hnd⟩, fun b hm => ?_⟩
    · have := (Array.getElem?_eq_some_iff.1 (hb0 _ hm).1).1; omega
    · rcases List.mem_cons.1 hm with rfl | hm
      · refine ⟨?_, hr.lo, fun i p e => ?_⟩
        · rw [Below.heap_alloc _ _ _ (by rw [hsz]; omega)]
          exact World.alloc_heap_new _ _
        · simp only [Rho.put] at e
          split at e
          · cases e; simp
          · have := hr.sr.dom _ _ e; omega
      · exact hb b hm
  | some l0 =>
    obtain ⟨r, hl⟩ := hr.rd l0 rfl
    have s2 := Step1.new hr.sr (.loop t ps.toList as bd .ready none) (n := 0) (o := .loop { state := .ready, pending := none, fn, tmps := a.tmps, params := ps, assign, body, defers := r.defers }) (hob _ _)
    refine ⟨w.heap.size, [], _, ?_, s2, by simpa using hr.marks.step s2⟩
    unfold Instr.enterLoop
    simp only [Sem.run_bind, run_getLoop hl, run_newObj_alloc, Result.andThen, Sem.run_pure]

theorem exec_step {n : Nat} (hd : DrawOK P w0 E) (h1 : ∀ k, k ≤ n → OneOK P w0 E k) (h2 : ∀ k, k ≤ n → ExecOK P w0 E k) (h3 : ∀ k, k ≤ n → CallOK P w0 E k) : ExecOK P w0 E (n + 1) := by
  intro c sc N t σ ex t' σ' hc h ro m B ρ a w hr
  cases c with
  | skip =>
    simp only [compCode, Option.some.injEq] at hc
    subst hc
    simp only [exec, Option.some.injEq, Prod.mk.injEq] at h
    obtain ⟨rfl, rfl, rfl⟩ := h
    exact wpIn_skip ⟨trivial, ρ, hr.tr, hr.marks, Step1.refl hr.sr⟩
  | region id ops draw =>
    simp only [compCode] at hc
    split at hc
    case h_2 =>
      simp only [Option.some.injEq] at hc
      subst hc
      simp [exec] at h
    rename_i ss hreg
    simp only [Option.some.injEq] at hc
    subst hc
    have hc := hreg
    simp only [exec] at h
    split at h
    · rename_i t1 σ1 hs
      cases h
      cases draw with
      | true => exact hd n (fun k hk => h1 k (by omega)) N ops ss t σ _ _ hc hs ro m B ρ a w id _ hr (fun a' w' ρ' k1 k2 k3 => ⟨trivial, ρ', k1, k2, k3⟩)
      | false =>
        refine wpIn_region ?_
        rw [List.range_eq_range', show ops.size = ops.toList.length by simp]
        refine seq_ok (n := n) (fun k hk => h1 k (by omega)) ops.toList 0 ss n t σ ρ a w (Nat.le_refl _) (by simpa [compReg] using hc) (fun j => by simp) hs hr (fun a' w' ρ' k1 k2 k3 => ⟨trivial, ρ', k1, k2, k3⟩)
    · cases h
  | seq x y =>
    simp only [compCode] at hc
    split at hc
    · rename_i sa sb hx hy
      cases hc
      simp only [exec] at h
      refine wpIn_seq ?_
      cases hxe : exec E n sa t σ with
      | none => simp [hxe] at h
      | some r =>
        obtain ⟨ex1, t1, σ1⟩ := r
        refine wpIn_mono (h2 n (Nat.le_refl _) x sa N t σ ex1 t1 σ1 hx hxe ro m B ρ a w hr) ?_
        rintro e a1 w1 ⟨k0, ρ1, k1, k2, k3⟩
        cases ex1 with
        | normal =>
          cases e <;> try exact k0.elim
          simp only [hxe] at h
          exact wpIn_mono (h2 n (Nat.le_refl _) y sb N t1 σ1 ex t' σ' hy h ro m B ρ1 a1 w1 (hr.step k3 k1 k2)) (fun e a w k => k.from k3)
        | exit i =>
          cases e <;> try exact k0.elim
          simp only [hxe, Option.some.injEq, Prod.mk.injEq] at h
          obtain ⟨rfl, rfl, rfl⟩ := h
          exact ⟨k0, ρ1, k1, k2, k3⟩
        | ret =>
          cases e <;> try exact k0.elim
          simp only [hxe, Option.some.injEq, Prod.mk.injEq] at h
          obtain ⟨rfl, rfl, rfl⟩ := h
          exact ⟨k0, ρ1, k1, k2, k3⟩
    · cases hc
  | cond c x y =>
    simp only [compCode] at hc
    split at hc
    · rename_i sc' sa sb hcc hx hy
      cases hc
      have hv := opd_ok hcc hr.tr
      simp only [exec] at h
      split at h
      · rename_i hb
        exact wpIn_cond_true (hv.bool hb) (h2 n (Nat.le_refl _) x sa N t σ ex t' σ' hx h ro m B ρ a w hr)
      · rename_i hb
        exact wpIn_cond_false (hv.bool hb) (h2 n (Nat.le_refl _) y sb N t σ ex t' σ' hy h ro m B ρ a w hr)
      · cases h
    · cases hc
  | block id x =>
    simp only [compCode, Option.map_eq_some_iff] at hc
    obtain ⟨sb, hc, rfl⟩ := hc
    simp only [exec] at h
    refine wpIn_block ?_
    cases hxe : exec E n sb t σ with
    | none => simp [hxe] at h
    | some r =>
      obtain ⟨ex1, t1, σ1⟩ := r
      refine wpIn_mono (h2 n (Nat.le_refl _) x sb N t σ ex1 t1 σ1 hc hxe ro m B ρ a w hr) ?_
      rintro e a1 w1 ⟨k0, ρ1, k1, k2, k3⟩
      cases ex1 with
      | normal =>
        cases e <;> try exact k0.elim
        simp only [hxe, Option.some.injEq, Prod.mk.injEq] at h
        obtain ⟨rfl, rfl, rfl⟩ := h
        exact ⟨k0, ρ1, k1, k2, k3⟩
      | exit i =>
        cases e <;> try exact k0.elim
        rename_i j
        have k0 : i = j := k0
        subst k0
        simp only [hxe, Option.some.injEq, Prod.mk.injEq] at h
        obtain ⟨rfl, rfl, rfl⟩ := h
        simp only [Exit.inBlock]
        by_cases hi : i = id
        · subst hi
          rw [if_pos rfl]
          exact ⟨by simp [ExR], ρ1, k1, k2, k3⟩
        · rw [if_neg hi]
          refine ⟨?_, ρ1, k1, k2, k3⟩
          have : Nat.beq i id = false := by
            cases hq : Nat.beq i id with
            | false => rfl
            | true => exact absurd (Nat.eq_of_beq_eq_true hq) hi
          rw [this]; exact rfl
      | ret =>
        cases e <;> try exact k0.elim
        simp only [hxe, Option.some.injEq, Prod.mk.injEq] at h
        obtain ⟨rfl, rfl, rfl⟩ := h
        exact ⟨k0, ρ1, k1, k2, k3⟩
  | loop x =>
    simp only [compCode, Option.map_eq_some_iff] at hc
    obtain ⟨sb, hc, rfl⟩ := hc
    refine wpIn_loopG (fun k a1 w1 => k ≤ n + 1 ∧ ∃ t1 σ1 ρ1, exec E k (.loop sb) t1 σ1 = some (ex, t', σ') ∧ RS P w0 B ρ1 σ1 t1 N ro a1 w1 ∧ Step1 P w0 ρ σ w ρ1 σ1 w1) ?_ (j0 := n + 1) ⟨Nat.le_refl _, t, σ, ρ, h, hr, Step1.refl hr.sr⟩
    rintro j a1 w1 ⟨hj, t1, σ1, ρ1, he, hr1, hs1⟩
    cases j with
    | zero => simp [exec] at he
    | succ j =>
      simp only [exec] at he
      cases hxe : exec E j sb t1 σ1 with
      | none => simp [hxe] at he
      | some r =>
        obtain ⟨ex2, t2, σ2⟩ := r
        refine wpIn_mono (h2 j (by omega) x sb N t1 σ1 ex2 t2 σ2 hc hxe ro m B ρ1 a1 w1 hr1) ?_
        rintro e a2 w2 ⟨k0, ρ2, k1, k2, k3⟩
        cases ex2 with
        | normal =>
          cases e <;> try exact k0.elim
          simp only [hxe] at he
          exact ⟨j, Nat.lt_succ_self _, by omega, t2, σ2, ρ2, he, hr1.step k3 k1 k2, hs1.trans k3⟩
        | exit i =>
          cases e <;> try exact k0.elim
          simp only [hxe, Option.some.injEq, Prod.mk.injEq] at he
          obtain ⟨rfl, rfl, rfl⟩ := he
          exact ⟨k0, ρ2, k1, k2, hs1.trans k3⟩
        | ret =>
          cases e <;> try exact k0.elim
          simp only [hxe, Option.some.injEq, Prod.mk.injEq] at he
          obtain ⟨rfl, rfl, rfl⟩ := he
          exact ⟨k0, ρ2, k1, k2, hs1.trans k3⟩
  | exit i =>
    simp only [compCode, Option.some.injEq] at hc
    subst hc
    simp only [exec, Option.some.injEq, Prod.mk.injEq] at h
    obtain ⟨rfl, rfl, rfl⟩ := h
    exact wpIn_exit ⟨rfl, ρ, hr.tr, hr.marks, Step1.refl hr.sr⟩
  | ret =>
    simp only [compCode, Option.some.injEq] at hc
    subst hc
    simp only [exec, Option.some.injEq, Prod.mk.injEq] at h
    obtain ⟨rfl, rfl, rfl⟩ := h
    exact wpIn_ret ⟨trivial, ρ, hr.tr, hr.marks, Step1.refl hr.sr⟩
  | rangeFunc g ps assign body =>
    simp only [compCode] at hc
    split at hc
    · rename_i fo as bd hg has hbd
      split at hc
      · rename_i hps
        cases hc
        have hps' : ∀ p ∈ ps.toList, p < N := fun p hp => of_decide_eq_true (List.all_eq_true.1 hps p hp)
        have hv := opd_ok hg hr.tr
        simp only [exec] at h
        split at h
        · rename_i gi first cap hfe
          rw [hfe] at hv
          obtain ⟨A, C, hu, q1, q2⟩ := hv.fn
          split at h
          · rename_i v1 σ1 hcall
            obtain ⟨e1, e2⟩ := h3 n (Nat.le_refl _) _ _ _ _ _ hcall
            refine wpIn_rangeFunc fun fn _ => ?_
            obtain ⟨l, mark, w1, hen, s1, hmk⟩ := enter_ok hr fn has hbd hps'
            refine ⟨l, mark, w1, _, w1, gi, A ++ #[.func (.yield l) #[] #[]] ++ C, w1, hen, run_args rfl hu, fun _ _ => trivial, ?_, by simp [FR], ?_⟩
            · have hmap : Array.map a.eval (rangeCall g l).args = #[.func (.yield l) #[] #[]] := by simp [rangeCall]; rfl
              show (callFunc gi (A ++ Array.map a.eval (rangeCall g l).args ++ C)).run P w1 = _
              rw [hmap]; exact e1 _ _
            · have hyl : OK w0 (ρ.put σ.next ⟨l, 0, 0⟩) (.yld σ.next) (.func (.yield l) #[] #[]) := ⟨by simp only [VR]; exact ⟨_, Rho.put_self _ _ _, rfl⟩, trivial⟩
              refine (e2 ro (m - 1) _ w1 _ s1.sr (((q1.mono s1.ext).mk_append (v := #[.func (.yield l) #[] #[]]) (y := [.yld σ.next]) ⟨VRs.cons hyl.1 VRs.nil, hyl.2, trivial⟩).mk_append (q2.mono s1.ext))).mono ?_
              rintro e w3 ⟨u, ρ3, rfl, hok, s3⟩
              have hp3 : ρ3 σ.next = some ⟨l, 0, 0⟩ := s3.ext _ _ (Rho.put_self _ _ _)
              have hob := s3.sr.obs _ _ hp3
              have htr : TR w0 ρ3 t N a.tmps := hr.tr.mono (s1.ext.trans s3.ext)
              have fin : ∀ (t3 : Tr SV) (ps3 : List Nat) (as3 bd3 : SC) (st : LoopState) (pend : Option Jump), σ1.get σ.next = some (.loop t3 ps3 as3 bd3 st pend) → st ≠ .busy →
                  ∃ w4, (Instr.endLoop l).run P w3 = .ok (pend.map jumpOf) w4 ∧ Step1 P w0 ρ σ w ρ3 (σ1.set σ.next .dead) w4 ∧ MKS B ρ3 w4 (mark ++ a.defers) := by
                intro t3 ps3 as3 bd3 st pend hget hbusy
                rw [hget] at hob
                obtain ⟨r, hr1, hr2, hr3, hr4⟩ := hob
                have hlt := (Array.getElem?_eq_some_iff.1 hr1).1
                have s4 : Step1 P w0 ρ3 σ1 w3 ρ3 (σ1.set σ.next .dead) (w3.putObj l (.loop { r with state := .exhausted })) :=
                  SR.write s3.sr hp3 (by rw [hget]; simp) World.putObj_size (World.putObj_heap_same hlt) (fun k hk => World.putObj_heap_other hk) rfl rfl rfl trivial (fun _ _ => ⟨_, rfl⟩)
                refine ⟨_, by rw [run_endLoop hr1 (by rw [hr2]; exact hbusy), hr3], (s1.trans s3).trans s4, (hmk.step s3).step s4⟩
              split at h
              · cases h
              · rename_i hget
                cases h
                obtain ⟨w4, f1, f2, f3⟩ := fin _ _ _ _ _ _ hget (by intro e; subst e; simp_all)
                exact ⟨_, w4, f1, ⟨trivial, ρ3, htr, f3, f2⟩⟩
              · rename_i hget
                cases h
                obtain ⟨w4, f1, f2, f3⟩ := fin _ _ _ _ _ _ hget (by intro e; subst e; simp_all)
                exact ⟨_, w4, f1, wpIn_ret ⟨trivial, ρ3, htr, f3, f2⟩⟩
              · rename_i hget
                cases h
                obtain ⟨w4, f1, f2, f3⟩ := fin _ _ _ _ _ _ hget (by intro e; subst e; simp_all)
                exact ⟨_, w4, f1, wpIn_exit ⟨rfl, ρ3, htr, f3, f2⟩⟩
              · cases h
          · cases h
        · cases h
      · cases hc
    · cases hc
  | _ =>
    simp only [compCode, Option.some.injEq] at hc
    subst hc
    simp [exec] at h
end
end Go.Proofs.Ytojjhcgbbmknmaa.Sh
