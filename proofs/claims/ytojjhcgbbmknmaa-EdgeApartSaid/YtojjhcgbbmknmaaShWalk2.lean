/- The shadow is right: rounds and calls; all of it, by the fuel. -/
import Derived.Test.YtojjhcgbbmknmaaShWalk
namespace Go.Proofs.Ytojjhcgbbmknmaa.Sh
set_option linter.unusedSimpArgs false
set_option linter.unusedVariables false
open Go Go.RowKit

section
variable {P : Program} {w0 : World} {E : Env}
variable {B : Nat} {ρ ρ' ρ'' ρ1 : Rho} {σ σ' σ'' σ1 : St} {w w' w'' w1 : World} {N : Nat} {t t' : Tr SV} {a : Act}

theorem loop_write (s : SR P w0 ρ σ w) {L : Nat} {p : Pl} (hp : ρ L = some p) {t : Tr SV} {ps : List Nat} {as bd : SC} {st : LoopState} {pend : Option Jump} (hg : σ.get L = some (.loop t ps as bd st pend)) (st' : LoopState) (pend' : Option Jump) :
    ∃ r : Loop, w.heap[p.blk]? = some (Obj.loop r) ∧ r.state = st ∧ r.pending = pend.map jumpOf ∧
      Step1 P w0 ρ σ w ρ (σ.set L (.loop t ps as bd st' pend')) (w.putObj p.blk (.loop { r with state := st', pending := pend'.map jumpOf })) := by
  have hob := s.obs _ _ hp
  rw [hg] at hob
  obtain ⟨r, hr1, hr2, hr3, hr4⟩ := hob
  have hlt := (Array.getElem?_eq_some_iff.1 hr1).1
  refine ⟨r, hr1, hr2, hr3, SR.write s hp (by rw [hg]; simp) World.putObj_size (World.putObj_heap_same hlt) (fun k hk => World.putObj_heap_other hk) rfl rfl rfl ?_ (fun _ _ => ⟨_, rfl⟩)⟩
  exact ⟨_, World.putObj_heap_same hlt, rfl, rfl, hr4⟩

theorem round_step {n : Nat} (h2 : ∀ k, k ≤ n → ExecOK P w0 E k) : RoundOK P w0 E (n + 1) := by
  intro L args σ v σ' h ro m ρ w vals p hs hp hargs
  simp only [round] at h
  split at h
  · rename_i t ps as body hget
    have hob := hs.obs _ _ hp
    rw [hget] at hob
    obtain ⟨r, hr1, hr2, hr3, hr4, N, hr5, hr6, hr7, hr8⟩ := hob
    cases hlen : Nat.beq args.length ps.length with
    | false => simp [hlen] at h
    | true =>
      have hlen := Nat.eq_of_beq_eq_true hlen
      rw [hlen] at h
      simp only [Nat.beq_eq_true_eq, cond_true, Nat.beq_refl] at h
      have hvl : vals.size = r.params.size := by rw [hr4]; have := hargs.len; simp at this ⊢; omega
      refine ⟨r, hr1, hvl, ?_⟩
      refine roundIn_of_wpIn trivial ?_
      split at h
      · rename_i t1 σ1 hex1
        have htr : TR w0 ρ (setMany t ps args) N ((r.params.zip vals).foldl (fun tmps (t, a) => tmps.setIfInBounds t a) r.tmps) := by
          have := TR.many (vals := vals.toList) hr5 hargs hr8 hlen
          rw [hr4]
          rw [← Array.foldl_toList, Array.toList_zip]
          exact this
        have hrs : RS P w0 w.heap.size ρ σ (setMany t ps args) N (some p.blk) { tmps := (r.params.zip vals).foldl (fun tmps (t, a) => tmps.setIfInBounds t a) r.tmps, defers := [] } w :=
          ⟨hs, htr, ⟨[], rfl, List.nodup_nil, by simp⟩, Nat.le_refl _, fun l e => by cases e; exact ⟨r, hr1⟩⟩
        refine wpIn_mono (h2 n (Nat.le_refl _) r.assign as N _ σ .normal t1 σ1 hr6 hex1 (some p.blk) m _ ρ _ w hrs) ?_
        rintro e a1 w1 ⟨k0, ρ1, k1, k2, k3⟩
        cases e <;> try exact k0.elim
        have hp1 := k3.ext _ _ hp
        split at h
        · rename_i t2 ps2 as2 body2 hget1
          obtain ⟨r1, q1, q2, q3, q4⟩ := loop_write k3.sr hp1 hget1 .busy none
          refine ⟨_, run_beginRound q1 q2, ?_⟩
          have q4' : Step1 P w0 ρ1 σ1 w1 ρ1 (σ1.set L (.loop t2 ps2 as2 body2 .busy none)) (w1.putObj p.blk (.loop { r1 with state := .busy })) := by
            have : ({ r1 with state := .busy, pending := (none : Option Jump).map jumpOf } : Loop) = { r1 with state := .busy } := by
              cases r1; simp_all
            rw [← this]; exact q4
          split at h
          · rename_i ex t2' σ2 hex2
            have hrs1 : RS P w0 w.heap.size ρ σ (setMany t ps args) N (some p.blk) _ w := hrs
            refine wpIn_mono (h2 n (Nat.le_refl _) r.body body N t1 _ ex _ σ2 hr7 hex2 (some p.blk) m w.heap.size ρ1 a1 _ (hrs.step (k3.trans q4') k1 (k2.step q4'))) ?_
            rintro e2 a2 w2 ⟨j0, ρ2, j1, j2, j3⟩
            have hp2 := j3.ext _ _ hp1
            split at h
            · rename_i t3 ps3 as3 body3 st3 pend3 hget2
              have fin : ∀ (st' : LoopState) (pend' : Option Jump) (jump : Option Code), jump = pend'.map jumpOf → st' = (if jump.isNone then .ready else .done) → σ' = σ2.set L (.loop t3 ps3 as3 body3 st' pend') → v = .bool jump.isNone →
                  ∃ v' w', (Instr.endRound p.blk jump).run P w2 = .ok v' w' ∧ ∃ u ρ', Ending.returned v' = Ending.returned u ∧ OK w0 ρ' v u ∧ Step1 P w0 ρ σ w ρ' σ' w' := by
                rintro st' pend' jump rfl rfl rfl rfl
                obtain ⟨r2, y1, y2, y3, y4⟩ := loop_write j3.sr hp2 hget2 (if (pend'.map jumpOf).isNone then .ready else .done) pend'
                exact ⟨_, _, run_endRound _ y1, _, ρ2, rfl, OK.mk_bool, ((k3.trans q4').trans j3).trans y4⟩
              split at h
              · cases e2 <;> try exact j0.elim
                cases h
                exact fin .ready none none rfl rfl rfl rfl
              · cases e2 <;> try exact j0.elim
                cases h
                exact fin .done (some .ret) (some .ret) rfl rfl rfl rfl
              · cases e2 <;> try exact j0.elim
                cases h
                have j0 : _ = _ := j0
                subst j0
                exact fin .done (some (.exit _)) (some (.exit _)) rfl rfl rfl rfl
            · cases h
          · cases h
        · cases h
      · cases h
  · cases h

/-- A block of no one is turned behind a step. -/
theorem Step1.put_other (h : Step1 P w0 ρ σ w ρ' σ' w') (h0 : w0.heap.size ≤ w.heap.size) {b : Nat} {o : Obj} (h1 : w.heap.size ≤ b) (h2 : b < w'.heap.size) (h3 : ∀ i p, ρ' i = some p → p.blk ≠ b) (hz : ∀ a v, w'.cell? a = some v → a.block ≠ b) : Step1 P w0 ρ σ w ρ' σ' (w'.putObj b o) :=
  ⟨Step1.other h.sr h2 (Nat.le_trans h0 h1) h3 hz, h.ext, h.nxt, by simpa using h.size, h.newid, h.newblk, fun c hc hn => (World.putObj_heap_other (by omega)).trans (h.frame c hc hn), h.keep,
    fun c r hc => by
      have := (Array.getElem?_eq_some_iff.1 hc).1
      obtain ⟨r', hr'⟩ := h.loops c r hc
      exact ⟨r', (World.putObj_heap_other (by omega)).trans hr'⟩, h.newfz⟩

theorem leaves_ok {F : Func} {A : Array Value} {R : Ending → World → Prop} {m : Nat} (h0 : w0.heap.size ≤ w.heap.size) (hR : ∀ w', Step1 P w0 ρ σ w ρ' σ' w' → ∃ v, (results F A).run P w' = .ok v w' ∧ R (.returned v) w') :
    ∀ (ds : List Deferred) (w' : World), Step1 P w0 ρ σ w ρ' σ' w' → MKS w.heap.size ρ' w' ds → LeavesInM (FR none) m P F A R ds .returning w' := by
  intro ds
  induction ds with
  | nil =>
    intro w' h _
    exact hR w' h
  | cons d ds ih =>
    rintro w' h ⟨bs, hd, hnd, hb⟩
    cases bs with
    | nil => simp at hd
    | cons b bs =>
      simp only [List.map_cons, List.cons.injEq] at hd
      obtain ⟨rfl, rfl⟩ := hd
      obtain ⟨h1, h2, h3⟩ := hb b (by simp)
      have hlt := (Array.getElem?_eq_some_iff.1 h1).1
      refine ⟨by simp, .inl ⟨b, _, rfl, run_takeDeferred h1, ih _ (h.put_other h0 h2 hlt h3 (fun a v hc e => by
        subst e
        simp only [World.cell?, h1] at hc
        cases hc)) ⟨bs, rfl, (List.nodup_cons.1 hnd).2, fun c hc => ?_⟩⟩⟩
      obtain ⟨g1, g2, g3⟩ := hb c (by simp [hc])
      have hne : c ≠ b := fun e => by subst e; exact (List.nodup_cons.1 hnd).1 hc
      exact ⟨(World.putObj_heap_other hne).trans g1, g2, g3⟩

theorem callFunc_ok {f : Nat} {F : Func} {fn : SFun} (hf : P.funcs[f]? = some F) (hc : compFun P F = some fn) (vals : Array Value) (w : World) : (callFunc f vals).run P w = .ok (.enter f vals) w := by
  unfold compFun at hc
  split at hc
  · rename_i c hb
    split at hc
    · split at hc
      · rename_i h
        have h2 := h.2
        simp only [beq_eq_false_iff_ne] at h2
        simp [callFunc, hf, h2, hb]
      · cases hc
    · cases hc
  · cases hc

theorem call_step {n : Nat} (he : EnvOK P w0 E) (h2 : ∀ k, k ≤ n → ExecOK P w0 E k) : CallOK P w0 E (n + 1) := by
  intro f args σ v σ' h
  simp only [call] at h
  split at h
  · rename_i g hg
    obtain ⟨e1, e2⟩ := he.ext f g hg
    exact ⟨e1, fun ro m ρ w vals hs ha => e2 args σ v σ' h ro m ρ w vals hs ha⟩
  · rename_i hext
    split at h
    · rename_i fn hfn
      obtain ⟨F, hF, hcomp⟩ := he.fn f fn hext hfn
      refine ⟨fun vals w => callFunc_ok hF hcomp vals w, fun ro m ρ w vals hs ha => ?_⟩
      show CallsIn (FR none) m P f vals w _
      unfold compFun at hcomp
      split at hcomp
      · rename_i c hb
        split at hcomp
        · rename_i b rs hcb hrs
          split at hcomp
          · rename_i hnp
            simp only [Option.some.injEq] at hcomp
            subst hcomp
            cases hlen : Nat.beq args.length (F.params.size + F.nfree) with
            | false => simp [hlen] at h
            | true =>
              simp only [hlen, cond_true] at h
              have hlen := Nat.eq_of_beq_eq_true hlen
              refine callsIn_of_wp_marks hF hb trivial ?_
              have hrs0 : RS P w0 w.heap.size ρ σ (Tr.fill .nil 0 args) F.ntmps none { tmps := vals ++ Array.replicate (F.ntmps - vals.size) Go.undef, defers := [] } w :=
                ⟨hs, TR.init ha (by omega), ⟨[], rfl, List.nodup_nil, by simp⟩, Nat.le_refl _, fun l e => by cases e⟩
              have fin : ∀ (t1 : Tr SV) (σ1 : St) (a1 : Act) (w1 : World) (ρ1 : Rho), (resultsSV t1 σ1 rs).map (fun v => (v, σ1)) = some (v, σ') → TR w0 ρ1 t1 F.ntmps a1.tmps → MKS w.heap.size ρ1 w1 a1.defers → Step1 P w0 ρ σ w ρ1 σ1 w1 →
                  LeavesInM (FR none) m P F a1.tmps (fun e w' => ∃ u ρ', e = .returned u ∧ OK w0 ρ' v u ∧ Step1 P w0 ρ σ w ρ' σ' w') a1.defers .returning w1 := by
                intro t1 σ1 a1 w1 ρ1 hres htr hmk hst
                obtain ⟨v', hv', heq⟩ := Option.map_eq_some_iff.1 hres
                cases heq
                refine leaves_ok (ρ' := ρ1) hs.below.size (fun w' hst' => ?_) _ _ hst hmk
                obtain ⟨u, hu1, hu2⟩ := results_ok hrs hst'.sr htr hv'
                exact ⟨u, hu1, u, ρ1, rfl, hu2, hst'⟩
              cases hex : exec E n b (Tr.fill .nil 0 args) σ with
              | none => simp [hex] at h
              | some r =>
                obtain ⟨ex, t1, σ1⟩ := r
                refine wpIn_mono (h2 n (Nat.le_refl _) c b F.ntmps _ σ ex t1 σ1 hcb hex none m _ ρ _ w hrs0) ?_
                rintro e a1 w1 ⟨k0, ρ1, k1, k2, k3⟩
                cases ex with
                | normal =>
                  cases e <;> try exact k0.elim
                  simp only [hex] at h
                  exact fin _ _ _ _ _ h k1 k2 k3
                | ret =>
                  cases e <;> try exact k0.elim
                  simp only [hex] at h
                  exact fin _ _ _ _ _ h k1 k2 k3
                | exit i => simp [hex] at h
          · cases hcomp
        · cases hcomp
      · cases hcomp
    · cases h

theorem all_ok (he : EnvOK P w0 E) (hd : DrawOK P w0 E) : ∀ n k, k ≤ n → OneOK P w0 E k ∧ ExecOK P w0 E k ∧ CallOK P w0 E k ∧ RoundOK P w0 E k := by
  intro n
  induction n with
  | zero =>
    intro k hk
    have : k = 0 := by omega
    subst this
    refine ⟨fun o so N t σ v σ' _ h => ?_, fun c sc N t σ ex t' σ' _ h => ?_, fun f args σ v σ' h => ?_, fun L args σ v σ' h => ?_⟩
    · simp [one] at h
    · simp [exec] at h
    · simp [call] at h
    · simp [round] at h
  | succ n ih =>
    intro k hk
    by_cases hkn : k ≤ n
    · exact ih k hkn
    · have : k = n + 1 := by omega
      subst this
      exact ⟨one_step (fun k hk => (ih k hk).2.2.1) (fun k hk => (ih k hk).2.2.2), exec_step hd (fun k hk => (ih k hk).1) (fun k hk => (ih k hk).2.1) (fun k hk => (ih k hk).2.2.1), call_step he (fun k hk => (ih k hk).2.1), round_step (fun k hk => (ih k hk).2.1)⟩

/-- **What the shadow computes of a call, the machine does.** -/
theorem call_ok (he : EnvOK P w0 E) (hd : DrawOK P w0 E) (n : Nat) : CallOK P w0 E n := (all_ok he hd n n (Nat.le_refl _)).2.2.1
end
end Go.Proofs.Ytojjhcgbbmknmaa.Sh
