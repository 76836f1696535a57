/- Maps that are written. -/
import Derived.Test.YtojjhcgbbmknmaaShMore
namespace Go.Proofs.Ytojjhcgbbmknmaa.Sh
set_option linter.unusedSimpArgs false
set_option linter.unusedVariables false
open Go Go.RowKit

section
variable {P : Program} {w0 : World} {ρ : Rho} {N : Nat} {t : Tr SV} {σ σ' : St} {a : Act} {o : Oper} {v : SV} {so : SOp}

theorem setKey_ok {kd kd0 : IntKind} {n : Int} {v : SV} {u : Value} (hv : OK w0 ρ v u) : ∀ {es : List (SV × SV)} {l : List MapEntry} (i : Nat), EntR w0 ρ es l → allKeys kd es = true →
    (Instr.findNow (.int kd0) (.int kd n) l i = some none ∧ ∀ b, EntR w0 ρ (setKey (.sc (.int kd n)) v es) (l ++ [{ key := .int kd n, val := u, born := b }])) ∨
    (∃ j q, Instr.findNow (.int kd0) (.int kd n) l i = some (some (i + j, q)) ∧ (∃ e, l[j]? = some e ∧ e.key = .int kd n) ∧ EntR w0 ρ (setKey (.sc (.int kd n)) v es) (l.modify j fun e => { e with key := .int kd n, val := u }))
  | [], _, i, h, _ => by
    simp only [EntR] at h; subst h
    exact .inl ⟨rfl, fun b => ⟨_, [], rfl, OK.mk_sc, hv, rfl⟩⟩
  | (a, b) :: r, _, i, h, hk => by
    simp only [EntR] at h
    obtain ⟨e, l, rfl, h1, h2, h3⟩ := h
    obtain ⟨⟨m, hm⟩, hk2⟩ := allKeys_cons hk
    simp only at hm; subst hm
    have hkey := h1.int rfl
    simp only [setKey, Instr.findNow, Instr.sameNow, hkey, if_true]
    by_cases hnm : n = m
    · subst hnm
      simp only [beq_self_eq_true, if_true]
      exact .inr ⟨0, e.val, by simp, ⟨e, by simp, hkey⟩, by simp only [List.modify_zero_cons]; exact ⟨_, l, rfl, OK.mk_sc, hv, h3⟩⟩
    · rw [if_neg hnm]
      have hb : (n == m) = false := by simpa using hnm
      rw [hb]
      rcases setKey_ok (kd0 := kd0) hv (i + 1) h3 hk2 with ⟨q1, q2⟩ | ⟨j, q, q1, ⟨e', q3, q4⟩, q5⟩
      · exact .inl ⟨q1, fun b => ⟨e, _, rfl, h1, h2, q2 b⟩⟩
      · refine .inr ⟨j + 1, q, by simp only []; rw [q1]; congr 3; omega, ⟨e', by simpa using q3, q4⟩, ?_⟩
        simp only [List.modify_succ_cons]
        exact ⟨e, _, rfl, h1, h2, q5⟩

theorem b_mapset {w : World} {ty kt e : TypeId} {kd : IntKind} {m x y : Operand} (ho : o.op = .mapUpdate ty m x y ∨ o.op = .insert ty m x y) (hu : P.underlying ty = some (.map kt e)) (hk : P.underlying kt = some (.int kd))
    {m' x' y' : Opd} (hm : compOpd m = some m') (hx : compOpd x = some x') (hy : compOpd y = some y') (sr : SR P w0 ρ σ w) (k : TR w0 ρ t N a.tmps)
    (h : sop (.mapset m' x' y') t σ = some (v, σ')) : v = .undef ∧ ∃ w', (execOp a.eval o).run P w = .ok .skip w' ∧ Step1 P w0 ρ σ w ρ σ' w' := by
  have hM := opd_ok hm k
  have hX := opd_ok hx k
  have hY := opd_ok hy k
  simp only [sop] at h
  split at h
  · rename_i kd' n id e1 e2
    have hxv := hX.int e1
    split at h
    · rename_i es hg
      split at h
      · rename_i hall
        cases h
        refine ⟨rfl, ?_⟩
        rw [e2] at hM
        obtain ⟨p, k1, k2⟩ := (by simpa only [VR] using hM.1 : ∃ p, ρ id = some p ∧ a.eval m = .map (some p.blk))
        have hob := sr.obs id p k1
        rw [hg] at hob
        obtain ⟨A, c, hb, hent⟩ := hob
        have hlt := (sr.dom id p k1).2.2
        have hgo : (getObj p.blk).run P w = .ok (.map A c) w := by simp [getObj, Sem.run, hb]
        have hso : ∀ O, (setObj p.blk O).run P w = .ok () (w.putObj p.blk O) := fun O => by simp [setObj, Sem.run, hb, World.putObj]
        have hck := run_checkKey (P := P) (w := w) (em := false) (d := 9999) (v := .int kd' n) hk
        have fin : ∀ W, (Instr.mapUpdate ty (.map (some p.blk)) (.int kd' n) (a.eval y)).run P w = .ok () W → (execOp a.eval o).run P w = .ok .skip W := by
          intro W hW
          rcases ho with ho | ho <;> simp [execOp, ho, k2, hxv, hW]
        have step : ∀ (A' : Array MapEntry) (c' : Nat), EntR w0 ρ (setKey (.sc (.int kd' n)) (y'.ev t) es) A'.toList → Step1 P w0 ρ σ w ρ (σ.set id (.map (setKey (.sc (.int kd' n)) (y'.ev t) es))) (w.putObj p.blk (.map A' c')) := by
          intro A' c' hE
          exact sr.write k1 (by rw [hg]; simp) (by simp) (World.putObj_heap_same hlt) (fun k hk => World.putObj_heap_other hk) rfl rfl rfl ⟨A', c', World.putObj_heap_same hlt, hE⟩ (fun r hr => by rw [hb] at hr; cases hr)
        rcases setKey_ok (kd0 := kd) (n := n) hY 0 hent hall with ⟨q1, q2⟩ | ⟨j, q, q1, ⟨e', q3, q4⟩, q5⟩
        · have hfk : (Instr.findKey kt (.int kd' n) A.toList).run P w = .ok none w := by simp [Instr.findKey, run_underlying hk, q1]
          refine ⟨_, fin _ ?_, step (A.push { key := .int kd' n, val := a.eval y, born := c }) (c + 1) (by simpa using q2 c)⟩
          simp [Instr.mapUpdate, run_underlying hu, hgo, hck, hfk, hso]
        · rw [Nat.zero_add] at q1
          have hfk : (Instr.findKey kt (.int kd' n) A.toList).run P w = .ok (some (j, q)) w := by simp [Instr.findKey, run_underlying hk, q1]
          have hAj : A[j]? = some e' := by simpa using q3
          have hkey : (Instr.keyThatStays (((A[j]?).map (·.key)).getD (.int kd' n)) (.int kd' n)).run P w = .ok (.int kd' n) w := by
            simp [hAj, q4, Instr.keyThatStays, Instr.sameBits]
          refine ⟨_, fin _ ?_, step (A.modify j fun e => { e with key := .int kd' n, val := a.eval y }) c (by simpa [Array.toList_modify] using q5)⟩
          simp [Instr.mapUpdate, run_underlying hu, hgo, hck, hfk, hkey, hso]
      · cases h
    · cases h
  · cases h
end
end Go.Proofs.Ytojjhcgbbmknmaa.Sh
