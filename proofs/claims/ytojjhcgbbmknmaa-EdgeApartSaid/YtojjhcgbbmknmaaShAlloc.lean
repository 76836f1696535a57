/- Operations that lay a block. -/
import Derived.Test.YtojjhcgbbmknmaaShMem
namespace Go.Proofs.Ytojjhcgbbmknmaa.Sh
set_option linter.unusedSimpArgs false
set_option linter.unusedVariables false
open Go Go.RowKit

/-- What an operation that lays a block does: in the shadow, in the machine. -/
def Lays (P : Program) (w0 : World) (ρ : Rho) (σ : St) (a : Act) (o : Oper) (v : SV) (σ' : St) : Prop :=
  ∃ ob, σ' = σ.push ob ∧ ∀ w : World, ∃ (O : Obj) (n : Nat) (u : Value), (execOp a.eval o).run P w = .ok (.value u) (w.alloc O) ∧
    ∀ ρ' : Rho, Ext ρ ρ' → ρ' σ.next = some ⟨w.heap.size, 0, n⟩ → OK w0 ρ' v u ∧ ObR P w0 ρ' ⟨w.heap.size, 0, n⟩ (w.alloc O) (some ob)

section
variable {P : Program} {w0 : World} {ρ : Rho} {N : Nat} {t : Tr SV} {σ σ' : St} {a : Act} {o : Oper} {v : SV} {so : SOp}

theorem obr_new {w : World} {ρ' : Rho} {cs : List SV} {A : Array Value} {e : TypeId} (h : OKs w0 ρ' cs A.toList) (h1 : allOne cs) : ObR P w0 ρ' ⟨w.heap.size, 0, A.size⟩ (w.alloc (.cells A e)) (some (.cells cs)) := by
  have hl := h.len
  refine ⟨A, e, World.alloc_heap_new w _, rfl, by simp at hl ⊢; omega, ?_, h1⟩
  rw [List.drop_zero, ← hl, List.take_length]
  exact h

theorem run_newRow {w : World} {e : TypeId} {A : Array Value} : (newRow e A).run P w = .ok ⟨w.heap.size, 0, none⟩ (w.alloc (.cells A e)) := by
  simp [newRow]

theorem l_alloc {e : TypeId} (ho : o.op = .alloc e) {zs : List SV} (hz : zsT P e = some zs) (h : sop (.alloc zs) t σ = some (v, σ')) : Lays P w0 ρ σ a o v σ' := by
  simp only [sop, Option.some.injEq, Prod.mk.injEq] at h
  obtain ⟨rfl, rfl⟩ := h
  obtain ⟨i, z, e1, e2, _, hone⟩ := zsT_ok (w0 := w0) (ρ := ρ) hz
  refine ⟨_, rfl, fun w => ⟨.cells z.cells e, z.cells.size, .pointer (some ⟨w.heap.size, 0, none⟩), ?_, fun ρ' hext hp => ⟨⟨?_, trivial⟩, ?_⟩⟩⟩
  · simp [execOp, ho, Instr.alloc, zeroValue, typeInfo, e1, e2, newVar, run_newRow]
  · simp only [VR]; exact ⟨_, hp, rfl⟩
  · obtain ⟨i', z', e1', e2', kz, _⟩ := zsT_ok (w0 := w0) (ρ := ρ') hz
    rw [e1] at e1'; cases e1'
    rw [e2] at e2'; cases e2'
    exact obr_new kz hone

theorem l_box {e : TypeId} {x : Operand} (ho : o.op = .box e x) {y : Opd} (hx : compOpd x = some y) (k : TR w0 ρ t N a.tmps) (h : sop (.box y) t σ = some (v, σ')) : Lays P w0 ρ σ a o v σ' := by
  have hok := opd_ok hx k
  have main : (y.ev t).lay = true → v = .ptr σ.next 0 → σ' = σ.push (.cells (y.ev t).flat) → Lays P w0 ρ σ a o v σ' := by
    rintro hl rfl rfl
    refine ⟨_, rfl, fun w => ⟨.cells (a.eval x).cells e, (a.eval x).cells.size, .pointer (some ⟨w.heap.size, 0, none⟩), ?_, fun ρ' hext hp => ⟨⟨?_, trivial⟩, ?_⟩⟩⟩
    · simp [execOp, ho, Instr.box, newVar, run_newRow]
    · simp only [VR]; exact ⟨_, hp, rfl⟩
    · obtain ⟨f1, f2⟩ := (hok.mono hext).flat hl
      exact obr_new f1 f2
  simp only [sop] at h
  split at h
  · rename_i cs e1
    cases h
    refine main (by rw [e1]; rfl) rfl (by rw [e1]; rfl)
  · rename_i e1
    split at h
    · rename_i h1
      cases h
      refine main ?_ rfl ?_
      · generalize y.ev t = s at *
        cases s with
        | sc s => cases s <;> simp_all [SV.lay, SV.one]
        | tup => simp [SV.one] at h1
        | _ => rfl
      · generalize y.ev t = s at *
        cases s with
        | agg cs => exact absurd rfl (e1 cs)
        | _ => rfl
    · cases h

theorem zeros_ok {zs : List SV} {Z : Array Value} (h : OKs w0 ρ zs Z.toList) (h0 : 0 < zs.length) : ∀ len : Nat, OKs w0 ρ (List.replicate len zs).flatten ((Array.range (len * zs.length)).map fun i => Z[i % Z.size]!).toList := by
  have hl := h.len
  intro len
  rw [Array.toList_map, Array.toList_range]
  induction len with
  | zero => simpa [OKs, wfs] using VRs.nil
  | succ n ih =>
    rw [List.replicate_succ', List.flatten_append, show (n + 1) * zs.length = n * zs.length + zs.length by rw [Nat.add_mul]; omega, List.range_add, List.map_append]
    refine ih.append ?_
    simp only [List.flatten_cons, List.flatten_nil, List.append_nil, List.map_map]
    have : List.map ((fun i => Z[i % Z.size]!) ∘ fun x => n * zs.length + x) (List.range zs.length) = Z.toList := by
      apply List.ext_getElem?
      intro j
      simp only [List.getElem?_map, Function.comp_apply]
      by_cases hj : j < zs.length
      · rw [List.getElem?_range hj]
        have hjz : j < Z.size := by simp at hl; omega
        simp only [Option.map_some, Function.comp_apply]
        rw [show Z.size = zs.length by simp at hl; omega, Nat.mul_comm, Nat.mul_add_mod, Nat.mod_eq_of_lt hj]
        simp [hjz]
      · rw [List.getElem?_eq_none (by simp; omega), List.getElem?_eq_none (by simp at hl ⊢; omega)]
        rfl
    rw [this]
    exact h

theorem l_buildSl {ty e : TypeId} {len s : Nat} {parts : Array (Nat × Operand)} (ho : o.op = .buildSlice ty len parts) (hu : P.underlying ty = some (.slice e)) (hs : szT P e = some s) {zs : List SV} (hz : zsT P e = some zs)
    (h0 : 0 < s) (hzl : zs.length = s) (hb : len * s ≤ 2 ^ 24) {l' : List (Nat × Nat × Opd)} (hc : compParts (fun i => some (i * s, s)) parts.toList = some l') (k : TR w0 ρ t N a.tmps)
    (h : sop (.buildSl s (List.replicate len zs).flatten len l') t σ = some (v, σ')) : Lays P w0 ρ σ a o v σ' := by
  simp only [sop, Option.map_eq_some_iff, Prod.mk.injEq] at h
  obtain ⟨cs, h2, rfl, rfl⟩ := h
  obtain ⟨i, z, e1, e2, kz, hone⟩ := zsT_ok (w0 := w0) (ρ := ρ) hz
  have hone' : allOne (List.replicate len zs).flatten := by
    intro c hcm
    obtain ⟨l, hl, hm⟩ := List.mem_flatten.1 hcm
    rw [(List.mem_replicate.1 hl).2] at hm
    exact hone c hm
  have hzr := zeros_ok kz (by omega) len
  rw [hzl] at hzr
  obtain ⟨A', q1, q2, q3⟩ := fill_ok k _ _ _ _ _ hc hzr hone' h2
  have hl := q2.len
  have hcs : ∀ (l' : List (Nat × Nat × Opd)) (cs cs' : List SV), fillParts t cs l' = some cs' → cs'.length = cs.length := by
    intro l'
    induction l' with
    | nil => intro cs cs' h; simp only [fillParts, Option.some.injEq] at h; rw [h]
    | cons p r ih =>
      intro cs cs' h
      obtain ⟨off, n, x⟩ := p
      simp only [fillParts] at h
      split at h
      · rename_i hc
        rw [ih _ _ h]; rw [paste_def]; simp; omega
      · cases h
  have hcl := hcs _ _ _ h2
  have hfl : (List.replicate len zs).flatten.length = len * s := by simp [hzl]
  have hnb : ¬ (len * s > 2 ^ 24) := by omega
  have hmap : (parts.map fun (i, x) => (i, a.eval x)).toList = parts.toList.map fun p => (p.1, a.eval p.2) := by simp
  have hzsz : z.cells.size = s := by have := kz.len; simp at this; omega
  refine ⟨_, rfl, fun w => ⟨.cells A' e, A'.size, .slice (some ⟨w.heap.size, 0, none⟩) len len, ?_, fun ρ' hext hp => ⟨⟨?_, trivial⟩, obr_new (q2.mono hext) q3⟩⟩⟩
  · by_cases hz0 : len * s = 0
    · have harr : ((Array.range (len * s)).map fun x => (#[] : Array Value)[x % (#[] : Array Value).size]!) = (Array.range (len * s)).map (fun i => z.cells[i % z.cells.size]!) := by simp [hz0]
      simp only [execOp, ho, Instr.buildSlice, Sem.run_bind, run_underlying hu, Result.andThen_ok, run_sizeOf hs, Sem.run_ite, hnb, if_false, if_pos hz0, Sem.run_pure, harr, hmap, q1, run_newRow]
    · simp only [execOp, ho, Instr.buildSlice, Sem.run_bind, run_underlying hu, Result.andThen_ok, run_sizeOf hs, Sem.run_ite, hnb, if_false, if_neg hz0, Sem.run_pure, zeroValue, typeInfo, run_program, e1, e2, hmap, q1, run_newRow]
  · simp only [VR]
    exact ⟨_, len, 0, hp, rfl, .inl rfl, Nat.le_refl _, h0, fun _ => by simp at hl ⊢; omega⟩

theorem wrap_small {n : Int} (h0 : 0 ≤ n) (h1 : n ≤ 2 ^ 40) : IntKind.i64.wrap n = n := by
  unfold IntKind.wrap
  simp [IntKind.bits, IntKind.signed]
  omega

theorem l_mksl {ty e : TypeId} {s b : Nat} {l c : Operand} (ho : o.op = .makeSlice ty l c) (hu : P.underlying ty = some (.slice e)) (hs : szT P e = some s) (hby : byT P e = some b) {zs : List SV} (hz : zsT P e = some zs)
    (h0 : 0 < s) (hzl : zs.length = s) {l' c' : Opd} (hl : compOpd l = some l') (hc : compOpd c = some c') (k : TR w0 ρ t N a.tmps)
    (h : sop (.mksl s b zs l' c') t σ = some (v, σ')) : Lays P w0 ρ σ a o v σ' := by
  simp only [sop] at h
  split at h
  · rename_i x y e1 e2
    split at h
    · rename_i hcond
      obtain ⟨c1, c2, c3, c4⟩ := hcond
      cases h
      obtain ⟨k1, hL⟩ := (opd_ok hl k).intOf e1
      obtain ⟨k2, hC⟩ := (opd_ok hc k).intOf e2
      obtain ⟨i, z, e1', e2', kz, hone⟩ := zsT_ok (w0 := w0) (ρ := ρ) hz
      have hone' : allOne (List.replicate y.toNat zs).flatten := by
        intro c hcm
        obtain ⟨l, hl, hm⟩ := List.mem_flatten.1 hcm
        rw [(List.mem_replicate.1 hl).2] at hm
        exact hone c hm
      have hzr := zeros_ok kz (by omega) y.toNat
      rw [hzl] at hzr
      have hlen := hzr.len
      unfold byT at hby
      obtain ⟨i2, f1, f2⟩ := Option.map_eq_some_iff.1 hby
      rw [e1'] at f1; cases f1
      subst f2
      have w1 := wrap_small c1 (Int.le_trans c2 c4)
      have w2 := wrap_small (Int.le_trans c1 c2) c4
      have t1 : ¬ (y < 0) := by omega
      have t2 : ¬ ((i.bytes : Int) * y > 2 ^ 48) := by rw [Int.mul_comm]; omega
      refine ⟨_, rfl, fun w => ⟨.cells ((Array.range (y.toNat * s)).map fun j => z.cells[j % z.cells.size]!) e, ((Array.range (y.toNat * s)).map fun j => z.cells[j % z.cells.size]!).size, .slice (some ⟨w.heap.size, 0, none⟩) x.toNat y.toNat, ?_, fun ρ' hext hp => ⟨⟨?_, trivial⟩, obr_new (hzr.mono hext) hone'⟩⟩⟩
      · have hroom : (askRoom (y.toNat * i.bytes)).run P w = .ok () w := by unfold askRoom; split <;> simp [mark, Sem.run]
        have ht : (typeInfo e).run P w = .ok i w := by simp [typeInfo, e1']
        have hcondf : ((decide (y < 0) || decide ((i.bytes : Int) * y > 2 ^ 48)) || decide (x < 0) || decide (x > y)) = false := by
          simp only [decide_eq_false t1, decide_eq_false t2, decide_eq_false (show ¬ x < 0 by omega), decide_eq_false (show ¬ x > y by omega)]; rfl
        by_cases hz0 : y.toNat * s = 0
        · have harr : ((Array.range (y.toNat * s)).map fun x => (#[] : Array Value)[x % (#[] : Array Value).size]!) = (Array.range (y.toNat * s)).map (fun i => z.cells[i % z.cells.size]!) := by simp [hz0]
          simp only [execOp, ho, hL, hC, Instr.makeSlice, asInt, asIntOf, Sem.run_bind, run_underlying hu, Result.andThen_ok, Sem.run_pure, ht, w1, w2, Sem.run_ite]
          simp only [hcondf, Bool.false_eq_true, if_false, Result.andThen_ok, hroom, run_sizeOf hs, if_pos hz0, Sem.run_pure, harr, run_newRow]
        · simp only [execOp, ho, hL, hC, Instr.makeSlice, asInt, asIntOf, Sem.run_bind, run_underlying hu, Result.andThen_ok, Sem.run_pure, ht, w1, w2, Sem.run_ite]
          simp only [hcondf, Bool.false_eq_true, if_false, Result.andThen_ok, hroom, run_sizeOf hs, if_neg hz0, Sem.run_bind, Sem.run_pure, zeroValue, typeInfo, run_program, e1', e2', run_newRow]
      · simp only [VR]
        refine ⟨_, y.toNat, 0, hp, rfl, .inl rfl, by omega, h0, fun _ => by simp⟩
    · cases h
  · cases h

theorem l_mkmap {ty : TypeId} (ho : o.op = .makeMap ty none) (h : sop .mkmap t σ = some (v, σ')) : Lays P w0 ρ σ a o v σ' := by
  simp only [sop, Option.some.injEq, Prod.mk.injEq] at h
  obtain ⟨rfl, rfl⟩ := h
  refine ⟨_, rfl, fun w => ⟨.map #[] 0, 0, .map (some w.heap.size), ?_, fun ρ' hext hp => ⟨⟨?_, trivial⟩, ?_⟩⟩⟩
  · simp [execOp, ho, Instr.makeMap]
  · simp only [VR]; exact ⟨_, hp, rfl⟩
  · exact ⟨#[], 0, World.alloc_heap_new w _, rfl⟩
end
end Go.Proofs.Ytojjhcgbbmknmaa.Sh
