/- Several texts, merged: Operations that lay a block. And more. -/
import Derived.Test.YtojjhcgbbmknmaaX2

/- Operations that lay a block. -/
namespace Go.Proofs.Ytojjhcgbbmknmaa.Sh
set_option linter.unusedSimpArgs false
set_option linter.unusedVariables false
open Go Go.RowKit

/-- What an operation that lays a block does: in the shadow, in the machine. -/
def Lays (P : Program) (w0 : World) (ρ : Rho) (σ : St) (a : Act) (o : Oper) (v : SV) (σ' : St) : Prop :=
  ∃ ob, σ' = σ.push ob ∧ ∀ w : World, ∃ (O : Obj) (n : Nat) (u : Value), (execOp a.eval o).run P w = .ok (.value u) (w.alloc O) ∧
    ∀ ρ' : Rho, Ext ρ ρ' → ρ' σ.next = some ⟨w.heap.size, 0, n⟩ → OK w0 ρ' v u ∧ ObR P w0 ρ' ⟨w.heap.size, 0, n⟩ (w.alloc O) (some ob)

section
variable {P : Program} {w0 : World} {ρ : Rho} {N : Nat} {t : Tr SV} {σ σ' : St} {a : Act} {o : Oper} {v : SV} {so : SOp}

theorem obr_new {w : World} {ρ' : Rho} {cs : List SV} {A : Array Value} {e : TypeId} (h : OKs w0 ρ' cs A.toList) (h1 : allOne cs) : ObR P w0 ρ' ⟨w.heap.size, 0, A.size⟩ (w.alloc (.cells A e)) (some (.cells cs)) := by
  have hl := h.len
  refine ⟨A, e, World.alloc_heap_new w _, rfl, by simp at hl ⊢; omega, ?_, h1⟩
  rw [List.drop_zero, ← hl, List.take_length]
  exact h

theorem run_newRow {w : World} {e : TypeId} {A : Array Value} : (newRow e A).run P w = .ok ⟨w.heap.size, 0, none⟩ (w.alloc (.cells A e)) := by
  simp [newRow]

theorem l_alloc {e : TypeId} (ho : o.op = .alloc e) {zs : List SV} (hz : zsT P e = some zs) (h : sop (.alloc zs) t σ = some (v, σ')) : Lays P w0 ρ σ a o v σ' := by
  simp only [sop, Option.some.injEq, Prod.mk.injEq] at h
  obtain ⟨rfl, rfl⟩ := h
  obtain ⟨i, z, e1, e2, _, hone⟩ := zsT_ok (w0 := w0) (ρ := ρ) hz
  refine ⟨_, rfl, fun w => ⟨.cells z.cells e, z.cells.size, .pointer (some ⟨w.heap.size, 0, none⟩), ?_, fun ρ' hext hp => ⟨⟨?_, trivial⟩, ?_⟩⟩⟩
  · simp [execOp, ho, Instr.alloc, zeroValue, typeInfo, e1, e2, newVar, run_newRow]
  · simp only [VR]; exact ⟨_, hp, rfl⟩
  · obtain ⟨i', z', e1', e2', kz, _⟩ := zsT_ok (w0 := w0) (ρ := ρ') hz
    rw [e1] at e1'; cases e1'
    rw [e2] at e2'; cases e2'
    exact obr_new kz hone

theorem l_box {e : TypeId} {x : Operand} (ho : o.op = .box e x) {y : Opd} (hx : compOpd x = some y) (k : TR w0 ρ t N a.tmps) (h : sop (.box y) t σ = some (v, σ')) : Lays P w0 ρ σ a o v σ' := by
  have hok := opd_ok hx k
  have main : (y.ev t).lay = true → v = .ptr σ.next 0 → σ' = σ.push (.cells (y.ev t).flat) → Lays P w0 ρ σ a o v σ' := by
    rintro hl rfl rfl
    refine ⟨_, rfl, fun w => ⟨.cells (a.eval x).cells e, (a.eval x).cells.size, .pointer (some ⟨w.heap.size, 0, none⟩), ?_, fun ρ' hext hp => ⟨⟨?_, trivial⟩, ?_⟩⟩⟩
    · simp [execOp, ho, Instr.box, newVar, run_newRow]
    · simp only [VR]; exact ⟨_, hp, rfl⟩
    · obtain ⟨f1, f2⟩ := (hok.mono hext).flat hl
      exact obr_new f1 f2
  simp only [sop] at h
  split at h
  · rename_i cs e1
    cases h
    refine main (by rw [e1]; rfl) rfl (by rw [e1]; rfl)
  · rename_i e1
    split at h
    · rename_i h1
      cases h
      refine main ?_ rfl ?_
      · generalize y.ev t = s at *
        cases s with
        | sc s => cases s <;> simp_all [SV.lay, SV.one]
        | tup => simp [SV.one] at h1
        | _ => rfl
      · generalize y.ev t = s at *
        cases s with
        | agg cs => exact absurd rfl (e1 cs)
        | _ => rfl
    · cases h

theorem zeros_ok {zs : List SV} {Z : Array Value} (h : OKs w0 ρ zs Z.toList) (h0 : 0 < zs.length) : ∀ len : Nat, OKs w0 ρ (List.replicate len zs).flatten ((Array.range (len * zs.length)).map fun i => Z[i % Z.size]!).toList := by
  have hl := h.len
  intro len
  rw [Array.toList_map, Array.toList_range]
  induction len with
  | zero => simpa [OKs, wfs] using VRs.nil
  | succ n ih =>
    rw [List.replicate_succ', List.flatten_append, show (n + 1) * zs.length = n * zs.length + zs.length by rw [Nat.add_mul]; omega, List.range_add, List.map_append]
    refine ih.append ?_
    simp only [List.flatten_cons, List.flatten_nil, List.append_nil, List.map_map]
    have : List.map ((fun i => Z[i % Z.size]!) ∘ fun x => n * zs.length + x) (List.range zs.length) = Z.toList := by
      apply List.ext_getElem?
      intro j
      simp only [List.getElem?_map, Function.comp_apply]
      by_cases hj : j < zs.length
      · rw [List.getElem?_range hj]
        have hjz : j < Z.size := by simp at hl; omega
        simp only [Option.map_some, Function.comp_apply]
        rw [show Z.size = zs.length by simp at hl; omega, Nat.mul_comm, Nat.mul_add_mod, Nat.mod_eq_of_lt hj]
        simp [hjz]
      · rw [List.getElem?_eq_none (by simp; omega), List.getElem?_eq_none (by simp at hl ⊢; omega)]
        rfl
    rw [this]
    exact h

theorem l_buildSl {ty e : TypeId} {len s : Nat} {parts : Array (Nat × Operand)} (ho : o.op = .buildSlice ty len parts) (hu : P.underlying ty = some (.slice e)) (hs : szT P e = some s) {zs : List SV} (hz : zsT P e = some zs)
    (h0 : 0 < s) (hzl : zs.length = s) (hb : len * s ≤ 2 ^ 24) {l' : List (Nat × Nat × Opd)} (hc : compParts (fun i => some (i * s, s)) parts.toList = some l') (k : TR w0 ρ t N a.tmps)
    (h : sop (.buildSl s (List.replicate len zs).flatten len l') t σ = some (v, σ')) : Lays P w0 ρ σ a o v σ' := by
  simp only [sop, Option.map_eq_some_iff, Prod.mk.injEq] at h
  obtain ⟨cs, h2, rfl, rfl⟩ := h
  obtain ⟨i, z, e1, e2, kz, hone⟩ := zsT_ok (w0 := w0) (ρ := ρ) hz
  have hone' : allOne (List.replicate len zs).flatten := by
    intro c hcm
    obtain ⟨l, hl, hm⟩ := List.mem_flatten.1 hcm
    rw [(List.mem_replicate.1 hl).2] at hm
    exact hone c hm
  have hzr := zeros_ok kz (by omega) len
  rw [hzl] at hzr
  obtain ⟨A', q1, q2, q3⟩ := fill_ok k _ _ _ _ _ hc hzr hone' h2
  have hl := q2.len
  have hcs : ∀ (l' : List (Nat × Nat × Opd)) (cs cs' : List SV), fillParts t cs l' = some cs' → cs'.length = cs.length := by
    intro l'
    induction l' with
    | nil => intro cs cs' h; simp only [fillParts, Option.some.injEq] at h; rw [h]
    | cons p r ih =>
      intro cs cs' h
      obtain ⟨off, n, x⟩ := p
      simp only [fillParts] at h
      split at h
      · rename_i hc
        rw [ih _ _ h]; rw [paste_def]; simp; omega
      · cases h
  have hcl := hcs _ _ _ h2
  have hfl : (List.replicate len zs).flatten.length = len * s := by simp [hzl]
  have hnb : ¬ (len * s > 2 ^ 24) := by omega
  have hmap : (parts.map fun (i, x) => (i, a.eval x)).toList = parts.toList.map fun p => (p.1, a.eval p.2) := by simp
  have hzsz : z.cells.size = s := by have := kz.len; simp at this; omega
  refine ⟨_, rfl, fun w => ⟨.cells A' e, A'.size, .slice (some ⟨w.heap.size, 0, none⟩) len len, ?_, fun ρ' hext hp => ⟨⟨?_, trivial⟩, obr_new (q2.mono hext) q3⟩⟩⟩
  · by_cases hz0 : len * s = 0
    · have harr : ((Array.range (len * s)).map fun x => (#[] : Array Value)[x % (#[] : Array Value).size]!) = (Array.range (len * s)).map (fun i => z.cells[i % z.cells.size]!) := by simp [hz0]
      simp only [execOp, ho, Instr.buildSlice, Sem.run_bind, run_underlying hu, Result.andThen_ok, run_sizeOf hs, Sem.run_ite, hnb, if_false, if_pos hz0, Sem.run_pure, harr, hmap, q1, run_newRow]
    · simp only [execOp, ho, Instr.buildSlice, Sem.run_bind, run_underlying hu, Result.andThen_ok, run_sizeOf hs, Sem.run_ite, hnb, if_false, if_neg hz0, Sem.run_pure, zeroValue, typeInfo, run_program, e1, e2, hmap, q1, run_newRow]
  · simp only [VR]
    exact ⟨_, len, 0, hp, rfl, .inl rfl, Nat.le_refl _, h0, fun _ => by simp at hl ⊢; omega⟩

theorem wrap_small {n : Int} (h0 : 0 ≤ n) (h1 : n ≤ 2 ^ 40) : IntKind.i64.wrap n = n := by
  unfold IntKind.wrap
  simp [IntKind.bits, IntKind.signed]
  omega

theorem l_mksl {ty e : TypeId} {s b : Nat} {l c : Operand} (ho : o.op = .makeSlice ty l c) (hu : P.underlying ty = some (.slice e)) (hs : szT P e = some s) (hby : byT P e = some b) {zs : List SV} (hz : zsT P e = some zs)
    (h0 : 0 < s) (hzl : zs.length = s) {l' c' : Opd} (hl : compOpd l = some l') (hc : compOpd c = some c') (k : TR w0 ρ t N a.tmps)
    (h : sop (.mksl s b zs l' c') t σ = some (v, σ')) : Lays P w0 ρ σ a o v σ' := by
  simp only [sop] at h
  split at h
  · rename_i x y e1 e2
    split at h
    · rename_i hcond
      obtain ⟨c1, c2, c3, c4⟩ := hcond
      cases h
      obtain ⟨k1, hL⟩ := (opd_ok hl k).intOf e1
      obtain ⟨k2, hC⟩ := (opd_ok hc k).intOf e2
      obtain ⟨i, z, e1', e2', kz, hone⟩ := zsT_ok (w0 := w0) (ρ := ρ) hz
      have hone' : allOne (List.replicate y.toNat zs).flatten := by
        intro c hcm
        obtain ⟨l, hl, hm⟩ := List.mem_flatten.1 hcm
        rw [(List.mem_replicate.1 hl).2] at hm
        exact hone c hm
      have hzr := zeros_ok kz (by omega) y.toNat
      rw [hzl] at hzr
      have hlen := hzr.len
      unfold byT at hby
      obtain ⟨i2, f1, f2⟩ := Option.map_eq_some_iff.1 hby
      rw [e1'] at f1; cases f1
      subst f2
      have w1 := wrap_small c1 (Int.le_trans c2 c4)
      have w2 := wrap_small (Int.le_trans c1 c2) c4
      have t1 : ¬ (y < 0) := by omega
      have t2 : ¬ ((i.bytes : Int) * y > 2 ^ 48) := by rw [Int.mul_comm]; omega
      refine ⟨_, rfl, fun w => ⟨.cells ((Array.range (y.toNat * s)).map fun j => z.cells[j % z.cells.size]!) e, ((Array.range (y.toNat * s)).map fun j => z.cells[j % z.cells.size]!).size, .slice (some ⟨w.heap.size, 0, none⟩) x.toNat y.toNat, ?_, fun ρ' hext hp => ⟨⟨?_, trivial⟩, obr_new (hzr.mono hext) hone'⟩⟩⟩
      · have hroom : (askRoom (y.toNat * i.bytes)).run P w = .ok () w := by unfold askRoom; split <;> simp [mark, Sem.run]
        have ht : (typeInfo e).run P w = .ok i w := by simp [typeInfo, e1']
        have hcondf : ((decide (y < 0) || decide ((i.bytes : Int) * y > 2 ^ 48)) || decide (x < 0) || decide (x > y)) = false := by
          simp only [decide_eq_false t1, decide_eq_false t2, decide_eq_false (show ¬ x < 0 by omega), decide_eq_false (show ¬ x > y by omega)]; rfl
        by_cases hz0 : y.toNat * s = 0
        · have harr : ((Array.range (y.toNat * s)).map fun x => (#[] : Array Value)[x % (#[] : Array Value).size]!) = (Array.range (y.toNat * s)).map (fun i => z.cells[i % z.cells.size]!) := by simp [hz0]
          simp only [execOp, ho, hL, hC, Instr.makeSlice, asInt, asIntOf, Sem.run_bind, run_underlying hu, Result.andThen_ok, Sem.run_pure, ht, w1, w2, Sem.run_ite]
          simp only [hcondf, Bool.false_eq_true, if_false, Result.andThen_ok, hroom, run_sizeOf hs, if_pos hz0, Sem.run_pure, harr, run_newRow]
        · simp only [execOp, ho, hL, hC, Instr.makeSlice, asInt, asIntOf, Sem.run_bind, run_underlying hu, Result.andThen_ok, Sem.run_pure, ht, w1, w2, Sem.run_ite]
          simp only [hcondf, Bool.false_eq_true, if_false, Result.andThen_ok, hroom, run_sizeOf hs, if_neg hz0, Sem.run_bind, Sem.run_pure, zeroValue, typeInfo, run_program, e1', e2', run_newRow]
      · simp only [VR]
        refine ⟨_, y.toNat, 0, hp, rfl, .inl rfl, by omega, h0, fun _ => by simp⟩
    · cases h
  · cases h

theorem l_mkmap {ty : TypeId} (ho : o.op = .makeMap ty none) (h : sop .mkmap t σ = some (v, σ')) : Lays P w0 ρ σ a o v σ' := by
  simp only [sop, Option.some.injEq, Prod.mk.injEq] at h
  obtain ⟨rfl, rfl⟩ := h
  refine ⟨_, rfl, fun w => ⟨.map #[] 0, 0, .map (some w.heap.size), ?_, fun ρ' hext hp => ⟨⟨?_, trivial⟩, ?_⟩⟩⟩
  · simp [execOp, ho, Instr.makeMap]
  · simp only [VR]; exact ⟨_, hp, rfl⟩
  · exact ⟨#[], 0, World.alloc_heap_new w _, rfl⟩
end
end Go.Proofs.Ytojjhcgbbmknmaa.Sh

/- append. -/
namespace Go.Proofs.Ytojjhcgbbmknmaa.Sh
set_option linter.unusedSimpArgs false
set_option linter.unusedVariables false
open Go Go.RowKit

section
variable {P : Program} {w0 : World} {ρ : Rho} {N : Nat} {t : Tr SV} {σ σ' : St} {a : Act} {o : Oper} {v : SV} {so : SOp}

/-- What is appended, or copied: its cells. -/
theorem row_ok {w : World} {s : SV} {y : Value} {m : Nat} {new : List SV} (sr : SR P w0 ρ σ w) (h : OK w0 ρ s y) (hr : rowSV σ s = some new) (hl : lenSV s = some m) :
    (y = .slice none 0 0 ∧ m = 0 ∧ new = []) ∨ ∃ A c us, y = .slice (some A) m c ∧ OKs w0 ρ new us ∧ allOne new ∧ ∀ j u, us[j]? = some u → w.cell? (A.add j) = some u := by
  unfold rowSV at hr
  split at hr
  · cases hr
    simp only [lenSV, Option.some.injEq] at hl
    exact .inl ⟨by simpa only [VR, Sc.val] using h.1, hl.symm, rfl⟩
  · rename_i len sz cells
    cases hr
    simp only [lenSV, Option.some.injEq] at hl
    subst hl
    obtain ⟨A, cap, vs, h1, h2, h3, h4, h5⟩ := (by simpa only [VR] using h.1 : ∃ A cap vs, y = .slice (some A) len cap ∧ len ≤ cap ∧ VRs w0 ρ new vs ∧ Lies w0 ρ A vs ∧ new.length = len * sz ∧ 0 < sz)
    have hwf := h.2
    simp only [SV.wf] at hwf
    refine .inr ⟨A, cap, vs, h1, ⟨h3, hwf.2⟩, hwf.1, fun j u hj => ?_⟩
    obtain ⟨b, off, sp⟩ := A
    obtain ⟨h67, h8⟩ := h4
    have h6 := h67 (by rintro rfl; simp at hj)
    simp only at h6; subst h6
    rw [Addr.add_lit]
    exact sr.lies (h8 j u hj)
  · rename_i id off len sz
    simp only [lenSV, Option.some.injEq] at hl
    subst hl
    obtain ⟨cs, h1, h2⟩ := Option.bind_eq_some_iff.1 hr
    obtain ⟨hle, rfl⟩ := cut_eq h2
    obtain ⟨p, cap, oo, k1, k2, k3, k4, k5, k6⟩ := (by simpa only [VR] using h.1 : ∃ p cap oo, ρ id = some p ∧ y = .slice (some ⟨p.blk, oo, none⟩) len cap ∧ (oo = p.base + off ∨ cap = 0) ∧ len ≤ cap ∧ 0 < sz ∧ (0 < cap → p.base + off + cap * sz ≤ p.size))
    have hg : σ.get id = some (.cells cs) := by
      unfold cellsOf at h1
      split at h1 <;> first | (cases h1; assumption) | cases h1
    have hob := sr.obs id p k1
    rw [hg] at hob
    obtain ⟨A, e, hb, hs, hfit, hcs, hone⟩ := hob
    refine .inr ⟨_, cap, _, k2, (hcs.drop off).take (len * sz), allOne_take (allOne_drop hone), fun j u hj => ?_⟩
    rw [Addr.add_lit, cell_of_block hb]
    simp only [List.getElem?_take, List.getElem?_drop] at hj
    split at hj
    · rename_i hlt
      split at hj
      · have hc0 : cap ≠ 0 := by
          intro e0
          have : len = 0 := by omega
          rw [this, Nat.zero_mul] at hlt; omega
        have : oo = p.base + off := by rcases k3 with k3 | k3 <;> omega
        subst this
        rw [← Array.getElem?_toList, ← hj]; congr 1; omega
      · cases hj
    · cases hj
  · cases hr

theorem run_append_zero {w : World} {ty ty' e : TypeId} (hu : P.underlying ty = some (.slice e)) {n : Nat} (hs : szT P e = some n) {p q : Option Addr} {len cap c : Nat} (h : len ≤ cap) :
    (Builtin.append_ #[ty, ty] ty' #[.slice p len cap, .slice q 0 c]).run P w = .ok (.slice p len cap) w := by
  have hl : ∀ (x : Addr), (loadCells x 0).run P w = .ok #[] w := fun x => by simpa using run_loadCells_list (P := P) w x [] (by simp)
  cases p <;> cases q <;> simp [Builtin.append_, run_underlying hu, run_sizeOf hs, Builtin.lenOf, Builtin.firstCells, h, hl, storeCells]

theorem run_append_room' {w : World} {ty ty' e : TypeId} (hu : P.underlying ty = some (.slice e)) {n : Nat} (hs : szT P e = some n) {b off len cap : Nat} {A : Array Value} {e' : TypeId} (hb : w.heap[b]? = some (.cells A e' (0, 0)))
    {q : Addr} {m c : Nat} {us : List Value} (hl : us.length = m * n) (hc : ∀ j u, us[j]? = some u → w.cell? (q.add j) = some u) (h1 : ∀ u ∈ us, u.oneCell' = true) (hroom : len + m ≤ cap) (hfit : off + len * n + us.length ≤ A.size) :
    (Builtin.append_ #[ty, ty] ty' #[.slice (some ⟨b, off, none⟩) len cap, .slice (some q) m c]).run P w =
      .ok (.slice (some ⟨b, off, none⟩) (len + m) cap) (w.setRow b (A.toList.take (off + len * n) ++ us ++ A.toList.drop (off + len * n + us.length)).toArray) := by
  have hfc := run_firstCells_some (P := P) w n m q m c us hl hc
  have hst := run_storeCells_at P b (off + len * n) e' us 0 A w hb (by simpa using hfit) h1
  simp only [Nat.add_zero] at hst
  generalize hW : w.setRow b (A.toList.take (off + len * n) ++ us ++ A.toList.drop (off + len * n + us.length)).toArray = W at hst
  simp [Builtin.append_, run_underlying hu, run_sizeOf hs, Builtin.lenOf, hroom, hfc, Addr.add_lit, hst]

/-- The row of an 'append' that the shadow takes as a new one, the old one being done with. -/
theorem Step1.moved {w w' : World} (h : SR P w0 ρ σ w) {id : Nat} {p : Pl} {cs : List SV} (hp : ρ id = some p) (hlive : σ.get id ≠ some .dead) {o : Obj} (hw : w'.heap.size = w.heap.size) (hb : w'.heap[p.blk]? = some o)
    (ho : ∀ k, k ≠ p.blk → w'.heap[k]? = w.heap[k]?) (hos : w'.os = w.os) (hta : w'.tape = w.tape) (hou : w'.output = w.output) {q : Pl} (hq : q.blk = p.blk)
    (hob : ObR P w0 (ρ.put σ.next q) q w' (some (.cells cs))) (hlo : ∀ r : Loop, w.heap[p.blk]? = some (Obj.loop r) → ∃ r' : Loop, o = Obj.loop r') : Step1 P w0 ρ σ w (ρ.put σ.next q) ((σ.set id .dead).push (.cells cs)) w' := by
  have k1 := SR.write (w' := w') h (ob := .dead) hp hlive hw hb ho hos hta hou trivial hlo
  have hn : ρ σ.next = none := by
    cases e : ρ σ.next with
    | none => rfl
    | some p => have := h.dom _ _ e; omega
  have hext : Ext ρ (ρ.put σ.next q) := Ext.put hn
  have s1 := k1.sr
  have hd := h.dom id p hp
  have dead : (σ.set id .dead).get id = some .dead := by rw [St.get_set, if_pos rfl]
  have old : ∀ i r, ρ i = some r → ((σ.set id .dead).push (.cells cs)).get i = (σ.set id .dead).get i := fun i r e => by
    have := h.dom i r e
    rw [St.get_push, if_neg (by simp; omega)]
  have new : ((σ.set id .dead).push (.cells cs)).get σ.next = some (.cells cs) := by rw [St.get_push, if_pos (by simp)]
  have onlyid : ∀ j r, ρ j = some r → r.blk = p.blk → (σ.set id .dead).get j = some .dead := fun j r e hr => by
    by_cases hj : j = id
    · rw [hj]; exact dead
    · rcases h.inj j id r p e hp hr hj with h1 | h1
      · rw [St.get_set, if_neg hj]; exact h1
      · exact absurd h1 hlive
  refine ⟨⟨s1.below, fun i r e => ?_, fun i j r s ei ej hrs hij => ?_, fun i r e => ?_, fun i hi => ?_, fun a v e => ?_⟩, hext, by simp, k1.size, fun i r e => ?_, fun i r e hi => ?_, k1.frame, fun i hi hin => ?_, k1.loops, fun _ _ h => .inl h⟩
  · simp only [Rho.put] at e
    split at e
    · rename_i hi; subst hi; cases e
      exact ⟨by simp, by rw [hq]; exact hd.2.1, by rw [hq, hw]; exact hd.2.2⟩
    · have := s1.dom i r e
      exact ⟨by simp at this ⊢; omega, this.2⟩
  · simp only [Rho.put] at ei ej
    split at ei
    · split at ej
      · rename_i h1 h2; exact absurd (h1.trans h2.symm) hij
      · cases ei
        right
        rw [old j s ej]
        exact onlyid j s ej (hrs.symm.trans hq)
    · split at ej
      · cases ej
        left
        rw [old i r ei]
        exact onlyid i r ei (hrs.trans hq)
      · rw [old i r ei, old j s ej]
        exact s1.inj i j r s ei ej hrs hij
  · simp only [Rho.put] at e
    split at e
    · rename_i hi; subst hi; cases e
      rw [new]; exact hob
    · rw [old i r e]
      exact (s1.obs i r e).mono hext
  · simp at hi
    rw [St.get_push, if_neg (by simp; omega)]
    exact s1.fresh i (by simp; omega)
  · obtain ⟨g1, g2⟩ := s1.hold a v e
    refine ⟨g1, fun i r e' => ?_⟩
    simp only [Rho.put] at e'
    split at e'
    · cases e'; rw [hq]; exact g2 _ _ hp
    · exact g2 i r e'
  · simp only [Rho.put] at e
    split at e
    · rename_i hi; subst hi; exact .inr (Nat.le_refl _)
    · exact .inl e
  · simp only [Rho.put] at e
    split at e
    · cases e; exact .inr ⟨id, p, hp, hq.symm⟩
    · rw [hi] at e; cases e
  · rw [St.get_push, if_neg (by simp; omega)]
    exact k1.keep i hi hin

theorem b_append {w : World} {ty e : TypeId} {x y : Operand} (ho : o.op = .call { callee := .builtin .append, args := #[x, y], argTypes := #[ty, ty] }) {n b : Nat} {x' y' : Opd} {zs : List SV} (hu : P.underlying ty = some (.slice e)) (hs : szT P e = some n) (hby : byT P e = some b) (hz : zsT P e = some zs)
    (h0 : 0 < n) (hzl : zs.length = n) (hx : compOpd x = some x') (hy : compOpd y = some y') (sr : SR P w0 ρ σ w) (k : TR w0 ρ t N a.tmps)
    (h : sop (.append n b zs x' y') t σ = some (v, σ')) : ∃ u w' ρ', (execOp a.eval o).run P w = .ok (.value u) w' ∧ OK w0 ρ' v u ∧ Step1 P w0 ρ σ w ρ' σ' w' := by
  simp only [sop] at h
  obtain ⟨new, hnew, h⟩ := Option.bind_eq_some_iff.1 h
  obtain ⟨m, hm, h⟩ := Option.bind_eq_some_iff.1 h
  have hX := opd_ok hx k
  have hY := opd_ok hy k
  have hrow := row_ok sr hY hnew hm
  have fin : ∀ u W, (Builtin.append_ #[ty, ty] o.type #[a.eval x, a.eval y]).run P w = .ok u W → (execOp a.eval o).run P w = .ok (.value u) W := fun u W hr => by
    simp [execOp, ho, resolve, invoke, Go.builtin, hr]
  obtain ⟨i, z, e1, e2, kz, hzone⟩ := zsT_ok (w0 := w0) (ρ := ρ) hz
  unfold byT at hby
  obtain ⟨i2, f1, f2⟩ := Option.map_eq_some_iff.1 hby
  rw [e1] at f1; cases f1
  have hsi : i.size = n := by
    unfold szT at hs
    obtain ⟨i3, g1, g2⟩ := Option.map_eq_some_iff.1 hs
    rw [e1] at g1; cases g1; exact g2
  have hzc : z.cells.size = n := by have := kz.len; simp at this; omega
  split at h
  · -- of nil
    rename_i hx0
    have hxv : a.eval x = .slice none 0 0 := by have := hX.1; rw [hx0] at this; simpa only [VR, Sc.val] using this
    split at h
    · rename_i hm0
      cases h
      subst hm0
      have hyv : ∃ q c, a.eval y = .slice q 0 c := by
        rcases hrow with ⟨h1, _, _⟩ | ⟨A, c, us, h1, _⟩
        · exact ⟨_, _, h1⟩
        · exact ⟨_, _, h1⟩
      obtain ⟨q, c, hyv⟩ := hyv
      exact ⟨_, w, ρ, fin _ _ (by rw [hxv, hyv]; exact run_append_zero hu hs (Nat.le_refl _)), OK.mk_sc (s := .nilsl), Step1.refl sr⟩
    · rename_i hm0
      split at h
      · rename_i hcond
        obtain ⟨c1, c2, c3⟩ := hcond
        cases h
        rcases hrow with ⟨_, h1, _⟩ | ⟨A, c, us, h1, h2, h3, h4⟩
        · exact absurd h1 hm0
        · have hul := h2.len
          have hr := run_append_nil (P := P) w ty o.type e i z hu e1 e2 A m c us (by rw [hsi, hul, c1]) h4 (by omega) (by omega) (by rw [f2]; omega)
          have hcap := grownCap_ge w m 0 e
          refine ⟨_, _, _, fin _ _ (by rw [hxv, h1]; exact hr), ?_, Step1.trans (Step1.drew sr) (Step1.new sr.drew (.cells new) (n := (us.toArray ++ Builtin.zeroCells z.cells (grownCap w m 0 e - m)).size) ?_)⟩
          · refine ⟨?_, trivial⟩
            simp only [VR]
            refine ⟨_, grownCap w m 0 e, 0, Rho.put_self _ _ _, rfl, .inl rfl, hcap, h0, fun _ => ?_⟩
            simp only [Array.size_append, List.size_toArray, size_zeroCells, hul, c1, hzc, Nat.zero_add]
            rw [← Nat.add_mul]
            exact Nat.mul_le_mul_right _ (by omega)
          · refine ⟨_, e, World.alloc_heap_new w.drew _, rfl, by simp [hul], ?_, h3⟩
            have : List.take new.length (List.drop 0 (us.toArray ++ Builtin.zeroCells z.cells (grownCap w m 0 e - m)).toList) = us := by
              rw [List.drop_zero, Array.toList_append, ← hul]
              simp
            rw [this]
            exact h2.mono (Ext.put (by
              cases e : ρ σ.next with
              | none => rfl
              | some p => have := sr.dom _ _ e; omega))
      · cases h
  · -- of a slice of the shadow's own
    rename_i id off len sz' hx0
    obtain ⟨cs, h1, h⟩ := Option.bind_eq_some_iff.1 h
    obtain ⟨old, h2, h⟩ := Option.bind_eq_some_iff.1 h
    split at h
    · rename_i hcond
      obtain ⟨rfl, c1, c2, c3⟩ := hcond
      cases h
      obtain ⟨hle, rfl⟩ := cut_eq h2
      rw [hx0] at hX
      obtain ⟨p, cap, oo, k1, k2, k3, k4, k5, k6⟩ := (by simpa only [VR] using hX.1 : ∃ p cap oo, ρ id = some p ∧ a.eval x = .slice (some ⟨p.blk, oo, none⟩) len cap ∧ (oo = p.base + off ∨ cap = 0) ∧ len ≤ cap ∧ 0 < sz' ∧ (0 < cap → p.base + off + cap * sz' ≤ p.size))
      have hg : σ.get id = some (.cells cs) := by
        unfold cellsOf at h1
        split at h1 <;> first | (cases h1; assumption) | cases h1
      have hlive : σ.get id ≠ some .dead := by rw [hg]; simp
      have hob := sr.obs id p k1
      rw [hg] at hob
      obtain ⟨A, e', hb, hsz, hfit, hcs, hone⟩ := hob
      have hold := (hcs.drop off).take (len * sz')
      have holdone := allOne_take (n := len * sz') (allOne_drop (n := off) hone)
      have hn : ρ σ.next = none := by
        cases e : ρ σ.next with
        | none => rfl
        | some p => have := sr.dom _ _ e; omega
      have holdl : ((cs.drop off).take (len * sz')).length = len * sz' := by simp; omega
      -- a source with cells, or none
      by_cases hm0 : m = 0
      · -- nothing is added: it stays
        subst hm0
        have hyv : ∃ q c, a.eval y = .slice q 0 c := by
          rcases hrow with ⟨h1, _, _⟩ | ⟨A, c, us, h1, _⟩
          · exact ⟨_, _, h1⟩
          · exact ⟨_, _, h1⟩
        obtain ⟨q, c, hyv⟩ := hyv
        have hnil : new = [] := by rw [Nat.zero_mul] at c1; exact List.eq_nil_of_length_eq_zero c1
        subst hnil
        refine ⟨_, w, ρ.put σ.next ⟨p.blk, p.base + off, p.size⟩, fin _ _ (by rw [k2, hyv]; exact run_append_zero hu hs k4), ?_, ?_⟩
        · refine ⟨?_, trivial⟩
          simp only [VR, Nat.add_zero]
          exact ⟨_, cap, oo, Rho.put_self _ _ _, rfl, k3, k4, k5, k6⟩
        · refine Step1.moved sr k1 hlive rfl hb (fun _ _ => rfl) rfl rfl rfl rfl ?_ (fun r hr => by rw [hb] at hr; cases hr)
          refine ⟨A, e', hb, hsz, by simp; omega, ?_, by simpa using holdone⟩
          have : List.take ((cs.drop off).take (len * sz') ++ []).length (A.toList.drop (p.base + off)) = (((A.toList.drop p.base).take cs.length).drop off).take (len * sz') := by
            rw [List.append_nil, holdl, List.drop_take, List.take_take, List.drop_drop]
            congr 1; omega
          rw [this, List.append_nil]
          exact hold.mono (Ext.put hn)
      · rcases hrow with ⟨_, g1, _⟩ | ⟨Q, c, us, g1, g2, g3, g4⟩
        · exact absurd g1 hm0
        · have hul := g2.len
          have husl : us.length = m * sz' := by omega
          by_cases hroom : len + m ≤ cap
          · have hc0 : cap ≠ 0 := by omega
            have hoo : oo = p.base + off := by rcases k3 with k3 | k3 <;> omega
            subst hoo
            have hcs6 := k6 (by omega)
            have hmul : (len + m) * sz' ≤ cap * sz' := Nat.mul_le_mul_right _ hroom
            rw [Nat.add_mul] at hmul
            have hr := run_append_room' (P := P) (w := w) (ty' := o.type) (c := c) hu hs hb husl g4 (VRs.all_one g2.1 g3) hroom (len := len) (off := p.base + off) (by rw [husl, hsz]; omega)
            have hsr := setRow_heap w p.blk A (A.toList.take (p.base + off + len * sz') ++ us ++ A.toList.drop (p.base + off + len * sz' + us.length)).toArray e' _ hb
            refine ⟨_, _, ρ.put σ.next ⟨p.blk, p.base + off, p.size⟩, fin _ _ (by rw [k2, g1]; exact hr), ?_, ?_⟩
            · refine ⟨?_, trivial⟩
              simp only [VR]
              exact ⟨_, cap, p.base + off, Rho.put_self _ _ _, rfl, .inl rfl, hroom, k5, k6⟩
            · refine Step1.moved sr k1 hlive (by simp [World.setRow]) hsr (fun k hk => setRow_other w p.blk k _ hk) rfl rfl rfl rfl ?_ (fun r hr => by rw [hb] at hr; cases hr)
              refine ⟨_, e', hsr, by simp; omega, by simp; omega, ?_, allOne_append holdone g3⟩
              have : List.take ((cs.drop off).take (len * sz') ++ new).length (List.drop (p.base + off) (A.toList.take (p.base + off + len * sz') ++ us ++ A.toList.drop (p.base + off + len * sz' + us.length)).toArray.toList) =
                  (((A.toList.drop p.base).take cs.length).drop off).take (len * sz') ++ us := by
                rw [List.length_append, holdl, ← hul, List.toList_toArray]
                rw [List.append_assoc, List.drop_append_of_le_length (by simp; omega), ← List.append_assoc]
                rw [List.take_append_of_le_length (by simp; omega)]
                rw [List.take_of_length_le (by simp; omega)]
                congr 1
                rw [List.drop_take, List.drop_take, List.take_take, List.drop_drop]
                congr 1; omega
              rw [this]
              exact (hold.append g2).mono (Ext.put hn)
          · have hg63 : ((len + m : Nat) : Int) ≤ 9223372036854775807 := by omega
            have hcells : ∀ j u, ((((A.toList.drop p.base).take cs.length).drop off).take (len * sz'))[j]? = some u → w.cell? ((⟨p.blk, oo, none⟩ : Addr).add j) = some u := by
              intro j u hj
              rw [Addr.add_lit, cell_of_block hb]
              simp only [List.getElem?_take, List.getElem?_drop] at hj
              split at hj
              · rename_i hlt
                split at hj
                · have hc0 : cap ≠ 0 := by
                    intro e0
                    have : len = 0 := by omega
                    rw [this, Nat.zero_mul] at hlt; omega
                  have : oo = p.base + off := by rcases k3 with k3 | k3 <;> omega
                  subst this
                  rw [← Array.getElem?_toList, ← hj]; congr 1; omega
                · cases hj
              · cases hj
            have hr := run_append_grow (P := P) w ty o.type e i z hu e1 e2 ⟨p.blk, oo, none⟩ len cap _ (by rw [hold.len, holdl, hsi]) hcells Q m c us (by rw [hsi, husl]) g4 (by omega) hg63 (growslice_fits (by omega) (by rw [f2]; omega))
            have hcap := grownCap_ge w (len + m) cap e
            -- the old row is done with, the new one lies in a block of its own
            have s1 := SR.write (w' := w) sr (ob := .dead) k1 hlive rfl hb (fun _ _ => rfl) rfl rfl rfl trivial (fun r hr => by rw [hb] at hr; cases hr)
            have s2 := Step1.drew s1.sr
            have hlo := hold.len
            generalize (((A.toList.drop p.base).take cs.length).drop off).take (len * sz') = olds at *
            refine ⟨_, _, _, fin _ _ (by rw [k2, g1]; exact hr), ?_, (s1.trans s2).trans (Step1.new s2.sr (.cells ((cs.drop off).take (len * sz') ++ new)) (n := (olds.toArray ++ us.toArray ++ Builtin.zeroCells z.cells (grownCap w (len + m) cap e - (len + m))).size) ?_)⟩
            · refine ⟨?_, trivial⟩
              simp only [VR]
              refine ⟨_, grownCap w (len + m) cap e, 0, Rho.put_self _ _ _, rfl, .inl rfl, hcap, h0, fun _ => ?_⟩
              simp only [Array.size_append, List.size_toArray, size_zeroCells, hlo, holdl, husl, hzc, Nat.zero_add]
              rw [← Nat.add_mul, ← Nat.add_mul]
              exact Nat.mul_le_mul_right _ (by omega)
            · refine ⟨_, e, World.alloc_heap_new w.drew _, rfl, by simp [hul]; omega, ?_, allOne_append holdone g3⟩
              have : List.take ((cs.drop off).take (len * sz') ++ new).length (List.drop 0 (olds.toArray ++ us.toArray ++ Builtin.zeroCells z.cells (grownCap w (len + m) cap e - (len + m))).toList) = olds ++ us := by
                rw [List.drop_zero, Array.toList_append, Array.toList_append, List.toList_toArray, List.toList_toArray]
                rw [List.take_append_of_le_length (by simp; omega), List.take_of_length_le (by simp; omega)]
              rw [this]
              exact (hold.append g2).mono (Ext.put hn)
    · cases h
  · cases h
end
end Go.Proofs.Ytojjhcgbbmknmaa.Sh

/- Slices of slices, lengths, maps. -/
namespace Go.Proofs.Ytojjhcgbbmknmaa.Sh
set_option linter.unusedSimpArgs false
set_option linter.unusedVariables false
open Go Go.RowKit

section
variable {P : Program} {w0 : World} {ρ : Rho} {N : Nat} {t : Tr SV} {σ σ' : St} {a : Act} {o : Oper} {v : SV} {so : SOp}

theorem run_sliceBound {w : World} {k : IntKind} {i : Int} {y : Nat} {c : BoundsCode} (h0 : 0 ≤ i) (h1 : i ≤ y) : (Instr.sliceBound (.int k i) y c).run P w = .ok i.toNat w := by
  simp [Instr.sliceBound, asIntOf, h0, h1]

/-- The bounds of a slice expression. -/
theorem run_bounds {w : World} {sl : Bool} {len cap : Nat} {lo hi : Option Operand} {lo' hi' : Option Opd} (hl : optOpd lo = some lo') (hh : optOpd hi = some hi') (k : TR w0 ρ t N a.tmps) (hc : len ≤ cap) {l h : Nat} (hb : bounds len t lo' hi' = some (l, h)) :
    l ≤ h ∧ h ≤ len ∧ (Instr.sliceBounds sl len cap (lo.map a.eval) (hi.map a.eval) none).run P w = .ok (l, h, cap) w := by
  have hi1 : ∀ H : Int, hiI len t hi' = some H → (hi = none ∧ H = len) ∨ ∃ x kd, hi = some x ∧ a.eval x = .int kd H := by
    intro H e
    cases hi with
    | none =>
      simp only [optOpd, Option.some.injEq] at hh
      subst hh
      simp only [hiI, Option.some.injEq] at e
      exact .inl ⟨rfl, e.symm⟩
    | some x =>
      simp only [optOpd, Option.map_eq_some_iff] at hh
      obtain ⟨y, hy, rfl⟩ := hh
      obtain ⟨kd, hv⟩ := (opd_ok hy k).intOf e
      exact .inr ⟨x, kd, rfl, hv⟩
  have lo1 : ∀ L : Int, loI t lo' = some L → (lo = none ∧ L = 0) ∨ ∃ x kd, lo = some x ∧ a.eval x = .int kd L := by
    intro L e
    cases lo with
    | none =>
      simp only [optOpd, Option.some.injEq] at hl
      subst hl
      simp only [loI, Option.some.injEq] at e
      exact .inl ⟨rfl, e.symm⟩
    | some x =>
      simp only [optOpd, Option.map_eq_some_iff] at hl
      obtain ⟨y, hy, rfl⟩ := hl
      obtain ⟨kd, hv⟩ := (opd_ok hy k).intOf e
      exact .inr ⟨x, kd, rfl, hv⟩
  unfold bounds at hb
  split at hb
  · rename_i L H eL eH
    split at hb
    · rename_i hc1
      simp only [Option.some.injEq, Prod.mk.injEq] at hb
      obtain ⟨rfl, rfl⟩ := hb
      obtain ⟨h1, h2, h3⟩ := hc1
      refine ⟨by omega, by omega, ?_⟩
      have rb : ∀ (kd : IntKind) (c : BoundsCode), (Instr.sliceBound (.int kd H) cap c).run P w = .ok H.toNat w := fun kd c => run_sliceBound (by omega) (by omega)
      have rl : ∀ (kd : IntKind) (c : BoundsCode) (n : Nat), L ≤ n → (Instr.sliceBound (.int kd L) n c).run P w = .ok L.toNat w := fun kd c n hn => run_sliceBound h1 hn
      rcases hi1 H eH with ⟨rfl, rfl⟩ | ⟨x, kd, rfl, hv⟩ <;> rcases lo1 L eL with ⟨rfl, rfl⟩ | ⟨y, kd', rfl, hv'⟩
      · simp [Instr.sliceBounds]
      · simp [Instr.sliceBounds, hv', rl kd' _ len (by omega)]
      · simp [Instr.sliceBounds, hv, rb]
      · simp [Instr.sliceBounds, hv, hv', rb, rl kd' _ H.toNat (by omega)]
    · cases hb
  · cases hb

theorem y_slc {ty e : TypeId} {x : Operand} {lo hi : Option Operand} (ho : o.op = .slice ty x lo hi none) {s : Nat} {x' : Opd} {lo' hi' : Option Opd} (hu : P.underlying ty = some (.slice e)) (hs : szT P e = some s) (h0 : 0 < s)
    (hx : compOpd x = some x') (hl : optOpd lo = some lo') (hh : optOpd hi = some hi') (k : TR w0 ρ t N a.tmps) (h : sop (.slc s x' lo' hi') t σ = some (v, σ')) : σ' = σ ∧ Yld P w0 ρ a o v := by
  have hX := opd_ok hx k
  have fin : ∀ (w : World) (p : Option Addr) (len cap l h : Nat), a.eval x = .slice p len cap → (Instr.sliceBounds true len cap (lo.map a.eval) (hi.map a.eval) none).run P w = .ok (l, h, cap) w →
      (execOp a.eval o).run P w = .ok (.value (.slice (if cap = l then p else p.map (·.add (l * s))) (h - l) (cap - l))) w := by
    intro w p len cap l h hxv hb
    simp [execOp, ho, hxv, Instr.sliceAt, Instr.slice, run_underlying hu, hb, run_sizeOf hs]
  simp only [sop] at h
  split at h
  · rename_i hx0
    obtain ⟨⟨l, hh'⟩, hb, h1⟩ := Option.map_eq_some_iff.1 h
    cases h1
    refine ⟨rfl, fun w => ?_⟩
    have hxv : a.eval x = .slice none 0 0 := by have := hX.1; rw [hx0] at this; simpa only [VR, Sc.val] using this
    obtain ⟨b1, b2, b3⟩ := run_bounds (P := P) (w := w) (sl := true) (cap := 0) hl hh k (Nat.le_refl _) hb
    obtain rfl : hh' = 0 := by omega
    obtain rfl : l = 0 := by omega
    exact ⟨_, fin w _ _ _ _ _ hxv b3, OK.mk_sc (s := .nilsl)⟩
  · rename_i id off len sz hx0
    cases hsz : Nat.beq sz s with
    | false => rw [hsz] at h; cases h
    | true =>
    rw [hsz] at h
    obtain rfl := Nat.eq_of_beq_eq_true hsz
    obtain ⟨⟨l, hh'⟩, hb, h1⟩ := Option.map_eq_some_iff.1 h
    cases h1
    refine ⟨rfl, fun w => ?_⟩
    rw [hx0] at hX
    obtain ⟨p, cap, oo, k1, k2, k3, k4, k5, k6⟩ := (by simpa only [VR] using hX.1 : ∃ p cap oo, ρ id = some p ∧ a.eval x = .slice (some ⟨p.blk, oo, none⟩) len cap ∧ (oo = p.base + off ∨ cap = 0) ∧ len ≤ cap ∧ 0 < sz ∧ (0 < cap → p.base + off + cap * sz ≤ p.size))
    obtain ⟨b1, b2, b3⟩ := run_bounds (P := P) (w := w) (sl := true) (cap := cap) hl hh k k4 hb
    refine ⟨_, fin w _ _ _ _ _ k2 b3, ?_, trivial⟩
    simp only [VR]
    by_cases hcl : cap = l
    · rw [if_pos hcl]
      exact ⟨p, cap - l, oo, k1, rfl, .inr (by omega), by omega, k5, fun hpos => by omega⟩
    · rw [if_neg hcl]
      refine ⟨p, cap - l, oo + l * sz, k1, by simp [Addr.add_lit], .inl ?_, by omega, k5, fun hpos => ?_⟩
      · have : oo = p.base + off := by rcases k3 with k3 | k3 <;> omega
        omega
      · have h6 := k6 (by omega)
        have : l * sz + (cap - l) * sz = cap * sz := by rw [← Nat.add_mul]; congr 1; omega
        omega
  · rename_i len sz cells hx0
    cases hsz : Nat.beq sz s with
    | false => rw [hsz] at h; cases h
    | true =>
    rw [hsz] at h
    obtain rfl := Nat.eq_of_beq_eq_true hsz
    obtain ⟨⟨l, hh'⟩, hb, h1⟩ := Option.map_eq_some_iff.1 h
    cases h1
    refine ⟨rfl, fun w => ?_⟩
    rw [hx0] at hX
    obtain ⟨A, cap, vs, k1, k2, k3, k4, k5⟩ := (by simpa only [VR] using hX.1 : ∃ A cap vs, a.eval x = .slice (some A) len cap ∧ len ≤ cap ∧ VRs w0 ρ cells vs ∧ Lies w0 ρ A vs ∧ cells.length = len * sz ∧ 0 < sz)
    obtain ⟨k5, k6⟩ := k5
    obtain ⟨b1, b2, b3⟩ := run_bounds (P := P) (w := w) (sl := true) (cap := cap) hl hh k k2 hb
    have hwf := hX.2
    simp only [SV.wf] at hwf
    refine ⟨_, fin w _ _ _ _ _ k1 b3, ?_, allOne_take (allOne_drop hwf.1), wfs_take (wfs_drop hwf.2)⟩
    simp only [VR]
    have hvr := (k3.drop (l * sz)).take ((hh' - l) * sz)
    have hmul : hh' * sz ≤ len * sz := Nat.mul_le_mul_right _ b2
    have hmul2 : l * sz + (hh' - l) * sz = hh' * sz := by rw [← Nat.add_mul]; congr 1; omega
    have hlen2 : ((cells.drop (l * sz)).take ((hh' - l) * sz)).length = (hh' - l) * sz := by simp; omega
    by_cases hvs : vs = []
    · subst hvs
      refine ⟨if cap = l then A else A.add (l * sz), cap - l, _, by split <;> rfl, by omega, hvr, ⟨fun hne => absurd (by simp) hne, fun i u hi => by simp at hi⟩, hlen2, k6⟩
    · obtain ⟨b, off, sp⟩ := A
      obtain ⟨h67, h8⟩ := k4
      have h6 := h67 hvs
      simp only at h6; subst h6
      by_cases hcl : cap = l
      · rw [if_pos hcl]
        have hz : hh' - l = 0 := by omega
        refine ⟨⟨b, off, none⟩, cap - l, _, rfl, by omega, hvr, ⟨fun _ => rfl, fun i u hi => ?_⟩, hlen2, k6⟩
        rw [hz, Nat.zero_mul, List.take_zero] at hi
        simp at hi
      · rw [if_neg hcl]
        refine ⟨⟨b, off + l * sz, none⟩, cap - l, _, by simp [Addr.add_lit], by omega, hvr, ⟨fun _ => rfl, fun i u hi => ?_⟩, hlen2, k6⟩
        simp only [List.getElem?_take, List.getElem?_drop] at hi
        split at hi
        · have := h8 _ _ hi
          rw [← Nat.add_assoc] at this
          exact this
        · cases hi
  · cases h

theorem r_slcArr {w : World} {ty e : TypeId} {x : Operand} {lo hi : Option Operand} (ho : o.op = .slice ty x lo hi none) {n s : Nat} {x' : Opd} {lo' hi' : Option Opd} (hu : P.underlying ty = some (.array n e)) (hs : szT P e = some s) (h0 : 0 < s)
    (hx : compOpd x = some x') (hl : optOpd lo = some lo') (hh : optOpd hi = some hi') (sr : SR P w0 ρ σ w) (k : TR w0 ρ t N a.tmps) (h : sop (.slcArr n s x' lo' hi') t σ = some (v, σ')) :
    σ' = σ ∧ ∃ u, (execOp a.eval o).run P w = .ok (.value u) w ∧ OK w0 ρ v u := by
  have hX := opd_ok hx k
  simp only [sop] at h
  split at h
  · rename_i id off hx0
    obtain ⟨cs, hcs, h⟩ := Option.bind_eq_some_iff.1 h
    split at h
    · rename_i hfit
      obtain ⟨⟨l, hh'⟩, hb, h1⟩ := Option.map_eq_some_iff.1 h
      cases h1
      refine ⟨rfl, ?_⟩
      rw [hx0] at hX
      obtain ⟨p, k1, k2⟩ := (by simpa only [VR] using hX.1 : ∃ p, ρ id = some p ∧ a.eval x = .pointer (some ⟨p.blk, p.base + off, none⟩))
      have hg : σ.get id = some (.cells cs) := by
        unfold cellsOf at hcs
        split at hcs <;> first | (cases hcs; assumption) | cases hcs
      have hob := sr.obs id p k1
      rw [hg] at hob
      obtain ⟨A, e', hb', hsz, hfit', _, _⟩ := hob
      obtain ⟨b1, b2, b3⟩ := run_bounds (P := P) (w := w) (sl := false) (cap := n) hl hh k (Nat.le_refl _) hb
      refine ⟨.slice (some (if n = l then ⟨p.blk, p.base + off, none⟩ else ⟨p.blk, p.base + off + l * s, none⟩)) (hh' - l) (n - l), ?_, ?_, trivial⟩
      · simp only [execOp, ho, k2, Instr.sliceAt, Sem.run_bind, run_underlying hu, Result.andThen_ok, Instr.sureAddr, Sem.run_pure, Option.map_none, b3, run_sizeOf hs, Addr.add_lit]
      · simp only [VR]
        by_cases hcl : n = l
        · rw [if_pos hcl]
          exact ⟨p, n - l, _, k1, rfl, .inr (by omega), by omega, h0, fun hpos => by omega⟩
        · rw [if_neg hcl]
          refine ⟨p, n - l, _, k1, rfl, .inl (by omega), by omega, h0, fun hpos => ?_⟩
          have : l * s + (n - l) * s = n * s := by rw [← Nat.add_mul]; congr 1; omega
          omega
    · cases h
  · cases h

theorem len_ok {s : SV} {x : Value} {n : Nat} (hX : OK w0 ρ s x) (h1 : lenSV s = some n) : ∃ p c, x = .slice p n c := by
  unfold lenSV at h1
  split at h1
  · cases h1; exact ⟨_, _, by simpa only [VR, Sc.val] using hX.1⟩
  · cases h1
    obtain ⟨A, cap, vs, k1, _⟩ := (by simpa only [VR] using hX.1 : ∃ (A : Addr) (cap : Nat) (vs : List Value), x = .slice (some A) n cap ∧ _)
    exact ⟨_, _, k1⟩
  · cases h1
    obtain ⟨p, cap, oo, _, k2, _⟩ := (by simpa only [VR] using hX.1 : ∃ (p : Pl) (cap oo : Nat), ρ _ = some p ∧ x = .slice (some ⟨p.blk, oo, none⟩) n cap ∧ _)
    exact ⟨_, _, k2⟩
  · cases h1
theorem y_lenSl {ty e : TypeId} {x : Operand} (ho : o.op = .call { callee := .builtin .len, args := #[x], argTypes := #[ty] }) (hu : P.underlying ty = some (.slice e)) {y : Opd} (hx : compOpd x = some y) (k : TR w0 ρ t N a.tmps)
    (h : sop (.lenSl y) t σ = some (v, σ')) : σ' = σ ∧ Yld P w0 ρ a o v := by
  simp only [sop, Option.map_eq_some_iff, Prod.mk.injEq] at h
  obtain ⟨n, h1, rfl, rfl⟩ := h
  obtain ⟨p, c, hv⟩ := len_ok (opd_ok hx k) h1
  exact ⟨rfl, fun w => ⟨.int .i64 n, by simp [execOp, ho, resolve, invoke, Go.builtin, hv, Builtin.len_, run_underlying hu, goInt], OK.mk_int⟩⟩

theorem y_lenArr {ty : TypeId} {x : Operand} {n : Nat} (ho : o.op = .call { callee := .builtin .len, args := #[x], argTypes := #[ty] })
    (hu : (∃ e, P.underlying ty = some (.array n e)) ∨ ∃ q e, P.underlying ty = some (.pointer q) ∧ P.underlying q = some (.array n e)) (h : sop (.lenArr n) t σ = some (v, σ')) : σ' = σ ∧ Yld P w0 ρ a o v := by
  simp only [sop, Option.some.injEq, Prod.mk.injEq] at h
  obtain ⟨rfl, rfl⟩ := h
  refine ⟨rfl, fun w => ⟨.int .i64 n, ?_, OK.mk_int⟩⟩
  rcases hu with ⟨e, hu⟩ | ⟨q, e, hu, hq⟩
  · simp [execOp, ho, resolve, invoke, Go.builtin, Builtin.len_, run_underlying hu, goInt]
  · simp [execOp, ho, resolve, invoke, Go.builtin, Builtin.len_, run_underlying hu, run_underlying hq, goInt]

/-! ### Maps whose keys are whole numbers -/
theorem EntR.len : ∀ {es : List (SV × SV)} {l : List MapEntry}, EntR w0 ρ es l → l.length = es.length
  | [], _, h => by simp only [EntR] at h; subst h; rfl
  | (a, b) :: r, _, h => by
    simp only [EntR] at h
    obtain ⟨e, l, rfl, _, _, h⟩ := h
    simp [EntR.len h]

theorem r_lenMap {w : World} {ty kt e : TypeId} {x : Operand} (ho : o.op = .call { callee := .builtin .len, args := #[x], argTypes := #[ty] }) (hu : P.underlying ty = some (.map kt e)) {y : Opd} (hx : compOpd x = some y) (sr : SR P w0 ρ σ w) (k : TR w0 ρ t N a.tmps)
    (h : sop (.lenMap y) t σ = some (v, σ')) : σ' = σ ∧ ∃ u, (execOp a.eval o).run P w = .ok (.value u) w ∧ OK w0 ρ v u := by
  have hX := opd_ok hx k
  simp only [sop] at h
  split at h
  · rename_i e1
    cases h
    have hxv : a.eval x = .map none := by have := hX.1; rw [e1] at this; simpa only [VR, Sc.val] using this
    exact ⟨rfl, .int .i64 0, by simp [execOp, ho, resolve, invoke, Go.builtin, hxv, Builtin.len_, run_underlying hu, goInt], OK.mk_int⟩
  · rename_i id e1
    split at h
    · rename_i es hg
      cases h
      rw [e1] at hX
      obtain ⟨p, k1, k2⟩ := (by simpa only [VR] using hX.1 : ∃ p, ρ id = some p ∧ a.eval x = .map (some p.blk))
      have hob := sr.obs id p k1
      rw [hg] at hob
      obtain ⟨A, c, hb, hent⟩ := hob
      have hl := hent.len
      refine ⟨rfl, .int .i64 A.size, ?_, ?_⟩
      · have hgo : (getObj p.blk).run P w = .ok (.map A c) w := by simp [getObj, Sem.run, hb]
        simp [execOp, ho, resolve, invoke, Go.builtin, k2, Builtin.len_, run_underlying hu, hgo, goInt]
      · have : (A.size : Int) = es.length := by simp at hl; omega
        rw [this]; exact OK.mk_int
    · cases h
  · cases h

theorem findNow_ok {kd kd0 : IntKind} {n : Int} : ∀ {es : List (SV × SV)} {l : List MapEntry} (i : Nat), EntR w0 ρ es l → allKeys kd es = true →
    (findKey (.sc (.int kd n)) es = none → Instr.findNow (.int kd0) (.int kd n) l i = some none) ∧
    (∀ v, findKey (.sc (.int kd n)) es = some v → ∃ j u, Instr.findNow (.int kd0) (.int kd n) l i = some (some (i + j, u)) ∧ OK w0 ρ v u ∧ (∃ e, l[j]? = some e ∧ e.key = .int kd n))
  | [], _, i, h, _ => by
    simp only [EntR] at h; subst h
    exact ⟨fun _ => rfl, fun v h => by simp [findKey] at h⟩
  | (a, b) :: r, _, i, h, hk => by
    simp only [EntR] at h
    obtain ⟨e, l, rfl, h1, h2, h3⟩ := h
    unfold allKeys at hk
    simp only [List.all_cons, Bool.and_eq_true] at hk
    obtain ⟨hk1, hk2⟩ := hk
    obtain ⟨m, rfl⟩ : ∃ m, a = .sc (.int kd m) := by
      cases a with
      | sc s =>
        cases s with
        | int q m => exact ⟨m, by have : q = kd := by simpa using hk1
                                  rw [this]⟩
        | _ => simp at hk1
      | _ => simp at hk1
    have hkey := h1.int rfl
    obtain ⟨ih1, ih2⟩ := findNow_ok (n := n) (i + 1) h3 hk2
    simp only [findKey, Instr.findNow, Instr.sameNow, hkey, if_true]
    by_cases hnm : n = m
    · subst hnm
      simp only [beq_self_eq_true, if_true]
      exact ⟨fun h => by simp at h, fun v hv => ⟨0, e.val, by simp, by simp at hv; subst hv; exact h2, e, by simp, hkey⟩⟩
    · rw [if_neg hnm]
      have hb : (n == m) = false := by simpa using hnm
      rw [hb]
      refine ⟨ih1, fun v hv => ?_⟩
      obtain ⟨j, u, q1, q2, e', q3, q4⟩ := ih2 v hv
      exact ⟨j + 1, u, by simp only []; rw [q1]; congr 3; omega, q2, e', by simpa using q3, q4⟩

theorem run_checkKey {w : World} {em : Bool} {d : Nat} {kt : TypeId} {kd : IntKind} {v : Value} (hk : P.underlying kt = some (.int kd)) : (Instr.checkKey em (d + 1) kt v).run P w = .ok () w := by
  simp [Instr.checkKey, run_underlying hk]

theorem allKeys_cons {kd : IntKind} {p : SV × SV} {es : List (SV × SV)} (h : allKeys kd (p :: es) = true) : (∃ m, p.1 = .sc (.int kd m)) ∧ allKeys kd es = true := by
  unfold allKeys at h ⊢
  simp only [List.all_cons, Bool.and_eq_true] at h
  refine ⟨?_, h.2⟩
  obtain ⟨a, b⟩ := p
  have hk1 := h.1
  cases a with
  | sc s =>
    cases s with
    | int q m => exact ⟨m, by have : q = kd := by simpa using hk1
                              rw [this]⟩
    | _ => simp at hk1
  | _ => simp at hk1

theorem r_lookup {w : World} {ty kt e : TypeId} {kd : IntKind} {m x : Operand} {ok ag : Bool} {zs : List SV} {z : SV} (ho : o.op = .lookup ty m x ok) (hu : P.underlying ty = some (.map kt e)) (hk : P.underlying kt = some (.int kd))
    (hz : zsT P e = some zs) (hag : agT P e = some ag) (huf : unflat ag zs = some z) {m' x' : Opd} (hzag : ag = true → ∃ i A, P.info? e = some i ∧ i.zero = some (.agg A)) (hzn : ag = false → ∃ i u, P.info? e = some i ∧ i.zero = some u ∧ u.cells = #[u])
    (hm : compOpd m = some m') (hx : compOpd x = some x') (sr : SR P w0 ρ σ w) (k : TR w0 ρ t N a.tmps)
    (h : sop (.lookup z ok m' x') t σ = some (v, σ')) : σ' = σ ∧ ∃ u, (execOp a.eval o).run P w = .ok (.value u) w ∧ OK w0 ρ v u := by
  have hM := opd_ok hm k
  have hX := opd_ok hx k
  simp only [sop] at h
  split at h
  · rename_i kd' n e1
    have hxv := hX.int e1
    obtain ⟨i, zv, e1', e2', kz, hone⟩ := zsT_ok (w0 := w0) (ρ := ρ) hz
    have hzero : (zeroValue e).run P w = .ok zv w ∧ OK w0 ρ z zv := by
      refine ⟨by simp [zeroValue, typeInfo, e1', e2'], ?_⟩
      rcases unflat_eq huf with ⟨rfl, rfl⟩ | ⟨rfl, rfl⟩
      · obtain ⟨i', A, q1, q2⟩ := hzag rfl
        rw [e1'] at q1; cases q1
        rw [e2'] at q2; cases q2
        exact ⟨by simp only [VR]; exact ⟨A, rfl, kz.1⟩, hone, kz.2⟩
      · obtain ⟨i', u, q1, q2, q3⟩ := hzn rfl
        rw [e1'] at q1; cases q1
        rw [e2'] at q2; cases q2
        have h1 := kz.1
        rw [q3] at h1
        obtain ⟨u', q4, q5⟩ := h1.one
        cases q4
        exact ⟨q5, kz.2.1⟩
    have main : ∀ (es : List (SV × SV)) (A : Array MapEntry), EntR w0 ρ es A.toList →
        ((a.eval m = .map none ∧ A = #[]) ∨ ∃ b c, a.eval m = .map (some b) ∧ (getObj b).run P w = .ok (.map A c) w) →
        (if allKeys kd' es = true then
          (match findKey (.sc (.int kd' n)) es with
          | some v => some (if ok = true then .tup [v, .bool true] else v, σ)
          | none => some (if ok = true then .tup [z, .bool false] else z, σ))
        else none) = some (v, σ') → σ' = σ ∧ ∃ u, (execOp a.eval o).run P w = .ok (.value u) w ∧ OK w0 ρ v u := by
      intro es A hent hget hgo
      split at hgo
      · rename_i hall
        obtain ⟨f1, f2⟩ := findNow_ok (kd0 := kd) (n := n) 0 hent hall
        have fin : ∀ (r : Option (Nat × Value)) (u : Value), Instr.findNow (.int kd) (.int kd' n) A.toList 0 = some r →
            ((r = none → (zeroValue e).run P w = .ok u w) ∧ (∀ q, r = some q → q.2 = u)) →
            (execOp a.eval o).run P w = .ok (.value (if ok = true then .tuple #[u, .bool r.isSome] else u)) w := by
          intro r u hr hv
          have hfk : (Instr.findKey kt (.int kd' n) A.toList).run P w = .ok r w := by simp [Instr.findKey, run_underlying hk, hr]
          have hck := run_checkKey (P := P) (w := w) (em := A.isEmpty) (d := 9999) (v := .int kd' n) hk
          rcases hget with ⟨g1, rfl⟩ | ⟨b, c, g1, g2⟩
          · have hck2 := run_checkKey (P := P) (w := w) (em := true) (d := 9999) (v := .int kd' n) hk
            have hfk2 : (Instr.findKey kt (.int kd' n) []).run P w = .ok r w := hfk
            cases r with
            | none => have hv := hv.1 rfl; cases ok <;> simp [execOp, ho, hxv, Instr.lookup, run_underlying hu, g1, hck2, hfk2, hv]
            | some q => have hv := hv.2 q rfl; cases ok <;> simp [execOp, ho, hxv, Instr.lookup, run_underlying hu, g1, hck2, hfk2, hv]
          · cases r with
            | none => have hv := hv.1 rfl; cases ok <;> simp [execOp, ho, hxv, Instr.lookup, run_underlying hu, g1, g2, hck, hfk, hv]
            | some q => have hv := hv.2 q rfl; cases ok <;> simp [execOp, ho, hxv, Instr.lookup, run_underlying hu, g1, g2, hck, hfk, hv]
        cases hf : findKey (.sc (.int kd' n)) es with
        | none =>
          rw [hf] at hgo
          cases hgo
          refine ⟨rfl, _, fin none zv (f1 hf) ⟨fun _ => hzero.1, fun q e => (by cases e)⟩, ?_⟩
          cases ok
          · exact hzero.2
          · refine ⟨?_, hzero.2.2, trivial, trivial⟩
            simp only [if_true, VR]
            exact ⟨_, rfl, VRs.cons hzero.2.1 (VRs.cons (OK.mk_bool).1 VRs.nil)⟩
        | some v0 =>
          rw [hf] at hgo
          cases hgo
          obtain ⟨j, u, q1, q2, _⟩ := f2 v0 hf
          refine ⟨rfl, _, fin _ u q1 ⟨fun e => (by cases e), fun q e => (by cases e; rfl)⟩, ?_⟩
          cases ok
          · exact q2
          · refine ⟨?_, q2.2, trivial, trivial⟩
            simp only [if_true, VR]
            exact ⟨_, rfl, VRs.cons q2.1 (VRs.cons (OK.mk_bool).1 VRs.nil)⟩
      · cases hgo
    split at h
    · rename_i e2
      have hmv : a.eval m = .map none := by have := hM.1; rw [e2] at this; simpa only [VR, Sc.val] using this
      exact main [] #[] rfl (.inl ⟨hmv, rfl⟩) h
    · rename_i id e2
      split at h
      · rename_i es hg
        rw [e2] at hM
        obtain ⟨p, k1, k2⟩ := (by simpa only [VR] using hM.1 : ∃ p, ρ id = some p ∧ a.eval m = .map (some p.blk))
        have hob := sr.obs id p k1
        rw [hg] at hob
        obtain ⟨A, c, hb, hent⟩ := hob
        have hgo : (getObj p.blk).run P w = .ok (.map A c) w := by simp [getObj, Sem.run, hb]
        exact main es A hent (.inr ⟨_, _, k2, hgo⟩) h
      · cases h
    · cases h
  · cases h

end
end Go.Proofs.Ytojjhcgbbmknmaa.Sh

/- Maps that are written. -/
namespace Go.Proofs.Ytojjhcgbbmknmaa.Sh
set_option linter.unusedSimpArgs false
set_option linter.unusedVariables false
open Go Go.RowKit

section
variable {P : Program} {w0 : World} {ρ : Rho} {N : Nat} {t : Tr SV} {σ σ' : St} {a : Act} {o : Oper} {v : SV} {so : SOp}

theorem setKey_ok {kd kd0 : IntKind} {n : Int} {v : SV} {u : Value} (hv : OK w0 ρ v u) : ∀ {es : List (SV × SV)} {l : List MapEntry} (i : Nat), EntR w0 ρ es l → allKeys kd es = true →
    (Instr.findNow (.int kd0) (.int kd n) l i = some none ∧ ∀ b, EntR w0 ρ (setKey (.sc (.int kd n)) v es) (l ++ [{ key := .int kd n, val := u, born := b }])) ∨
    (∃ j q, Instr.findNow (.int kd0) (.int kd n) l i = some (some (i + j, q)) ∧ (∃ e, l[j]? = some e ∧ e.key = .int kd n) ∧ EntR w0 ρ (setKey (.sc (.int kd n)) v es) (l.modify j fun e => { e with key := .int kd n, val := u }))
  | [], _, i, h, _ => by
    simp only [EntR] at h; subst h
    exact .inl ⟨rfl, fun b => ⟨_, [], rfl, OK.mk_sc, hv, rfl⟩⟩
  | (a, b) :: r, _, i, h, hk => by
    simp only [EntR] at h
    obtain ⟨e, l, rfl, h1, h2, h3⟩ := h
    obtain ⟨⟨m, hm⟩, hk2⟩ := allKeys_cons hk
    simp only at hm; subst hm
    have hkey := h1.int rfl
    simp only [setKey, Instr.findNow, Instr.sameNow, hkey, if_true]
    by_cases hnm : n = m
    · subst hnm
      simp only [beq_self_eq_true, if_true]
      exact .inr ⟨0, e.val, by simp, ⟨e, by simp, hkey⟩, by simp only [List.modify_zero_cons]; exact ⟨_, l, rfl, OK.mk_sc, hv, h3⟩⟩
    · rw [if_neg hnm]
      have hb : (n == m) = false := by simpa using hnm
      rw [hb]
      rcases setKey_ok (kd0 := kd0) hv (i + 1) h3 hk2 with ⟨q1, q2⟩ | ⟨j, q, q1, ⟨e', q3, q4⟩, q5⟩
      · exact .inl ⟨q1, fun b => ⟨e, _, rfl, h1, h2, q2 b⟩⟩
      · refine .inr ⟨j + 1, q, by simp only []; rw [q1]; congr 3; omega, ⟨e', by simpa using q3, q4⟩, ?_⟩
        simp only [List.modify_succ_cons]
        exact ⟨e, _, rfl, h1, h2, q5⟩

theorem b_mapset {w : World} {ty kt e : TypeId} {kd : IntKind} {m x y : Operand} (ho : o.op = .mapUpdate ty m x y ∨ o.op = .insert ty m x y) (hu : P.underlying ty = some (.map kt e)) (hk : P.underlying kt = some (.int kd))
    {m' x' y' : Opd} (hm : compOpd m = some m') (hx : compOpd x = some x') (hy : compOpd y = some y') (sr : SR P w0 ρ σ w) (k : TR w0 ρ t N a.tmps)
    (h : sop (.mapset m' x' y') t σ = some (v, σ')) : v = .undef ∧ ∃ w', (execOp a.eval o).run P w = .ok .skip w' ∧ Step1 P w0 ρ σ w ρ σ' w' := by
  have hM := opd_ok hm k
  have hX := opd_ok hx k
  have hY := opd_ok hy k
  simp only [sop] at h
  split at h
  · rename_i kd' n id e1 e2
    have hxv := hX.int e1
    split at h
    · rename_i es hg
      split at h
      · rename_i hall
        cases h
        refine ⟨rfl, ?_⟩
        rw [e2] at hM
        obtain ⟨p, k1, k2⟩ := (by simpa only [VR] using hM.1 : ∃ p, ρ id = some p ∧ a.eval m = .map (some p.blk))
        have hob := sr.obs id p k1
        rw [hg] at hob
        obtain ⟨A, c, hb, hent⟩ := hob
        have hlt := (sr.dom id p k1).2.2
        have hgo : (getObj p.blk).run P w = .ok (.map A c) w := by simp [getObj, Sem.run, hb]
        have hso : ∀ O, (setObj p.blk O).run P w = .ok () (w.putObj p.blk O) := fun O => by simp [setObj, Sem.run, hb, World.putObj]
        have hck := run_checkKey (P := P) (w := w) (em := false) (d := 9999) (v := .int kd' n) hk
        have fin : ∀ W, (Instr.mapUpdate ty (.map (some p.blk)) (.int kd' n) (a.eval y)).run P w = .ok () W → (execOp a.eval o).run P w = .ok .skip W := by
          intro W hW
          rcases ho with ho | ho <;> simp [execOp, ho, k2, hxv, hW]
        have step : ∀ (A' : Array MapEntry) (c' : Nat), EntR w0 ρ (setKey (.sc (.int kd' n)) (y'.ev t) es) A'.toList → Step1 P w0 ρ σ w ρ (σ.set id (.map (setKey (.sc (.int kd' n)) (y'.ev t) es))) (w.putObj p.blk (.map A' c')) := by
          intro A' c' hE
          exact sr.write k1 (by rw [hg]; simp) (by simp) (World.putObj_heap_same hlt) (fun k hk => World.putObj_heap_other hk) rfl rfl rfl ⟨A', c', World.putObj_heap_same hlt, hE⟩ (fun r hr => by rw [hb] at hr; cases hr)
        rcases setKey_ok (kd0 := kd) (n := n) hY 0 hent hall with ⟨q1, q2⟩ | ⟨j, q, q1, ⟨e', q3, q4⟩, q5⟩
        · have hfk : (Instr.findKey kt (.int kd' n) A.toList).run P w = .ok none w := by simp [Instr.findKey, run_underlying hk, q1]
          refine ⟨_, fin _ ?_, step (A.push { key := .int kd' n, val := a.eval y, born := c }) (c + 1) (by simpa using q2 c)⟩
          simp [Instr.mapUpdate, run_underlying hu, hgo, hck, hfk, hso]
        · rw [Nat.zero_add] at q1
          have hfk : (Instr.findKey kt (.int kd' n) A.toList).run P w = .ok (some (j, q)) w := by simp [Instr.findKey, run_underlying hk, q1]
          have hAj : A[j]? = some e' := by simpa using q3
          have hkey : (Instr.keyThatStays (((A[j]?).map (·.key)).getD (.int kd' n)) (.int kd' n)).run P w = .ok (.int kd' n) w := by
            simp [hAj, q4, Instr.keyThatStays, Instr.sameBits]
          refine ⟨_, fin _ ?_, step (A.modify j fun e => { e with key := .int kd' n, val := a.eval y }) c (by simpa [Array.toList_modify] using q5)⟩
          simp [Instr.mapUpdate, run_underlying hu, hgo, hck, hfk, hkey, hso]
      · cases h
    · cases h
  · cases h
end
end Go.Proofs.Ytojjhcgbbmknmaa.Sh

/- All operations that are no calls. -/
namespace Go.Proofs.Ytojjhcgbbmknmaa.Sh
set_option linter.unusedSimpArgs false
set_option linter.unusedVariables false
open Go Go.RowKit

section
variable {P : Program} {w0 : World} {ρ : Rho} {N : Nat} {t : Tr SV} {σ σ' : St} {a : Act} {o : Oper} {v : SV} {so : SOp}

theorem pure_sound1 (hc : compOp1 P o = some so) (hk : sopKd so = .pure) (k : TR w0 ρ t N a.tmps) (h : sop so t σ = some (v, σ')) : σ' = σ ∧ Yld P w0 ρ a o v := by
  unfold compOp1 at hc
  split at hc
  · rename_i x ho
    obtain ⟨y, hy, rfl⟩ := Option.map_eq_some_iff.1 hc
    simp only [sop, Option.some.injEq, Prod.mk.injEq] at h
    obtain ⟨rfl, rfl⟩ := h
    exact ⟨rfl, y_mv (.inl ho) hy k⟩
  · rename_i x ho
    obtain ⟨y, hy, rfl⟩ := Option.map_eq_some_iff.1 hc
    simp only [sop, Option.some.injEq, Prod.mk.injEq] at h
    obtain ⟨rfl, rfl⟩ := h
    exact ⟨rfl, y_mv (.inr ho) hy k⟩
  · rename_i c x y ho
    split at hc
    · rename_i h1 h2 h3
      cases hc
      exact y_pick ho h1 h2 h3 k h
    · cases hc
  · obtain ⟨y, hy, rfl⟩ := Option.map_eq_some_iff.1 hc
    simp [sopKd] at hk
  · obtain ⟨y, hy, rfl⟩ := Option.map_eq_some_iff.1 hc
    simp [sopKd] at hk
  · rename_i ty parts ho
    split at hc
    · rename_i zs fs hz hu
      split at hc
      · rename_i places hp
        obtain ⟨l, hl, rfl⟩ := Option.map_eq_some_iff.1 hc
        exact y_build ho hz (.inr ⟨fs, places, hu, hp, hl⟩) k h
      · cases hc
    · rename_i zs n e hz hu
      split at hc
      · rename_i s hs
        obtain ⟨l, hl, rfl⟩ := Option.map_eq_some_iff.1 hc
        exact y_build ho hz (.inl ⟨n, e, s, hu, hs, hl⟩) k h
      · cases hc
    · cases hc
  · split at hc
    · split at hc
      · split at hc
        · obtain ⟨y, hy, rfl⟩ := Option.map_eq_some_iff.1 hc
          simp [sopKd] at hk
        · cases hc
      · cases hc
    · cases hc
  · split at hc
    · split at hc
      · cases hc; simp [sopKd] at hk
      · cases hc
    · cases hc
  · split at hc
    · cases hc; simp [sopKd] at hk
    · cases hc
  · rename_i x ho
    obtain ⟨y, hy, rfl⟩ := Option.map_eq_some_iff.1 hc
    exact y_nilchk ho hy k h
  · rename_i op ty x y ty' ho
    split at hc
    · rename_i h1 h2
      simp only [Option.some.injEq] at hc
      subst hc
      exact y_bin ho h1 h2 k h
    · cases hc
  · rename_i op ty x ho
    obtain ⟨y, hy, rfl⟩ := Option.map_eq_some_iff.1 hc
    exact y_un ho hy k h
  · rename_i src dst x ho
    split at hc
    · rename_i h1 h2 h3
      cases hc
      exact y_conv ho h1 h2 h3 k h
    · cases hc
  · rename_i f fs cs ho
    split at hc
    · rename_i h1 h2
      cases hc
      exact y_mkfn ho h1 h2 k h
    · cases hc
  · cases hc; simp [sopKd] at hk
  · split at hc
    · split at hc
      · split at hc
        · cases hc; simp [sopKd] at hk
        · cases hc
      · cases hc
    · cases hc
  · rename_i ty x lo hi ho
    split at hc
    · rename_i h1 h2 h3 h4
      split at hc
      · rename_i s hs
        split at hc
        · rename_i h0
          cases hc
          exact y_slc ho h1 hs h0 h2 h3 h4 k h
        · cases hc
      · cases hc
    · split at hc
      · split at hc
        · cases hc; simp [sopKd] at hk
        · cases hc
      · cases hc
    · cases hc
  · rename_i ty x i ho
    split at hc
    · rename_i h1 h2
      split at hc
      · rename_i f hf
        split at hc
        · rename_i n hn
          split at hc
          · rename_i h0
            cases hc
            exact y_fieldA ho h1 hf hn h0 h2 k h
          · cases hc
        · cases hc
      · cases hc
    · cases hc
  · rename_i ty x i ho
    split at hc
    · rename_i h1 h2
      split at hc
      · rename_i f hf
        split at hc
        · rename_i n ag hn hag
          split at hc
          · cases hc
            exact y_field ho h1 hf hn hag h2 k h
          · cases hc
        · cases hc
      · cases hc
    · cases hc
  · rename_i ty x i ho
    split at hc
    · rename_i h1 h2 h3
      obtain ⟨s, hs, rfl⟩ := Option.map_eq_some_iff.1 hc
      exact y_indexArr ho h1 hs h2 h3 k h
    · rename_i h1 h2 h3
      obtain ⟨s, hs, rfl⟩ := Option.map_eq_some_iff.1 hc
      exact y_indexSl ho h1 hs h2 h3 k h
    · cases hc
  · rename_i ty x i ho
    split at hc
    · rename_i h1 h2 h3
      split at hc
      · rename_i s ag hs hag
        split at hc
        · cases hc
          exact y_index ho h1 hs hag h2 h3 k h
        · cases hc
      · cases hc
    · cases hc
  · rename_i x i ho
    obtain ⟨y, hy, rfl⟩ := Option.map_eq_some_iff.1 hc
    exact y_extract ho hy k h
  · split at hc
    · split at hc
      · split at hc
        · obtain ⟨y, hy, rfl⟩ := Option.map_eq_some_iff.1 hc
          simp [sopKd] at hk
        · cases hc
      · cases hc
    · cases hc
  · split at hc
    · split at hc
      · cases hc; simp [sopKd] at hk
      · cases hc
    · cases hc
  · split at hc
    · split at hc
      · cases hc; simp [sopKd] at hk
      · cases hc
    · cases hc
  · rename_i c ho
    obtain ⟨cal, ar, at_⟩ := c
    simp only at hc
    split at hc
    · split at hc
      · cases hc; simp [sopKd] at hk
      · cases hc
    · split at hc
      · rename_i x ty h1 h2
        obtain rfl : ar = #[x] := by apply Array.ext'; simpa using h1
        obtain rfl : at_ = #[ty] := by apply Array.ext'; simpa using h2
        split at hc
        · rename_i hu hx
          cases hc
          exact y_lenSl ho hu hx k h
        · rename_i hu hx
          cases hc
          exact y_lenArr ho (.inl ⟨_, hu⟩) h
        · cases hc; simp [sopKd] at hk
        · rename_i hu hx
          split at hc
          · rename_i hq
            cases hc
            exact y_lenArr ho (.inr ⟨_, _, hu, hq⟩) h
          · cases hc
        · cases hc
      · cases hc
    · split at hc
      · split at hc
        · split at hc
          · split at hc
            · split at hc
              · cases hc; simp [sopKd] at hk
              · cases hc
            · cases hc
          · cases hc
        · cases hc
      · cases hc
    · cases hc
  · cases hc
end
end Go.Proofs.Ytojjhcgbbmknmaa.Sh

/- Operations that read the state, lay a block, change the state. -/
namespace Go.Proofs.Ytojjhcgbbmknmaa.Sh
set_option linter.unusedSimpArgs false
set_option linter.unusedVariables false
open Go Go.RowKit

section
variable {P : Program} {w0 : World} {ρ : Rho} {N : Nat} {t : Tr SV} {σ σ' : St} {a : Act} {o : Oper} {v : SV} {so : SOp} {w : World}

theorem reads_sound1 (hc : compOp1 P o = some so) (hk : sopKd so = .reads) (sr : SR P w0 ρ σ w) (k : TR w0 ρ t N a.tmps) (h : sop so t σ = some (v, σ')) : σ' = σ ∧ ∃ u, (execOp a.eval o).run P w = .ok (.value u) w ∧ OK w0 ρ v u := by
  unfold compOp1 at hc
  split at hc
  · exfalso
    revert hc
    repeat' split
    all_goals (intro hc; first | (cases hc; done) | (cases hc; simp [sopKd] at hk; done) | (obtain ⟨y_, hy_, rfl⟩ := Option.map_eq_some_iff.1 hc; simp [sopKd] at hk; done))
  · exfalso
    revert hc
    repeat' split
    all_goals (intro hc; first | (cases hc; done) | (cases hc; simp [sopKd] at hk; done) | (obtain ⟨y_, hy_, rfl⟩ := Option.map_eq_some_iff.1 hc; simp [sopKd] at hk; done))
  · exfalso
    revert hc
    repeat' split
    all_goals (intro hc; first | (cases hc; done) | (cases hc; simp [sopKd] at hk; done) | (obtain ⟨y_, hy_, rfl⟩ := Option.map_eq_some_iff.1 hc; simp [sopKd] at hk; done))
  · exfalso
    revert hc
    repeat' split
    all_goals (intro hc; first | (cases hc; done) | (cases hc; simp [sopKd] at hk; done) | (obtain ⟨y_, hy_, rfl⟩ := Option.map_eq_some_iff.1 hc; simp [sopKd] at hk; done))
  · exfalso
    revert hc
    repeat' split
    all_goals (intro hc; first | (cases hc; done) | (cases hc; simp [sopKd] at hk; done) | (obtain ⟨y_, hy_, rfl⟩ := Option.map_eq_some_iff.1 hc; simp [sopKd] at hk; done))
  · exfalso
    revert hc
    repeat' split
    all_goals (intro hc; first | (cases hc; done) | (cases hc; simp [sopKd] at hk; done) | (obtain ⟨y_, hy_, rfl⟩ := Option.map_eq_some_iff.1 hc; simp [sopKd] at hk; done))
  · exfalso
    revert hc
    repeat' split
    all_goals (intro hc; first | (cases hc; done) | (cases hc; simp [sopKd] at hk; done) | (obtain ⟨y_, hy_, rfl⟩ := Option.map_eq_some_iff.1 hc; simp [sopKd] at hk; done))
  · rename_i ty x ho
    split at hc
    · rename_i h1 h2 h3
      split at hc
      · cases hc
        exact r_load ho h1 h2 h3 sr k h
      · cases hc
    · cases hc
  · exfalso
    revert hc
    repeat' split
    all_goals (intro hc; first | (cases hc; done) | (cases hc; simp [sopKd] at hk; done) | (obtain ⟨y_, hy_, rfl⟩ := Option.map_eq_some_iff.1 hc; simp [sopKd] at hk; done))
  · exfalso
    revert hc
    repeat' split
    all_goals (intro hc; first | (cases hc; done) | (cases hc; simp [sopKd] at hk; done) | (obtain ⟨y_, hy_, rfl⟩ := Option.map_eq_some_iff.1 hc; simp [sopKd] at hk; done))
  · exfalso
    revert hc
    repeat' split
    all_goals (intro hc; first | (cases hc; done) | (cases hc; simp [sopKd] at hk; done) | (obtain ⟨y_, hy_, rfl⟩ := Option.map_eq_some_iff.1 hc; simp [sopKd] at hk; done))
  · exfalso
    revert hc
    repeat' split
    all_goals (intro hc; first | (cases hc; done) | (cases hc; simp [sopKd] at hk; done) | (obtain ⟨y_, hy_, rfl⟩ := Option.map_eq_some_iff.1 hc; simp [sopKd] at hk; done))
  · exfalso
    revert hc
    repeat' split
    all_goals (intro hc; first | (cases hc; done) | (cases hc; simp [sopKd] at hk; done) | (obtain ⟨y_, hy_, rfl⟩ := Option.map_eq_some_iff.1 hc; simp [sopKd] at hk; done))
  · exfalso
    revert hc
    repeat' split
    all_goals (intro hc; first | (cases hc; done) | (cases hc; simp [sopKd] at hk; done) | (obtain ⟨y_, hy_, rfl⟩ := Option.map_eq_some_iff.1 hc; simp [sopKd] at hk; done))
  · exfalso
    revert hc
    repeat' split
    all_goals (intro hc; first | (cases hc; done) | (cases hc; simp [sopKd] at hk; done) | (obtain ⟨y_, hy_, rfl⟩ := Option.map_eq_some_iff.1 hc; simp [sopKd] at hk; done))
  · exfalso
    revert hc
    repeat' split
    all_goals (intro hc; first | (cases hc; done) | (cases hc; simp [sopKd] at hk; done) | (obtain ⟨y_, hy_, rfl⟩ := Option.map_eq_some_iff.1 hc; simp [sopKd] at hk; done))
  · rename_i ty x lo hi ho
    split at hc
    · split at hc
      · split at hc
        · cases hc; simp [sopKd] at hk
        · cases hc
      · cases hc
    · rename_i h1 h2 h3 h4
      split at hc
      · rename_i s hs
        split at hc
        · rename_i h0
          cases hc
          exact r_slcArr ho h1 hs h0 h2 h3 h4 sr k h
        · cases hc
      · cases hc
    · cases hc
  · exfalso
    revert hc
    repeat' split
    all_goals (intro hc; first | (cases hc; done) | (cases hc; simp [sopKd] at hk; done) | (obtain ⟨y_, hy_, rfl⟩ := Option.map_eq_some_iff.1 hc; simp [sopKd] at hk; done))
  · exfalso
    revert hc
    repeat' split
    all_goals (intro hc; first | (cases hc; done) | (cases hc; simp [sopKd] at hk; done) | (obtain ⟨y_, hy_, rfl⟩ := Option.map_eq_some_iff.1 hc; simp [sopKd] at hk; done))
  · exfalso
    revert hc
    repeat' split
    all_goals (intro hc; first | (cases hc; done) | (cases hc; simp [sopKd] at hk; done) | (obtain ⟨y_, hy_, rfl⟩ := Option.map_eq_some_iff.1 hc; simp [sopKd] at hk; done))
  · exfalso
    revert hc
    repeat' split
    all_goals (intro hc; first | (cases hc; done) | (cases hc; simp [sopKd] at hk; done) | (obtain ⟨y_, hy_, rfl⟩ := Option.map_eq_some_iff.1 hc; simp [sopKd] at hk; done))
  · exfalso
    revert hc
    repeat' split
    all_goals (intro hc; first | (cases hc; done) | (cases hc; simp [sopKd] at hk; done) | (obtain ⟨y_, hy_, rfl⟩ := Option.map_eq_some_iff.1 hc; simp [sopKd] at hk; done))
  · rename_i ty m x ok ho
    split at hc
    · rename_i h1 h2 h3
      split at hc
      · rename_i h4 h5 h6
        split at hc
        · rename_i h7
          obtain ⟨z, hz, rfl⟩ := Option.map_eq_some_iff.1 hc
          refine r_lookup ho h1 h4 h5 h6 hz (fun e => ?_) (fun e => ?_) h2 h3 sr k h
          · unfold zagT at h7
            obtain ⟨u, hu, hv⟩ := Option.map_eq_some_iff.1 h7
            obtain ⟨i, hi, hj⟩ := Option.bind_eq_some_iff.1 hu
            subst e
            split at hv
            · exact ⟨i, _, hi, hj⟩
            · cases hv
          · unfold zagT at h7
            obtain ⟨u, hu, hv⟩ := Option.map_eq_some_iff.1 h7
            obtain ⟨i, hi, hj⟩ := Option.bind_eq_some_iff.1 hu
            subst e
            split at hv
            · cases hv
            · rename_i hn
              refine ⟨i, u, hi, hj, ?_⟩
              cases u <;> first | rfl | exact absurd rfl (hn _)
        · cases hc
      · cases hc
    · cases hc
  · exfalso
    revert hc
    repeat' split
    all_goals (intro hc; first | (cases hc; done) | (cases hc; simp [sopKd] at hk; done) | (obtain ⟨y_, hy_, rfl⟩ := Option.map_eq_some_iff.1 hc; simp [sopKd] at hk; done))
  · exfalso
    revert hc
    repeat' split
    all_goals (intro hc; first | (cases hc; done) | (cases hc; simp [sopKd] at hk; done) | (obtain ⟨y_, hy_, rfl⟩ := Option.map_eq_some_iff.1 hc; simp [sopKd] at hk; done))
  · rename_i c ho
    obtain ⟨cal, ar, at_⟩ := c
    simp only at hc
    split at hc
    · split at hc
      · cases hc; simp [sopKd] at hk
      · cases hc
    · split at hc
      · rename_i x ty h1 h2
        obtain rfl : ar = #[x] := by apply Array.ext'; simpa using h1
        obtain rfl : at_ = #[ty] := by apply Array.ext'; simpa using h2
        split at hc
        · cases hc; simp [sopKd] at hk
        · cases hc; simp [sopKd] at hk
        · rename_i hu hx
          cases hc
          exact r_lenMap ho hu hx sr k h
        · split at hc
          · cases hc; simp [sopKd] at hk
          · cases hc
        · cases hc
      · cases hc
    · split at hc
      · split at hc
        · split at hc
          · split at hc
            · split at hc
              · cases hc; simp [sopKd] at hk
              · cases hc
            · cases hc
          · cases hc
        · cases hc
      · cases hc
    · cases hc
  · exfalso
    revert hc
    repeat' split
    all_goals (intro hc; first | (cases hc; done) | (cases hc; simp [sopKd] at hk; done) | (obtain ⟨y_, hy_, rfl⟩ := Option.map_eq_some_iff.1 hc; simp [sopKd] at hk; done))

theorem alloc_sound1 (hc : compOp1 P o = some so) (hk : sopKd so = .alloc) (k : TR w0 ρ t N a.tmps) (h : sop so t σ = some (v, σ')) : Lays P w0 ρ σ a o v σ' := by
  unfold compOp1 at hc
  split at hc
  · exfalso
    revert hc
    repeat' split
    all_goals (intro hc; first | (cases hc; done) | (cases hc; simp [sopKd] at hk; done) | (obtain ⟨y_, hy_, rfl⟩ := Option.map_eq_some_iff.1 hc; simp [sopKd] at hk; done))
  · exfalso
    revert hc
    repeat' split
    all_goals (intro hc; first | (cases hc; done) | (cases hc; simp [sopKd] at hk; done) | (obtain ⟨y_, hy_, rfl⟩ := Option.map_eq_some_iff.1 hc; simp [sopKd] at hk; done))
  · exfalso
    revert hc
    repeat' split
    all_goals (intro hc; first | (cases hc; done) | (cases hc; simp [sopKd] at hk; done) | (obtain ⟨y_, hy_, rfl⟩ := Option.map_eq_some_iff.1 hc; simp [sopKd] at hk; done))
  · rename_i e ho
    obtain ⟨zs, hz, rfl⟩ := Option.map_eq_some_iff.1 hc
    exact l_alloc ho hz h
  · rename_i e x ho
    obtain ⟨y, hy, rfl⟩ := Option.map_eq_some_iff.1 hc
    exact l_box ho hy k h
  · exfalso
    revert hc
    repeat' split
    all_goals (intro hc; first | (cases hc; done) | (cases hc; simp [sopKd] at hk; done) | (obtain ⟨y_, hy_, rfl⟩ := Option.map_eq_some_iff.1 hc; simp [sopKd] at hk; done))
  · rename_i ty len parts ho
    split at hc
    · rename_i hu
      split at hc
      · rename_i hs hz
        split at hc
        · rename_i hcond
          obtain ⟨l, hl, rfl⟩ := Option.map_eq_some_iff.1 hc
          exact l_buildSl ho hu hs hz hcond.1 hcond.2.1 hcond.2.2 hl k h
        · cases hc
      · cases hc
    · cases hc
  · exfalso
    revert hc
    repeat' split
    all_goals (intro hc; first | (cases hc; done) | (cases hc; simp [sopKd] at hk; done) | (obtain ⟨y_, hy_, rfl⟩ := Option.map_eq_some_iff.1 hc; simp [sopKd] at hk; done))
  · exfalso
    revert hc
    repeat' split
    all_goals (intro hc; first | (cases hc; done) | (cases hc; simp [sopKd] at hk; done) | (obtain ⟨y_, hy_, rfl⟩ := Option.map_eq_some_iff.1 hc; simp [sopKd] at hk; done))
  · exfalso
    revert hc
    repeat' split
    all_goals (intro hc; first | (cases hc; done) | (cases hc; simp [sopKd] at hk; done) | (obtain ⟨y_, hy_, rfl⟩ := Option.map_eq_some_iff.1 hc; simp [sopKd] at hk; done))
  · exfalso
    revert hc
    repeat' split
    all_goals (intro hc; first | (cases hc; done) | (cases hc; simp [sopKd] at hk; done) | (obtain ⟨y_, hy_, rfl⟩ := Option.map_eq_some_iff.1 hc; simp [sopKd] at hk; done))
  · exfalso
    revert hc
    repeat' split
    all_goals (intro hc; first | (cases hc; done) | (cases hc; simp [sopKd] at hk; done) | (obtain ⟨y_, hy_, rfl⟩ := Option.map_eq_some_iff.1 hc; simp [sopKd] at hk; done))
  · exfalso
    revert hc
    repeat' split
    all_goals (intro hc; first | (cases hc; done) | (cases hc; simp [sopKd] at hk; done) | (obtain ⟨y_, hy_, rfl⟩ := Option.map_eq_some_iff.1 hc; simp [sopKd] at hk; done))
  · exfalso
    revert hc
    repeat' split
    all_goals (intro hc; first | (cases hc; done) | (cases hc; simp [sopKd] at hk; done) | (obtain ⟨y_, hy_, rfl⟩ := Option.map_eq_some_iff.1 hc; simp [sopKd] at hk; done))
  · rename_i ty ho
    cases hc
    exact l_mkmap ho h
  · rename_i ty l c ho
    split at hc
    · rename_i hu
      split at hc
      · rename_i hs hb hz hl hcc
        split at hc
        · rename_i hcond
          cases hc
          exact l_mksl ho hu hs hb hz hcond.1 hcond.2 hl hcc k h
        · cases hc
      · cases hc
    · cases hc
  · exfalso
    revert hc
    repeat' split
    all_goals (intro hc; first | (cases hc; done) | (cases hc; simp [sopKd] at hk; done) | (obtain ⟨y_, hy_, rfl⟩ := Option.map_eq_some_iff.1 hc; simp [sopKd] at hk; done))
  · exfalso
    revert hc
    repeat' split
    all_goals (intro hc; first | (cases hc; done) | (cases hc; simp [sopKd] at hk; done) | (obtain ⟨y_, hy_, rfl⟩ := Option.map_eq_some_iff.1 hc; simp [sopKd] at hk; done))
  · exfalso
    revert hc
    repeat' split
    all_goals (intro hc; first | (cases hc; done) | (cases hc; simp [sopKd] at hk; done) | (obtain ⟨y_, hy_, rfl⟩ := Option.map_eq_some_iff.1 hc; simp [sopKd] at hk; done))
  · exfalso
    revert hc
    repeat' split
    all_goals (intro hc; first | (cases hc; done) | (cases hc; simp [sopKd] at hk; done) | (obtain ⟨y_, hy_, rfl⟩ := Option.map_eq_some_iff.1 hc; simp [sopKd] at hk; done))
  · exfalso
    revert hc
    repeat' split
    all_goals (intro hc; first | (cases hc; done) | (cases hc; simp [sopKd] at hk; done) | (obtain ⟨y_, hy_, rfl⟩ := Option.map_eq_some_iff.1 hc; simp [sopKd] at hk; done))
  · exfalso
    revert hc
    repeat' split
    all_goals (intro hc; first | (cases hc; done) | (cases hc; simp [sopKd] at hk; done) | (obtain ⟨y_, hy_, rfl⟩ := Option.map_eq_some_iff.1 hc; simp [sopKd] at hk; done))
  · exfalso
    revert hc
    repeat' split
    all_goals (intro hc; first | (cases hc; done) | (cases hc; simp [sopKd] at hk; done) | (obtain ⟨y_, hy_, rfl⟩ := Option.map_eq_some_iff.1 hc; simp [sopKd] at hk; done))
  · exfalso
    revert hc
    repeat' split
    all_goals (intro hc; first | (cases hc; done) | (cases hc; simp [sopKd] at hk; done) | (obtain ⟨y_, hy_, rfl⟩ := Option.map_eq_some_iff.1 hc; simp [sopKd] at hk; done))
  · exfalso
    revert hc
    repeat' split
    all_goals (intro hc; first | (cases hc; done) | (cases hc; simp [sopKd] at hk; done) | (obtain ⟨y_, hy_, rfl⟩ := Option.map_eq_some_iff.1 hc; simp [sopKd] at hk; done))
  · exfalso
    revert hc
    repeat' split
    all_goals (intro hc; first | (cases hc; done) | (cases hc; simp [sopKd] at hk; done) | (obtain ⟨y_, hy_, rfl⟩ := Option.map_eq_some_iff.1 hc; simp [sopKd] at hk; done))
  · exfalso
    revert hc
    repeat' split
    all_goals (intro hc; first | (cases hc; done) | (cases hc; simp [sopKd] at hk; done) | (obtain ⟨y_, hy_, rfl⟩ := Option.map_eq_some_iff.1 hc; simp [sopKd] at hk; done))

theorem big_sound1 (hc : compOp1 P o = some so) (hk : sopKd so = .big) (sr : SR P w0 ρ σ w) (k : TR w0 ρ t N a.tmps) (h : sop so t σ = some (v, σ')) :
    ∃ nx u w' ρ', (execOp a.eval o).run P w = .ok nx w' ∧ (nx = .value u ∨ (nx = .skip ∧ u = Go.undef)) ∧ OK w0 ρ' v u ∧ Step1 P w0 ρ σ w ρ' σ' w' := by
  unfold compOp1 at hc
  split at hc
  · exfalso
    revert hc
    repeat' split
    all_goals (intro hc; first | (cases hc; done) | (cases hc; simp [sopKd] at hk; done) | (obtain ⟨y_, hy_, rfl⟩ := Option.map_eq_some_iff.1 hc; simp [sopKd] at hk; done))
  · exfalso
    revert hc
    repeat' split
    all_goals (intro hc; first | (cases hc; done) | (cases hc; simp [sopKd] at hk; done) | (obtain ⟨y_, hy_, rfl⟩ := Option.map_eq_some_iff.1 hc; simp [sopKd] at hk; done))
  · exfalso
    revert hc
    repeat' split
    all_goals (intro hc; first | (cases hc; done) | (cases hc; simp [sopKd] at hk; done) | (obtain ⟨y_, hy_, rfl⟩ := Option.map_eq_some_iff.1 hc; simp [sopKd] at hk; done))
  · exfalso
    revert hc
    repeat' split
    all_goals (intro hc; first | (cases hc; done) | (cases hc; simp [sopKd] at hk; done) | (obtain ⟨y_, hy_, rfl⟩ := Option.map_eq_some_iff.1 hc; simp [sopKd] at hk; done))
  · exfalso
    revert hc
    repeat' split
    all_goals (intro hc; first | (cases hc; done) | (cases hc; simp [sopKd] at hk; done) | (obtain ⟨y_, hy_, rfl⟩ := Option.map_eq_some_iff.1 hc; simp [sopKd] at hk; done))
  · exfalso
    revert hc
    repeat' split
    all_goals (intro hc; first | (cases hc; done) | (cases hc; simp [sopKd] at hk; done) | (obtain ⟨y_, hy_, rfl⟩ := Option.map_eq_some_iff.1 hc; simp [sopKd] at hk; done))
  · exfalso
    revert hc
    repeat' split
    all_goals (intro hc; first | (cases hc; done) | (cases hc; simp [sopKd] at hk; done) | (obtain ⟨y_, hy_, rfl⟩ := Option.map_eq_some_iff.1 hc; simp [sopKd] at hk; done))
  · exfalso
    revert hc
    repeat' split
    all_goals (intro hc; first | (cases hc; done) | (cases hc; simp [sopKd] at hk; done) | (obtain ⟨y_, hy_, rfl⟩ := Option.map_eq_some_iff.1 hc; simp [sopKd] at hk; done))
  · rename_i ty x y ho
    split at hc
    · rename_i h1 h2 h3
      cases hc
      obtain ⟨rfl, w', hr, hs⟩ := b_store ho h1 h2 h3 sr k h
      exact ⟨_, Go.undef, w', ρ, hr, .inr ⟨rfl, rfl⟩, OK.mk_undef, hs⟩
    · cases hc
  · exfalso
    revert hc
    repeat' split
    all_goals (intro hc; first | (cases hc; done) | (cases hc; simp [sopKd] at hk; done) | (obtain ⟨y_, hy_, rfl⟩ := Option.map_eq_some_iff.1 hc; simp [sopKd] at hk; done))
  · exfalso
    revert hc
    repeat' split
    all_goals (intro hc; first | (cases hc; done) | (cases hc; simp [sopKd] at hk; done) | (obtain ⟨y_, hy_, rfl⟩ := Option.map_eq_some_iff.1 hc; simp [sopKd] at hk; done))
  · exfalso
    revert hc
    repeat' split
    all_goals (intro hc; first | (cases hc; done) | (cases hc; simp [sopKd] at hk; done) | (obtain ⟨y_, hy_, rfl⟩ := Option.map_eq_some_iff.1 hc; simp [sopKd] at hk; done))
  · exfalso
    revert hc
    repeat' split
    all_goals (intro hc; first | (cases hc; done) | (cases hc; simp [sopKd] at hk; done) | (obtain ⟨y_, hy_, rfl⟩ := Option.map_eq_some_iff.1 hc; simp [sopKd] at hk; done))
  · exfalso
    revert hc
    repeat' split
    all_goals (intro hc; first | (cases hc; done) | (cases hc; simp [sopKd] at hk; done) | (obtain ⟨y_, hy_, rfl⟩ := Option.map_eq_some_iff.1 hc; simp [sopKd] at hk; done))
  · exfalso
    revert hc
    repeat' split
    all_goals (intro hc; first | (cases hc; done) | (cases hc; simp [sopKd] at hk; done) | (obtain ⟨y_, hy_, rfl⟩ := Option.map_eq_some_iff.1 hc; simp [sopKd] at hk; done))
  · exfalso
    revert hc
    repeat' split
    all_goals (intro hc; first | (cases hc; done) | (cases hc; simp [sopKd] at hk; done) | (obtain ⟨y_, hy_, rfl⟩ := Option.map_eq_some_iff.1 hc; simp [sopKd] at hk; done))
  · exfalso
    revert hc
    repeat' split
    all_goals (intro hc; first | (cases hc; done) | (cases hc; simp [sopKd] at hk; done) | (obtain ⟨y_, hy_, rfl⟩ := Option.map_eq_some_iff.1 hc; simp [sopKd] at hk; done))
  · exfalso
    revert hc
    repeat' split
    all_goals (intro hc; first | (cases hc; done) | (cases hc; simp [sopKd] at hk; done) | (obtain ⟨y_, hy_, rfl⟩ := Option.map_eq_some_iff.1 hc; simp [sopKd] at hk; done))
  · exfalso
    revert hc
    repeat' split
    all_goals (intro hc; first | (cases hc; done) | (cases hc; simp [sopKd] at hk; done) | (obtain ⟨y_, hy_, rfl⟩ := Option.map_eq_some_iff.1 hc; simp [sopKd] at hk; done))
  · exfalso
    revert hc
    repeat' split
    all_goals (intro hc; first | (cases hc; done) | (cases hc; simp [sopKd] at hk; done) | (obtain ⟨y_, hy_, rfl⟩ := Option.map_eq_some_iff.1 hc; simp [sopKd] at hk; done))
  · exfalso
    revert hc
    repeat' split
    all_goals (intro hc; first | (cases hc; done) | (cases hc; simp [sopKd] at hk; done) | (obtain ⟨y_, hy_, rfl⟩ := Option.map_eq_some_iff.1 hc; simp [sopKd] at hk; done))
  · exfalso
    revert hc
    repeat' split
    all_goals (intro hc; first | (cases hc; done) | (cases hc; simp [sopKd] at hk; done) | (obtain ⟨y_, hy_, rfl⟩ := Option.map_eq_some_iff.1 hc; simp [sopKd] at hk; done))
  · exfalso
    revert hc
    repeat' split
    all_goals (intro hc; first | (cases hc; done) | (cases hc; simp [sopKd] at hk; done) | (obtain ⟨y_, hy_, rfl⟩ := Option.map_eq_some_iff.1 hc; simp [sopKd] at hk; done))
  · rename_i ty m x y ho
    split at hc
    · rename_i h1 h2 h3 h4
      split at hc
      · rename_i hk'
        cases hc
        obtain ⟨rfl, w', hr, hs⟩ := b_mapset (.inl ho) h1 hk' h2 h3 h4 sr k h
        exact ⟨_, Go.undef, w', ρ, hr, .inr ⟨rfl, rfl⟩, OK.mk_undef, hs⟩
      · cases hc
    · cases hc
  · rename_i ty m x y ho
    split at hc
    · rename_i h1 h2 h3 h4
      split at hc
      · rename_i hk'
        cases hc
        obtain ⟨rfl, w', hr, hs⟩ := b_mapset (.inr ho) h1 hk' h2 h3 h4 sr k h
        exact ⟨_, Go.undef, w', ρ, hr, .inr ⟨rfl, rfl⟩, OK.mk_undef, hs⟩
      · cases hc
    · cases hc
  · rename_i c ho
    obtain ⟨cal, ar, at_⟩ := c
    simp only at hc
    split at hc
    · split at hc
      · cases hc; simp [sop] at h
      · cases hc
    · split at hc
      · split at hc
        · cases hc; simp [sopKd] at hk
        · cases hc; simp [sopKd] at hk
        · cases hc; simp [sopKd] at hk
        · split at hc
          · cases hc; simp [sopKd] at hk
          · cases hc
        · cases hc
      · cases hc
    · split at hc
      · rename_i x y ty ty' h1 h2
        split at hc
        · rename_i he
          subst he
          obtain rfl : ar = #[x, y] := by apply Array.ext'; simpa using h1
          obtain rfl : at_ = #[ty, ty] := by apply Array.ext'; simpa using h2
          split at hc
          · rename_i hu hx hy
            split at hc
            · rename_i hs hb hz
              split at hc
              · rename_i hcond
                cases hc
                obtain ⟨u, w', ρ', hr, hok, hst⟩ := b_append ho hu hs hb hz hcond.1 hcond.2 hx hy sr k h
                exact ⟨_, u, w', ρ', hr, .inl rfl, hok, hst⟩
              · cases hc
            · cases hc
          · cases hc
        · cases hc
      · cases hc
    · cases hc
  · exfalso
    revert hc
    repeat' split
    all_goals (intro hc; first | (cases hc; done) | (cases hc; simp [sopKd] at hk; done) | (obtain ⟨y_, hy_, rfl⟩ := Option.map_eq_some_iff.1 hc; simp [sopKd] at hk; done))
end
end Go.Proofs.Ytojjhcgbbmknmaa.Sh

/- Least, greatest, copies, texts at a place; all operations that are no calls. -/
namespace Go.Proofs.Ytojjhcgbbmknmaa.Sh
set_option linter.unusedSimpArgs false
set_option linter.unusedVariables false
open Go Go.RowKit

section
variable {P : Program} {w0 : World} {ρ : Rho} {N : Nat} {t : Tr SV} {σ σ' : St} {a : Act} {o : Oper} {v : SV} {so : SOp}

theorem y_minmax {mx : Bool} {x y : Operand} {ats : Array TypeId} (ho : o.op = .call { callee := .builtin (if mx then .max else .min), args := #[x, y], argTypes := ats }) {x' y' : Opd} (hx : compOpd x = some x') (hy : compOpd y = some y') (k : TR w0 ρ t N a.tmps)
    (h : sop (.minmax mx x' y') t σ = some (v, σ')) : σ' = σ ∧ Yld P w0 ρ a o v := by
  simp only [sop] at h
  split at h
  · rename_i k1 A k2 B e1 e2
    cases h
    refine ⟨rfl, fun w => ?_⟩
    have h1 := (opd_ok hx k).int e1
    have h2 := (opd_ok hy k).int e2
    cases mx with
    | true => exact ⟨_, by simp [execOp, ho, resolve, invoke, Go.builtin, Builtin.max_, Builtin.max2, h1, h2]; rfl, OK.mk_sc (s := .int k1 _)⟩
    | false => exact ⟨_, by simp [execOp, ho, resolve, invoke, Go.builtin, Builtin.min_, Builtin.min2, h1, h2]; rfl, OK.mk_sc (s := .int k1 _)⟩
  · cases h

theorem y_idxStr {ty : TypeId} {x i : Operand} (ho : o.op = .index ty x i) (hu : P.underlying ty = some .string) {x' i' : Opd} (hx : compOpd x = some x') (hi : compOpd i = some i') (k : TR w0 ρ t N a.tmps)
    (h : sop (.idxStr x' i') t σ = some (v, σ')) : σ' = σ ∧ Yld P w0 ρ a o v := by
  simp only [sop] at h
  split at h
  · rename_i s kd n e1 e2
    split at h
    · rename_i h0
      obtain ⟨b, hb, e⟩ := Option.map_eq_some_iff.1 h
      cases e
      refine ⟨rfl, fun w => ?_⟩
      have h1 : a.eval x = .string s := by have := (opd_ok hx k).1; rw [e1] at this; simpa only [VR, Sc.val] using this
      have h2 := (opd_ok hi k).int e2
      exact ⟨_, by simp [execOp, ho, Instr.index, h1, h2, asIntOf, run_underlying hu, h0, hb]; rfl, OK.mk_sc (s := .int .u8 _)⟩
    · cases h
  · cases h

/-- Cells are written. -/
theorem write_cells {w : World} (sr : SR P w0 ρ σ w) {id : Nat} {p : Pl} {cs new : List SV} {us : List Value} (hp : ρ id = some p) (hg : σ.get id = some (.cells cs)) (f1 : OKs w0 ρ new us) (f2 : allOne new) {off q : Nat} (hq : q = p.base + off ∨ us = []) (hle : off + new.length ≤ cs.length) :
    ∃ w', (storeCells ⟨p.blk, q, none⟩ us).run P w = .ok () w' ∧ Step1 P w0 ρ σ w ρ (σ.set id (.cells (paste cs off new))) w' := by
  have hob := sr.obs id p hp
  rw [hg] at hob
  obtain ⟨A, ty', hb, hs, hfit, hcs, hone⟩ := hob
  have hlen := f1.len
  have h1c := VRs.all_one f1.1 f2
  obtain ⟨q1, q2⟩ := paste_ok hcs hone f1 f2 off
  have hpl : (paste cs off new).length = cs.length := by rw [paste_def]; simp; omega
  have hcl := hcs.len
  by_cases hus : us = []
  · subst hus
    refine ⟨w, by simp [storeCells], sr.write hp (by rw [hg]; simp) rfl hb (fun _ _ => rfl) rfl rfl rfl ?_ (fun r hr => by rw [hb] at hr; cases hr)⟩
    have hnil : new = [] := List.length_eq_zero_iff.1 (by simpa using hlen.symm)
    subst hnil
    have : paste cs off [] = cs := by rw [paste_def]; simp
    rw [this]
    exact ⟨A, ty', hb, hs, hfit, hcs, hone⟩
  · have hq : q = p.base + off := hq.resolve_right hus
    subst hq
    have hst := run_storeCells_at P p.blk (p.base + off) ty' us 0 A w hb (by omega) h1c
    simp only [Nat.add_zero] at hst
    refine ⟨_, hst, ?_⟩
    have hsr := setRow_heap w p.blk A (A.toList.take (p.base + off) ++ us ++ A.toList.drop (p.base + off + us.length)).toArray ty' _ hb
    refine sr.write hp (by rw [hg]; simp) (by simp [World.setRow]) hsr (fun k hk => setRow_other w p.blk k _ hk) rfl rfl rfl ?_ (fun r hr => by rw [hb] at hr; cases hr)
    refine ⟨_, ty', hsr, by simp; omega, by rw [hpl]; omega, ?_, q2⟩
    rw [hpl]
    have key := seg_paste A.toList us p.base cs.length off (by simp; omega) (by omega)
    simp only [List.toList_toArray]
    rw [key]
    exact q1

theorem cells_get {id : Nat} {cs : List SV} (h : cellsOf σ id = some cs) : σ.get id = some (.cells cs) := by
  unfold cellsOf at h
  split at h <;> first | (cases h; assumption) | cases h

theorem OK.sl {id off len sz : Nat} {u : Value} (h : OK w0 ρ (.sl id off len sz) u) : ∃ p cap o, ρ id = some p ∧ u = .slice (some ⟨p.blk, o, none⟩) len cap ∧ (o = p.base + off ∨ cap = 0) ∧ len ≤ cap ∧ 0 < sz ∧ (0 < cap → p.base + off + cap * sz ≤ p.size) := by
  have := h.1
  simpa only [VR] using this

theorem b_copy {w : World} {ty ty' e : TypeId} {x y : Operand} (ho : o.op = .call { callee := .builtin .copy, args := #[x, y], argTypes := #[ty, ty'] }) {n : Nat} {x' y' : Opd} (hu : P.underlying ty = some (.slice e)) (hs : szT P e = some n) (h0 : 0 < n)
    (hx : compOpd x = some x') (hy : compOpd y = some y') (sr : SR P w0 ρ σ w) (k : TR w0 ρ t N a.tmps) (h : sop (.copy n x' y') t σ = some (v, σ')) :
    ∃ u w' ρ', (execOp a.eval o).run P w = .ok (.value u) w' ∧ OK w0 ρ' v u ∧ Step1 P w0 ρ σ w ρ' σ' w' := by
  simp only [sop] at h
  obtain ⟨new, hnew, h⟩ := Option.bind_eq_some_iff.1 h
  obtain ⟨m, hm, h⟩ := Option.bind_eq_some_iff.1 h
  have hsrc := row_ok sr (opd_ok hy k) hnew hm
  -- what is read
  have rd : ∀ j : Nat, j ≤ m → new.length = m * n → ∃ us : List Value, (Builtin.lenOf (a.eval y)).run P w = .ok m w ∧ (Builtin.firstCells n j (a.eval y)).run P w = .ok us.toArray w ∧ OKs w0 ρ (new.take (j * n)) us ∧ allOne (new.take (j * n)) := by
    intro j hj hl
    rcases hsrc with ⟨e1, rfl, rfl⟩ | ⟨A, c, us, e1, k1, k2, k3⟩
    · refine ⟨[], by simp [e1, Builtin.lenOf], by simp [e1, Builtin.firstCells], by simp [OKs, VRs, wfs], by simp [allOne]⟩
    · have hlu := k1.len
      have hle : j * n ≤ m * n := Nat.mul_le_mul_right _ hj
      refine ⟨us.take (j * n), by simp [e1, Builtin.lenOf], ?_, k1.take _, allOne_take k2⟩
      rw [e1]
      exact run_firstCells_some (P := P) w n j A m c _ (by simp; omega) (fun i u hi => k3 i u (by
        rw [List.getElem?_take] at hi
        split at hi
        · exact hi
        · cases hi))
  split at h
  · rename_i e1
    split at h
    · rename_i hl
      cases h
      have hX : a.eval x = .slice none 0 0 := by have := (opd_ok hx k).1; rw [e1] at this; simpa only [VR, Sc.val] using this
      obtain ⟨us, r1, r2, _⟩ := rd 0 (Nat.zero_le _) hl
      refine ⟨.int .i64 0, w, ρ, ?_, OK.mk_int, Step1.refl sr⟩
      simp [execOp, ho, resolve, invoke, Go.builtin, Builtin.copy_, run_underlying hu, run_sizeOf hs, hX, r1, r2, goInt]
    · cases h
  · rename_i id off len sz' e1
    obtain ⟨cs, hcs, h⟩ := Option.bind_eq_some_iff.1 h
    split at h
    · rename_i hc
      obtain ⟨rfl, hl, hfit⟩ := hc
      cases h
      have hX0 := opd_ok hx k
      rw [e1] at hX0
      obtain ⟨p, cap, q, hp, hX, hq, hlc, _, _⟩ := hX0.sl
      obtain ⟨us, r1, r2, r3, r4⟩ := rd (Nat.min m len) (Nat.min_le_left _ _) hl
      have hmul : Nat.min m len * sz' ≤ len * sz' := Nat.mul_le_mul_right _ (Nat.min_le_right _ _)
      have hmul2 : Nat.min m len * sz' ≤ m * sz' := Nat.mul_le_mul_right _ (Nat.min_le_left _ _)
      have hlt : (new.take (Nat.min m len * sz')).length = Nat.min m len * sz' := by simp; omega
      have hq' : q = p.base + off ∨ us = [] := by
        rcases hq with e | e
        · exact .inl e
        · have hlen0 : len = 0 := by omega
          have := r3.len
          rw [hlt] at this
          subst hlen0
          have hz : Nat.min m 0 = 0 := Nat.min_zero m
          rw [hz, Nat.zero_mul] at this
          exact .inr (List.length_eq_zero_iff.1 this)
      obtain ⟨w', hw', hst⟩ := write_cells sr hp (cells_get hcs) r3 r4 hq' (by rw [hlt]; omega)
      refine ⟨.int .i64 (Nat.min m len : Nat), w', ρ, ?_, OK.mk_int, hst⟩
      simp [execOp, ho, resolve, invoke, Go.builtin, Builtin.copy_, run_underlying hu, run_sizeOf hs, hX, r1, r2, goInt, hw']
    · cases h
  · cases h

theorem b_clear {w : World} {ty e : TypeId} {x : Operand} (ho : o.op = .call { callee := .builtin .clear, args := #[x], argTypes := #[ty] }) {n : Nat} {zs : List SV} {x' : Opd} (hu : P.underlying ty = some (.slice e)) (hs : szT P e = some n) (hz : zsT P e = some zs) (h0 : 0 < n) (hzl : zs.length = n)
    (hx : compOpd x = some x') (sr : SR P w0 ρ σ w) (k : TR w0 ρ t N a.tmps) (h : sop (.clear n zs x') t σ = some (v, σ')) :
    ∃ u w' ρ', (execOp a.eval o).run P w = .ok (.value u) w' ∧ OK w0 ρ' v u ∧ Step1 P w0 ρ σ w ρ' σ' w' := by
  have hv : OK w0 ρ (.tup []) (.tuple #[]) := ⟨by simp [VR, VRs], by simp [SV.wf, wfs]⟩
  simp only [sop] at h
  split at h
  · rename_i e1
    cases h
    have hX : a.eval x = .slice none 0 0 := by have := (opd_ok hx k).1; rw [e1] at this; simpa only [VR, Sc.val] using this
    exact ⟨.tuple #[], w, ρ, by simp [execOp, ho, resolve, invoke, Go.builtin, Builtin.clear_, run_underlying hu, hX], hv, Step1.refl sr⟩
  · rename_i id off len sz' e1
    obtain ⟨cs, hcs, h2⟩ := Option.bind_eq_some_iff.1 h
    clear h
    have h := h2
    clear h2
    split at h
    · rename_i hc
      obtain ⟨hsz, hfit⟩ := hc
      subst hsz
      simp only [Option.some.injEq, Prod.mk.injEq] at h
      obtain ⟨rfl, rfl⟩ := h
      have hX0 := opd_ok hx k
      rw [e1] at hX0
      obtain ⟨p, cap, q, hp, hX, hq, hlc, _, _⟩ := hX0.sl
      obtain ⟨i, z, hi, hiz, k1, k2⟩ := zsT_ok (w0 := w0) (ρ := ρ) hz
      by_cases hlen : len = 0
      · subst hlen
        obtain ⟨w', hw', hst⟩ := write_cells sr hp (cells_get hcs) (new := []) (us := []) (by simp [OKs, VRs, wfs]) (by simp [allOne]) (off := off) (q := q) (.inr rfl) (by simp; omega)
        have : w' = w := by simpa [storeCells] using hw'.symm
        subst this
        refine ⟨.tuple #[], w', ρ, by simp [execOp, ho, resolve, invoke, Go.builtin, Builtin.clear_, run_underlying hu, hX], hv, ?_⟩
        simpa using hst
      · have hq' : q = p.base + off := hq.resolve_right (by omega)
        have hzz := zeros_ok k1 (by omega) len
        have hl1 : (List.replicate len zs).flatten.length = len * sz' := by simp [hzl]
        have hone : allOne (List.replicate len zs).flatten := by
          intro c hm
          obtain ⟨l, hl, hm⟩ := List.mem_flatten.1 hm
          rw [(List.mem_replicate.1 hl).2] at hm
          exact k2 c hm
        obtain ⟨w', hw', hst⟩ := write_cells sr hp (cells_get hcs) hzz hone (off := off) (q := q) (.inl hq') (by rw [hl1]; omega)
        have hzsz : z.cells.size = zs.length := by have := k1.len; simpa using this
        have hw2 : (storeCells ⟨p.blk, q, none⟩ (Builtin.zeroCells z.cells len).toList).run P w = .ok () w' := by
          unfold Builtin.zeroCells
          rw [hzsz] at hw' ⊢; exact hw'
        refine ⟨.tuple #[], w', ρ, ?_, hv, hst⟩
        obtain ⟨l', hl'⟩ : ∃ l', len = l' + 1 := ⟨len - 1, by omega⟩
        subst hl'
        simp [execOp, ho, resolve, invoke, Go.builtin, Builtin.clear_, run_underlying hu, hX, zeroValue, typeInfo, hi, hiz, hw2]
    · cases h
  · cases h

theorem compOp_inv (h : compOp P o = some so) : compOp1 P o = some so ∨ compOp2 P o = some so ∨ so = .bad := by
  unfold compOp at h
  split at h
  · cases h; exact .inl (by assumption)
  · split at h
    · cases h; exact .inr (.inl (by assumption))
    · split at h
      · cases h
      · cases h; exact .inr (.inr rfl)
theorem sop_bad : sop .bad t σ = none := rfl

theorem comp2_inv (h : compOp2 P o = some so) :
    (∃ mx x y x' y' ats, o.op = .call { callee := .builtin (if mx then .max else .min), args := #[x, y], argTypes := ats } ∧ compOpd x = some x' ∧ compOpd y = some y' ∧ so = .minmax mx x' y') ∨
    (∃ ty ty' e x y x' y' n, o.op = .call { callee := .builtin .copy, args := #[x, y], argTypes := #[ty, ty'] } ∧ P.underlying ty = some (.slice e) ∧ szT P e = some n ∧ 0 < n ∧ compOpd x = some x' ∧ compOpd y = some y' ∧ so = .copy n x' y') ∨
    (∃ ty e x x' n zs, o.op = .call { callee := .builtin .clear, args := #[x], argTypes := #[ty] } ∧ P.underlying ty = some (.slice e) ∧ szT P e = some n ∧ zsT P e = some zs ∧ 0 < n ∧ zs.length = n ∧ compOpd x = some x' ∧ so = .clear n zs x') ∨
    (∃ ty x i x' i', o.op = .index ty x i ∧ P.underlying ty = some .string ∧ compOpd x = some x' ∧ compOpd i = some i' ∧ so = .idxStr x' i') := by
  unfold compOp2 at h
  split at h
  · rename_i c ho
    have arr : ∀ {α : Type} {A : Array α} {l : List α}, A.toList = l → A = l.toArray := fun h => by subst h; simp
    obtain ⟨cal, as, ats⟩ := c
    simp only at h
    split at h
    · rename_i e1 e2
      split at h
      · rename_i h1 h2
        cases h
        have := arr e2; subst this
        exact .inl ⟨false, _, _, _, _, ats, ho, h1, h2, rfl⟩
      · cases h
    · rename_i e1 e2
      split at h
      · rename_i h1 h2
        cases h
        have := arr e2; subst this
        exact .inl ⟨true, _, _, _, _, ats, ho, h1, h2, rfl⟩
      · cases h
    · rename_i e2 e3
      split at h
      · rename_i h1 h2 h3
        split at h
        · rename_i hs
          split at h
          · rename_i h0
            cases h
            have := arr e2; subst this
            have := arr e3; subst this
            exact .inr (.inl ⟨_, _, _, _, _, _, _, _, ho, h1, hs, h0, h2, h3, rfl⟩)
          · cases h
        · cases h
      · cases h
    · rename_i e2 e3
      split at h
      · rename_i h1 h2
        split at h
        · rename_i hs hz
          split at h
          · rename_i h0
            cases h
            have := arr e2; subst this
            have := arr e3; subst this
            exact .inr (.inr (.inl ⟨_, _, _, _, _, _, ho, h1, hs, hz, h0.1, h0.2, h2, rfl⟩))
          · cases h
        · cases h
      · cases h
    · cases h
  · rename_i ho
    split at h
    · rename_i h1 h2 h3
      cases h
      exact .inr (.inr (.inr ⟨_, _, _, _, _, ho, h1, h2, h3, rfl⟩))
    · cases h
  · cases h

theorem pure_sound (hc : compOp P o = some so) (hk : sopKd so = .pure) (k : TR w0 ρ t N a.tmps) (h : sop so t σ = some (v, σ')) : σ' = σ ∧ Yld P w0 ρ a o v := by
  rcases compOp_inv hc with h1 | h1 | rfl
  · exact pure_sound1 h1 hk k h
  · rcases comp2_inv h1 with ⟨_, _, _, _, _, _, ho, e1, e2, rfl⟩ | ⟨_, _, _, _, _, _, _, _, _, _, _, _, _, _, rfl⟩ | ⟨_, _, _, _, _, _, _, _, _, _, _, _, _, rfl⟩ | ⟨_, _, _, _, _, ho, e1, e2, e3, rfl⟩
    · exact y_minmax ho e1 e2 k h
    · simp [sopKd] at hk
    · simp [sopKd] at hk
    · exact y_idxStr ho e1 e2 e3 k h
  · rw [sop_bad] at h; cases h
theorem reads_sound {w : World} (hc : compOp P o = some so) (hk : sopKd so = .reads) (sr : SR P w0 ρ σ w) (k : TR w0 ρ t N a.tmps) (h : sop so t σ = some (v, σ')) : σ' = σ ∧ ∃ u, (execOp a.eval o).run P w = .ok (.value u) w ∧ OK w0 ρ v u := by
  rcases compOp_inv hc with h1 | h1 | rfl
  · exact reads_sound1 h1 hk sr k h
  · rcases comp2_inv h1 with ⟨_, _, _, _, _, _, ho, e1, e2, rfl⟩ | ⟨_, _, _, _, _, _, _, _, _, _, _, _, _, _, rfl⟩ | ⟨_, _, _, _, _, _, _, _, _, _, _, _, _, rfl⟩ | ⟨_, _, _, _, _, ho, e1, e2, e3, rfl⟩ <;> simp [sopKd] at hk
  · rw [sop_bad] at h; cases h
theorem alloc_sound (hc : compOp P o = some so) (hk : sopKd so = .alloc) (k : TR w0 ρ t N a.tmps) (h : sop so t σ = some (v, σ')) : Lays P w0 ρ σ a o v σ' := by
  rcases compOp_inv hc with h1 | h1 | rfl
  · exact alloc_sound1 h1 hk k h
  · rcases comp2_inv h1 with ⟨_, _, _, _, _, _, ho, e1, e2, rfl⟩ | ⟨_, _, _, _, _, _, _, _, _, _, _, _, _, _, rfl⟩ | ⟨_, _, _, _, _, _, _, _, _, _, _, _, _, rfl⟩ | ⟨_, _, _, _, _, ho, e1, e2, e3, rfl⟩ <;> simp [sopKd] at hk
  · rw [sop_bad] at h; cases h
theorem big_sound {w : World} (hc : compOp P o = some so) (hk : sopKd so = .big) (sr : SR P w0 ρ σ w) (k : TR w0 ρ t N a.tmps) (h : sop so t σ = some (v, σ')) :
    ∃ nx u w' ρ', (execOp a.eval o).run P w = .ok nx w' ∧ (nx = .value u ∨ (nx = .skip ∧ u = Go.undef)) ∧ OK w0 ρ' v u ∧ Step1 P w0 ρ σ w ρ' σ' w' := by
  rcases compOp_inv hc with h1 | h1 | rfl
  · exact big_sound1 h1 hk sr k h
  · rcases comp2_inv h1 with ⟨_, _, _, _, _, _, ho, e1, e2, rfl⟩ | ⟨_, _, _, _, _, _, _, _, ho, e1, e2, e3, e4, e5, rfl⟩ | ⟨_, _, _, _, _, _, ho, e1, e2, e3, e4, e5, e6, rfl⟩ | ⟨_, _, _, _, _, ho, e1, e2, e3, rfl⟩
    · simp [sopKd] at hk
    · obtain ⟨u, w', ρ', q1, q2, q3⟩ := b_copy ho e1 e2 e3 e4 e5 sr k h
      exact ⟨_, u, w', ρ', q1, .inl rfl, q2, q3⟩
    · obtain ⟨u, w', ρ', q1, q2, q3⟩ := b_clear ho e1 e2 e3 e4 e5 e6 sr k h
      exact ⟨_, u, w', ρ', q1, .inl rfl, q2, q3⟩
    · simp [sopKd] at hk
  · rw [sop_bad] at h; cases h
end
end Go.Proofs.Ytojjhcgbbmknmaa.Sh
