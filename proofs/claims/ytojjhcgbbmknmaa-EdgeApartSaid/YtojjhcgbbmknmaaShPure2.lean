/- Operations that neither read nor write memory, one by one. -/
import Derived.Test.YtojjhcgbbmknmaaShPure
import Derived.Laws.Tables
namespace Go.Proofs.Ytojjhcgbbmknmaa.Sh
set_option linter.unusedSimpArgs false
set_option linter.unusedVariables false
open Go Go.RowKit

/-- The machine's operation yields what the shadow's does, and leaves the world. -/
def Yld (P : Program) (w0 : World) (ρ : Rho) (a : Act) (o : Oper) (v : SV) : Prop := ∀ w, ∃ u, (execOp a.eval o).run P w = .ok (.value u) w ∧ OK w0 ρ v u

section
variable {P : Program} {w0 : World} {ρ : Rho} {N : Nat} {t : Tr SV} {σ σ' : St} {a : Act} {o : Oper} {v : SV} {so : SOp}

theorem y_mv {x : Operand} (ho : o.op = .move x ∨ o.op = .assign x) {y : Opd} (hx : compOpd x = some y) (k : TR w0 ρ t N a.tmps) : Yld P w0 ρ a o (y.ev t) := fun w =>
  ⟨a.eval x, by rcases ho with ho | ho <;> simp [execOp, ho], opd_ok hx k⟩

theorem y_pick {c x y : Operand} (ho : o.op = .pick c x y) {c' x' y' : Opd} (hc : compOpd c = some c') (hx : compOpd x = some x') (hy : compOpd y = some y') (k : TR w0 ρ t N a.tmps)
    (h : sop (.pick c' x' y') t σ = some (v, σ')) : σ' = σ ∧ Yld P w0 ρ a o v := by
  simp only [sop] at h
  split at h
  · rename_i e
    cases h
    refine ⟨rfl, fun w => ⟨a.eval x, ?_, opd_ok hx k⟩⟩
    have := (opd_ok hc k).bool e
    simp [execOp, ho, this, asBool]
  · rename_i e
    cases h
    refine ⟨rfl, fun w => ⟨a.eval y, ?_, opd_ok hy k⟩⟩
    have := (opd_ok hc k).bool e
    simp [execOp, ho, this, asBool]
  · cases h

theorem y_un {op : UnOp} {ty : TypeId} {x : Operand} (ho : o.op = .unOp op ty x) {y : Opd} (hx : compOpd x = some y) (k : TR w0 ρ t N a.tmps)
    (h : sop (.un op y) t σ = some (v, σ')) : σ' = σ ∧ Yld P w0 ρ a o v := by
  simp only [sop, Option.map_eq_some_iff, Prod.mk.injEq] at h
  obtain ⟨v', h1, rfl, rfl⟩ := h
  refine ⟨rfl, fun w => ?_⟩
  have hok := opd_ok hx k
  unfold unSV at h1
  split at h1
  · rename_i e
    cases h1
    have := hok.bool e
    exact ⟨_, by simp [execOp, ho, this, Op.unary], OK.mk_bool⟩
  · rename_i e
    cases h1
    have := hok.int e
    exact ⟨_, by simp [execOp, ho, this, Op.unary, Op.intArith]; rfl, OK.mk_sc⟩
  · cases h1

theorem y_conv {src dst : TypeId} {x : Operand} (ho : o.op = .convert src dst x) {j k' : IntKind} (hs : P.underlying src = some (.int j)) (hd : P.underlying dst = some (.int k')) {y : Opd} (hx : compOpd x = some y) (k : TR w0 ρ t N a.tmps)
    (h : sop (.conv k' y) t σ = some (v, σ')) : σ' = σ ∧ Yld P w0 ρ a o v := by
  simp only [sop] at h
  split at h
  · rename_i e
    cases h
    have := (opd_ok hx k).int e
    exact ⟨rfl, fun w => ⟨_, by simp [execOp, ho, this, Go.convert, run_underlying hs, run_underlying hd, Conv.intToInt]; rfl, OK.mk_sc⟩⟩
  · cases h

theorem y_mkfn {f : Nat} {fs cs : Array Operand} (ho : o.op = .makeFunc (.func f) fs cs) {fs' cs' : List Opd} (h1 : compOpds fs.toList = some fs') (h2 : compOpds cs.toList = some cs') (k : TR w0 ρ t N a.tmps)
    (h : sop (.mkfn f fs' cs') t σ = some (v, σ')) : σ' = σ ∧ Yld P w0 ρ a o v := by
  simp only [sop, Option.some.injEq, Prod.mk.injEq] at h
  obtain ⟨rfl, rfl⟩ := h
  refine ⟨rfl, fun w => ⟨.func (.func f) (fs.map a.eval) (cs.map a.eval), by simp [execOp, ho, Instr.makeFunc], ?_⟩⟩
  have k1 := opds_ok h1 k
  have k2 := opds_ok h2 k
  exact ⟨by simp only [VR]; exact ⟨_, _, rfl, by simpa using k1.1, by simpa using k2.1⟩, k1.2, k2.2⟩

theorem y_fieldA {ty : TypeId} {x : Operand} {i : Nat} (ho : o.op = .fieldAddr ty x i) {fs : Array Field} {f : Field} (hu : P.underlying ty = some (.struct fs)) (hf : fs[i]? = some f) {n : Nat} (hn : szT P f.type = some n) (h0 : 0 < n)
    {y : Opd} (hx : compOpd x = some y) (k : TR w0 ρ t N a.tmps) (h : sop (.fieldA f.offset y) t σ = some (v, σ')) : σ' = σ ∧ Yld P w0 ρ a o v := by
  have hok := opd_ok hx k
  have hne : n ≠ 0 := by omega
  have key : ∀ (A : Addr), A.spot = none → a.eval x = .pointer (some A) → ∀ w, (execOp a.eval o).run P w = .ok (.value (.pointer (some ⟨A.block, A.off + f.offset, none⟩))) w := by
    intro A hA he w
    obtain ⟨b, off, s⟩ := A
    simp only at hA; subst hA
    simp [execOp, ho, he, Instr.fieldAt, run_underlying hu, hf, Instr.sureAddr, fieldPlace, run_sizeOf hn, hne, Addr.add_lit]
  simp only [sop] at h
  split at h
  · rename_i id off e
    cases h
    rw [e] at hok
    obtain ⟨p, h1, h2⟩ := (by simpa only [VR] using hok.1 : ∃ p, ρ id = some p ∧ a.eval x = .pointer (some ⟨p.blk, p.base + off, none⟩))
    refine ⟨rfl, fun w => ⟨_, key _ rfl h2 w, ?_, trivial⟩⟩
    simp only [VR]
    exact ⟨p, h1, by simp [Nat.add_assoc]⟩
  · rename_i cs off e
    cases h
    rw [e] at hok
    obtain ⟨A, vs, h1, h2, h3⟩ := (by simpa only [VR] using hok.1 : ∃ A vs, a.eval x = .pointer (some ⟨A.block, A.off + off, none⟩) ∧ VRs w0 ρ cs vs ∧ Lies w0 ρ A vs)
    refine ⟨rfl, fun w => ⟨_, key _ rfl h1 w, ?_, hok.2⟩⟩
    simp only [VR]
    exact ⟨A, vs, by simp [Nat.add_assoc], h2, h3⟩
  · cases h

theorem y_field {ty : TypeId} {x : Operand} {i : Nat} (ho : o.op = .field ty x i) {fs : Array Field} {f : Field} (hu : P.underlying ty = some (.struct fs)) (hf : fs[i]? = some f) {n : Nat} {ag : Bool} (hn : szT P f.type = some n) (hag : agT P f.type = some ag)
    {y : Opd} (hx : compOpd x = some y) (k : TR w0 ρ t N a.tmps) (h : sop (.field ag f.offset n y) t σ = some (v, σ')) : σ' = σ ∧ Yld P w0 ρ a o v := by
  have hok := opd_ok hx k
  simp only [sop] at h
  split at h
  · rename_i cs e
    simp only [Option.map_eq_some_iff, Prod.mk.injEq] at h
    obtain ⟨v', h1, rfl, rfl⟩ := h
    obtain ⟨A, hA, hc, hone⟩ := hok.agg e
    refine ⟨rfl, fun w => ?_⟩
    obtain ⟨u, hr, hu'⟩ := run_part (P := P) (w := w) (ty := f.type) hag hn hc hone h1
    exact ⟨u, by simp [execOp, ho, hA, Instr.field, run_underlying hu, hf, asAgg, hr], hu'⟩
  · cases h

theorem y_index {ty : TypeId} {x i : Operand} (ho : o.op = .index ty x i) {n s : Nat} {e : TypeId} {ag : Bool} (hu : P.underlying ty = some (.array n e)) (hn : szT P e = some s) (hag : agT P e = some ag)
    {x' i' : Opd} (hx : compOpd x = some x') (hi : compOpd i = some i') (k : TR w0 ρ t N a.tmps) (h : sop (.index n s ag x' i') t σ = some (v, σ')) : σ' = σ ∧ Yld P w0 ρ a o v := by
  simp only [sop] at h
  split at h
  · rename_i j cs e1 e2
    split at h
    · rename_i hb
      simp only [Option.map_eq_some_iff, Prod.mk.injEq] at h
      obtain ⟨v', h1, rfl, rfl⟩ := h
      obtain ⟨A, hA, hc, hone⟩ := (opd_ok hx k).agg e2
      obtain ⟨kd, hI⟩ := (opd_ok hi k).intOf e1
      refine ⟨rfl, fun w => ?_⟩
      obtain ⟨u, hr, hu'⟩ := run_part (P := P) (w := w) (ty := e) hag hn hc hone h1
      exact ⟨u, by simp [execOp, ho, hA, hI, Instr.index, asIntOf, run_underlying hu, hb, run_sizeOf hn, hr], hu'⟩
    · cases h
  · cases h

theorem y_indexArr {ty : TypeId} {x i : Operand} (ho : o.op = .indexAddr ty x i) {n s : Nat} {e : TypeId} (hu : P.underlying ty = some (.array n e)) (hn : szT P e = some s)
    {x' i' : Opd} (hx : compOpd x = some x') (hi : compOpd i = some i') (k : TR w0 ρ t N a.tmps) (h : sop (.indexArr n s x' i') t σ = some (v, σ')) : σ' = σ ∧ Yld P w0 ρ a o v := by
  have hok := opd_ok hx k
  simp only [sop] at h
  split at h
  · rename_i j e1
    split at h
    · rename_i hb
      obtain ⟨kd, hI⟩ := (opd_ok hi k).intOf e1
      have key : ∀ (A : Addr), A.spot = none → a.eval x = .pointer (some A) → ∀ w, (execOp a.eval o).run P w = .ok (.value (.pointer (some ⟨A.block, A.off + j.toNat * s, none⟩))) w := by
        intro A hA he w
        obtain ⟨b, off, sp⟩ := A
        simp only at hA; subst hA
        simp [execOp, ho, he, hI, Instr.indexAt, asIntOf, run_underlying hu, Instr.sureAddr, hb, run_sizeOf hn, Addr.add_lit]
      split at h
      · rename_i id off e
        cases h
        rw [e] at hok
        obtain ⟨p, h1, h2⟩ := (by simpa only [VR] using hok.1 : ∃ p, ρ id = some p ∧ a.eval x = .pointer (some ⟨p.blk, p.base + off, none⟩))
        refine ⟨rfl, fun w => ⟨_, key _ rfl h2 w, ?_, trivial⟩⟩
        simp only [VR]
        exact ⟨p, h1, by simp [Nat.add_assoc]⟩
      · rename_i cs off e
        cases h
        rw [e] at hok
        obtain ⟨A, vs, h1, h2, h3⟩ := (by simpa only [VR] using hok.1 : ∃ A vs, a.eval x = .pointer (some ⟨A.block, A.off + off, none⟩) ∧ VRs w0 ρ cs vs ∧ Lies w0 ρ A vs)
        refine ⟨rfl, fun w => ⟨_, key _ rfl h1 w, ?_, hok.2⟩⟩
        simp only [VR]
        exact ⟨A, vs, by simp [Nat.add_assoc], h2, h3⟩
      · cases h
    · cases h
  · cases h

theorem y_indexSl {ty : TypeId} {x i : Operand} (ho : o.op = .indexAddr ty x i) {s : Nat} {e : TypeId} (hu : P.underlying ty = some (.slice e)) (hn : szT P e = some s)
    {x' i' : Opd} (hx : compOpd x = some x') (hi : compOpd i = some i') (k : TR w0 ρ t N a.tmps) (h : sop (.indexSl s x' i') t σ = some (v, σ')) : σ' = σ ∧ Yld P w0 ρ a o v := by
  have hok := opd_ok hx k
  simp only [sop] at h
  split at h
  · rename_i j e1
    obtain ⟨kd, hI⟩ := (opd_ok hi k).intOf e1
    have key : ∀ (A : Addr) (len cap : Nat), A.spot = none → a.eval x = .slice (some A) len cap → 0 ≤ j ∧ j < len → ∀ w, (execOp a.eval o).run P w = .ok (.value (.pointer (some ⟨A.block, A.off + j.toNat * s, none⟩))) w := by
      intro A len cap hA he hb w
      obtain ⟨b, off, sp⟩ := A
      simp only at hA; subst hA
      simp [execOp, ho, he, hI, Instr.indexAt, asIntOf, run_underlying hu, hb, run_sizeOf hn, Addr.add_lit]
    split at h
    · rename_i id off len sz e
      split at h
      · rename_i hb
        cases h
        rw [e] at hok
        obtain ⟨p, cap, oo, h1, h2, h3, h4, h5, h6⟩ := (by simpa only [VR] using hok.1 : ∃ p cap oo, ρ id = some p ∧ a.eval x = .slice (some ⟨p.blk, oo, none⟩) len cap ∧ (oo = p.base + off ∨ cap = 0) ∧ len ≤ cap ∧ 0 < sz ∧ (0 < cap → p.base + off + cap * sz ≤ p.size))
        refine ⟨rfl, fun w => ⟨_, key _ _ _ rfl h2 hb w, ?_, trivial⟩⟩
        simp only [VR]
        have : oo = p.base + off := by rcases h3 with h3 | h3 <;> omega
        exact ⟨p, h1, by simp [this, Nat.add_assoc]⟩
      · cases h
    · rename_i len sz cs e
      split at h
      · rename_i hb
        cases h
        rw [e] at hok
        obtain ⟨A, cap, vs, h1, h2, h3, h4, h5⟩ := (by simpa only [VR] using hok.1 : ∃ A cap vs, a.eval x = .slice (some A) len cap ∧ len ≤ cap ∧ VRs w0 ρ cs vs ∧ Lies w0 ρ A vs ∧ cs.length = len * sz ∧ 0 < sz)
        have hne : vs ≠ [] := by
          rintro rfl
          have := h3.len
          have h6 : 0 < len * sz := Nat.mul_pos (by omega) h5.2
          simp at this; omega
        refine ⟨rfl, fun w => ⟨_, key _ _ _ (h4.1 hne) h1 hb w, ?_, hok.2⟩⟩
        simp only [VR]
        exact ⟨A, vs, rfl, h3, h4⟩
      · cases h
    · cases h
  · cases h

theorem y_extract {x : Operand} {i : Nat} (ho : o.op = .extract x i) {y : Opd} (hx : compOpd x = some y) (k : TR w0 ρ t N a.tmps)
    (h : sop (.extract y i) t σ = some (v, σ')) : σ' = σ ∧ Yld P w0 ρ a o v := by
  have hok := opd_ok hx k
  simp only [sop] at h
  split at h
  · rename_i vs e
    simp only [Option.map_eq_some_iff, Prod.mk.injEq] at h
    obtain ⟨v', h1, rfl, rfl⟩ := h
    rw [e] at hok
    obtain ⟨A, h2, h3⟩ := (by simpa only [VR] using hok.1 : ∃ A : Array Value, a.eval x = .tuple A ∧ VRs w0 ρ vs A.toList)
    obtain ⟨u, h4, h5⟩ := h3.get h1
    refine ⟨rfl, fun w => ⟨u, ?_, h5, wfs_iff.1 hok.2 _ (List.mem_of_getElem? h1)⟩⟩
    have h4' : A[i]? = some u := by simpa using h4
    simp [execOp, ho, h2, Instr.extract, h4']
  · cases h

theorem y_nilchk {x : Operand} (ho : o.op = .nilCheck x) {y : Opd} (hx : compOpd x = some y) (k : TR w0 ρ t N a.tmps)
    (h : sop (.nilchk y) t σ = some (v, σ')) : σ' = σ ∧ Yld P w0 ρ a o v := by
  have hok := opd_ok hx k
  have hv : v = y.ev t ∧ σ' = σ := by
    simp only [sop] at h
    split at h <;> first | (rename_i e; cases h; exact ⟨e.symm, rfl⟩) | cases h
  obtain ⟨rfl, rfl⟩ := hv
  refine ⟨rfl, fun w => ⟨a.eval x, ?_, hok⟩⟩
  simp only [sop] at h
  split at h
  · rename_i e
    rw [e] at hok
    obtain ⟨p, _, h2⟩ := (by simpa only [VR] using hok.1 : ∃ p : Pl, _ ∧ a.eval x = _)
    simp [execOp, ho, h2]
  · rename_i e
    rw [e] at hok
    obtain ⟨p, _, h2, _⟩ := (by simpa only [VR] using hok.1 : ∃ (A : Addr) (vs : List Value), a.eval x = _ ∧ _)
    simp [execOp, ho, h2]
  · rename_i e
    rw [e] at hok
    obtain ⟨p, _, h2, _⟩ := (by simpa only [VR] using hok.1 : ∃ (A B : Array Value), a.eval x = _ ∧ _)
    simp [execOp, ho, h2]
  · rename_i e
    rw [e] at hok
    obtain ⟨p, _, h2⟩ := (by simpa only [VR] using hok.1 : ∃ p : Pl, _ ∧ a.eval x = _)
    simp [execOp, ho, h2]
  · rename_i e
    rw [e] at hok
    obtain ⟨p, _, h2⟩ := (by simpa only [VR] using hok.1 : ∃ p : Pl, _ ∧ a.eval x = _)
    simp [execOp, ho, h2]
  · cases h
end
end Go.Proofs.Ytojjhcgbbmknmaa.Sh
