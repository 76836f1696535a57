/- Several texts, merged: Operations that neither read nor write memory: what the shadow tells of one the machine does. And more. -/
import Derived.Test.YtojjhcgbbmknmaaX1
import Derived.Laws.Tables
import Derived.ChangeKeysEq
import Derived.Laws.StructEq
import Derived.Laws.Cover3

/- Operations that neither read nor write memory: what the shadow tells of one the machine does. -/
namespace Go.Proofs.Ytojjhcgbbmknmaa.Sh
set_option linter.unusedSimpArgs false
set_option linter.unusedVariables false
open Go Go.RowKit

section
variable {P : Program} {w0 : World} {ρ : Rho} {N : Nat} {t : Tr SV} {σ : St} {a : Act} {o : Oper}

theorem scOf_val {v : Value} {s : Sc} (h : scOf v = some s) : v = s.val := by
  unfold scOf at h
  split at h <;> first | (cases h; rfl) | cases h
theorem scsOf_ok : ∀ {l : List Value} {s : List SV}, scsOf l = some s → OKs w0 ρ s l ∧ s.length = l.length ∧ (∀ c ∈ s, c.one = true)
  | [], _, h => by simp only [scsOf, Option.some.injEq] at h; subst h; exact ⟨⟨VRs.nil, trivial⟩, rfl, by simp⟩
  | v :: r, _, h => by
    simp only [scsOf] at h
    split at h
    · rename_i s l h1 h2
      cases h
      obtain ⟨k1, k2, k3⟩ := scsOf_ok h2
      refine ⟨⟨VRs.cons (by simp only [VR]; exact scOf_val h1) k1.1, ⟨trivial, k1.2⟩⟩, by simp [k2], ?_⟩
      intro c hc
      simp only [List.mem_cons] at hc
      rcases hc with rfl | hc
      · unfold scOf at h1
        split at h1 <;> first | (cases h1; rfl) | cases h1
      · exact k3 c hc
    · cases h

theorem opd_ok {x : Operand} {y : Opd} (h : compOpd x = some y) (k : TR w0 ρ t N a.tmps) : OK w0 ρ (y.ev t) (a.eval x) := by
  cases x with
  | tmp i => simp only [compOpd, Option.some.injEq] at h; subst h; exact k.2 i
  | const v =>
    simp only [compOpd, Option.map_eq_some_iff] at h
    obtain ⟨s, h1, rfl⟩ := h
    exact ⟨by simp only [Opd.ev, VR, Act.eval]; exact scOf_val h1, trivial⟩
  | global g => simp [compOpd] at h
  | func f =>
    simp only [compOpd, Option.some.injEq] at h; subst h
    exact ⟨by simp only [Opd.ev, VR, Act.eval]; exact ⟨#[], #[], rfl, by simp [VRs], by simp [VRs]⟩, by simp [Opd.ev, SV.wf, wfs]⟩
theorem opds_ok : ∀ {l : List Operand} {m : List Opd}, compOpds l = some m → TR w0 ρ t N a.tmps → OKs w0 ρ (m.map (·.ev t)) (l.map a.eval)
  | [], _, h, _ => by simp only [compOpds, Option.some.injEq] at h; subst h; exact ⟨VRs.nil, trivial⟩
  | x :: r, _, h, k => by
    simp only [compOpds] at h
    split at h
    · rename_i y l h1 h2
      cases h
      have h3 := opd_ok h1 k
      have h4 := opds_ok h2 k
      exact ⟨VRs.cons h3.1 h4.1, h3.2, h4.2⟩
    · cases h

/-- Of a value the shadow knows to be a number. -/
theorem OK.int {s : SV} {u : Value} {k : IntKind} {n : Int} (h : OK w0 ρ s u) (e : s = .sc (.int k n)) : u = .int k n := by subst e; have := h.1; simpa only [VR, Sc.val] using this
theorem OK.bool {s : SV} {u : Value} {b : Bool} (h : OK w0 ρ s u) (e : s = .sc (.bool b)) : u = .bool b := by subst e; have := h.1; simpa only [VR, Sc.val] using this
theorem OK.intOf {s : SV} {u : Value} {n : Int} (h : OK w0 ρ s u) (e : Sh.intOf s = some n) : ∃ k, u = .int k n := by
  unfold Sh.intOf at e
  split at e
  · cases e; exact ⟨_, h.int rfl⟩
  · cases e
theorem OK.agg {s : SV} {u : Value} {cs : List SV} (h : OK w0 ρ s u) (e : s = .agg cs) : ∃ x : Array Value, u = .agg x ∧ OKs w0 ρ cs x.toList ∧ allOne cs := by
  subst e
  obtain ⟨h1, h2⟩ := h
  simp only [VR] at h1
  obtain ⟨x, e, h3⟩ := h1
  simp only [SV.wf] at h2
  exact ⟨x, e, ⟨h3, h2.2⟩, h2.1⟩
theorem OK.mk_sc {s : Sc} : OK w0 ρ (.sc s) s.val := ⟨by simp [VR], trivial⟩
theorem OK.mk_int {n : Int} : OK w0 ρ (SV.int n) (.int .i64 n) := OK.mk_sc (s := .int .i64 n)
theorem OK.mk_bool {b : Bool} : OK w0 ρ (SV.bool b) (.bool b) := OK.mk_sc (s := .bool b)
theorem OK.mk_undef : OK w0 ρ SV.undef Go.undef := OK.mk_sc (s := .undef)

theorem wfs_take {l : List SV} {n : Nat} (h : wfs l) : wfs (l.take n) := wfs_iff.2 fun c hc => wfs_iff.1 h c (List.mem_of_mem_take hc)
theorem wfs_drop {l : List SV} {n : Nat} (h : wfs l) : wfs (l.drop n) := wfs_iff.2 fun c hc => wfs_iff.1 h c (List.mem_of_mem_drop hc)
theorem wfs_append {l m : List SV} (h : wfs l) (k : wfs m) : wfs (l ++ m) := wfs_iff.2 fun c hc => by
  rcases List.mem_append.1 hc with h1 | h1
  · exact wfs_iff.1 h c h1
  · exact wfs_iff.1 k c h1
theorem allOne_take {l : List SV} {n : Nat} (h : allOne l) : allOne (l.take n) := fun c hc => h c (List.mem_of_mem_take hc)
theorem allOne_drop {l : List SV} {n : Nat} (h : allOne l) : allOne (l.drop n) := fun c hc => h c (List.mem_of_mem_drop hc)
theorem allOne_append {l m : List SV} (h : allOne l) (k : allOne m) : allOne (l ++ m) := fun c hc => by
  rcases List.mem_append.1 hc with h1 | h1
  · exact h c h1
  · exact k c h1
theorem OKs.take {l : List SV} {u : List Value} (n : Nat) (h : OKs w0 ρ l u) : OKs w0 ρ (l.take n) (u.take n) := ⟨h.1.take n, wfs_take h.2⟩
theorem OKs.drop {l : List SV} {u : List Value} (n : Nat) (h : OKs w0 ρ l u) : OKs w0 ρ (l.drop n) (u.drop n) := ⟨h.1.drop n, wfs_drop h.2⟩
theorem OKs.append {l m : List SV} {u v : List Value} (h : OKs w0 ρ l u) (k : OKs w0 ρ m v) : OKs w0 ρ (l ++ m) (u ++ v) := ⟨h.1.append k.1, wfs_append h.2 k.2⟩
theorem OKs.len {l : List SV} {u : List Value} (h : OKs w0 ρ l u) : u.length = l.length := h.1.len

theorem cut_eq {cs r : List SV} {off n : Nat} (h : cut cs off n = some r) : off + n ≤ cs.length ∧ r = (cs.drop off).take n := by
  rw [cut_def] at h
  split at h
  · cases h; exact ⟨by assumption, rfl⟩
  · cases h
theorem unflat_eq {ag : Bool} {r : List SV} {v : SV} (h : unflat ag r = some v) : (ag = true ∧ v = .agg r) ∨ (ag = false ∧ r = [v]) := by
  unfold unflat at h
  split at h
  · cases h; exact .inl ⟨rfl, rfl⟩
  · cases h; exact .inr ⟨rfl, rfl⟩
  · cases h

theorem run_isAgg {w : World} {ty : TypeId} {ag : Bool} (hag : agT P ty = some ag) : (isAgg ty).run P w = .ok ag w := by
  unfold agT at hag
  obtain ⟨d, hd, hag⟩ := Option.map_eq_some_iff.1 hag
  subst hag
  simp only [isAgg, Sem.run_bind, run_underlying hd, Result.andThen]
  cases d <;> rfl
theorem run_sizeOf {w : World} {ty : TypeId} {n : Nat} (hsz : szT P ty = some n) : (sizeOf ty).run P w = .ok n w := by
  unfold szT at hsz
  obtain ⟨i, hi, hsz⟩ := Option.map_eq_some_iff.1 hsz
  simp [sizeOf, typeInfo, hi, hsz]
/-- 'part', run. -/
theorem run_part {w : World} {ty : TypeId} {ag : Bool} {n off : Nat} {cs : List SV} {x : Array Value} {v : SV} (hag : agT P ty = some ag) (hsz : szT P ty = some n) (hok : OKs w0 ρ cs x.toList) (h1 : allOne cs)
    (h : (cut cs off n).bind (unflat ag) = some v) : ∃ u, (part ty x off).run P w = .ok u w ∧ OK w0 ρ v u := by
  obtain ⟨r, hr, hu⟩ := Option.bind_eq_some_iff.1 h
  obtain ⟨hle, rfl⟩ := cut_eq hr
  have hlen := hok.len
  have hagg := run_isAgg (w := w) hag
  have hsize := run_sizeOf (w := w) hsz
  rcases unflat_eq hu with ⟨rfl, rfl⟩ | ⟨rfl, hv⟩
  · refine ⟨.agg (x.extract off (off + n)), ?_, ?_, ?_⟩
    · simp [part, hagg, hsize, Result.andThen]
    · simp only [VR]
      refine ⟨_, rfl, ?_⟩
      have := (hok.1.drop off).take n
      simpa [Array.toList_extract, List.extract_eq_take_drop, List.drop_take] using this
    · exact ⟨allOne_take (allOne_drop h1), wfs_take (wfs_drop hok.2)⟩
  · have hx : (List.take n (List.drop off cs))[0]? = some v := by rw [hv]; rfl
    have hvr := (hok.drop off).take n
    obtain ⟨u, hu1, hu2⟩ := hvr.1.get hx
    have hn : 0 < n := by
      cases n with
      | zero => simp at hv
      | succ n => omega
    have hget : x[off]? = some u := by
      rw [List.getElem?_take, if_pos hn, List.getElem?_drop] at hu1
      simpa using hu1
    refine ⟨u, ?_, hu2, ?_⟩
    · simp [part, hagg, Result.andThen, hget]
    · have : wfs [v] := by rw [← hv]; exact wfs_take (wfs_drop hok.2)
      exact this.1
end
end Go.Proofs.Ytojjhcgbbmknmaa.Sh

/- Operations that neither read nor write memory, one by one. -/
namespace Go.Proofs.Ytojjhcgbbmknmaa.Sh
set_option linter.unusedSimpArgs false
set_option linter.unusedVariables false
open Go Go.RowKit

/-- The machine's operation yields what the shadow's does, and leaves the world. -/
def Yld (P : Program) (w0 : World) (ρ : Rho) (a : Act) (o : Oper) (v : SV) : Prop := ∀ w, ∃ u, (execOp a.eval o).run P w = .ok (.value u) w ∧ OK w0 ρ v u

section
variable {P : Program} {w0 : World} {ρ : Rho} {N : Nat} {t : Tr SV} {σ σ' : St} {a : Act} {o : Oper} {v : SV} {so : SOp}

theorem y_mv {x : Operand} (ho : o.op = .move x ∨ o.op = .assign x) {y : Opd} (hx : compOpd x = some y) (k : TR w0 ρ t N a.tmps) : Yld P w0 ρ a o (y.ev t) := fun w =>
  ⟨a.eval x, by rcases ho with ho | ho <;> simp [execOp, ho], opd_ok hx k⟩

theorem y_pick {c x y : Operand} (ho : o.op = .pick c x y) {c' x' y' : Opd} (hc : compOpd c = some c') (hx : compOpd x = some x') (hy : compOpd y = some y') (k : TR w0 ρ t N a.tmps)
    (h : sop (.pick c' x' y') t σ = some (v, σ')) : σ' = σ ∧ Yld P w0 ρ a o v := by
  simp only [sop] at h
  split at h
  · rename_i e
    cases h
    refine ⟨rfl, fun w => ⟨a.eval x, ?_, opd_ok hx k⟩⟩
    have := (opd_ok hc k).bool e
    simp [execOp, ho, this, asBool]
  · rename_i e
    cases h
    refine ⟨rfl, fun w => ⟨a.eval y, ?_, opd_ok hy k⟩⟩
    have := (opd_ok hc k).bool e
    simp [execOp, ho, this, asBool]
  · cases h

theorem y_un {op : UnOp} {ty : TypeId} {x : Operand} (ho : o.op = .unOp op ty x) {y : Opd} (hx : compOpd x = some y) (k : TR w0 ρ t N a.tmps)
    (h : sop (.un op y) t σ = some (v, σ')) : σ' = σ ∧ Yld P w0 ρ a o v := by
  simp only [sop, Option.map_eq_some_iff, Prod.mk.injEq] at h
  obtain ⟨v', h1, rfl, rfl⟩ := h
  refine ⟨rfl, fun w => ?_⟩
  have hok := opd_ok hx k
  unfold unSV at h1
  split at h1
  · rename_i e
    cases h1
    have := hok.bool e
    exact ⟨_, by simp [execOp, ho, this, Op.unary], OK.mk_bool⟩
  · rename_i e
    cases h1
    have := hok.int e
    exact ⟨_, by simp [execOp, ho, this, Op.unary, Op.intArith]; rfl, OK.mk_sc⟩
  · cases h1

theorem y_conv {src dst : TypeId} {x : Operand} (ho : o.op = .convert src dst x) {j k' : IntKind} (hs : P.underlying src = some (.int j)) (hd : P.underlying dst = some (.int k')) {y : Opd} (hx : compOpd x = some y) (k : TR w0 ρ t N a.tmps)
    (h : sop (.conv k' y) t σ = some (v, σ')) : σ' = σ ∧ Yld P w0 ρ a o v := by
  simp only [sop] at h
  split at h
  · rename_i e
    cases h
    have := (opd_ok hx k).int e
    exact ⟨rfl, fun w => ⟨_, by simp [execOp, ho, this, Go.convert, run_underlying hs, run_underlying hd, Conv.intToInt]; rfl, OK.mk_sc⟩⟩
  · cases h

theorem y_mkfn {f : Nat} {fs cs : Array Operand} (ho : o.op = .makeFunc (.func f) fs cs) {fs' cs' : List Opd} (h1 : compOpds fs.toList = some fs') (h2 : compOpds cs.toList = some cs') (k : TR w0 ρ t N a.tmps)
    (h : sop (.mkfn f fs' cs') t σ = some (v, σ')) : σ' = σ ∧ Yld P w0 ρ a o v := by
  simp only [sop, Option.some.injEq, Prod.mk.injEq] at h
  obtain ⟨rfl, rfl⟩ := h
  refine ⟨rfl, fun w => ⟨.func (.func f) (fs.map a.eval) (cs.map a.eval), by simp [execOp, ho, Instr.makeFunc], ?_⟩⟩
  have k1 := opds_ok h1 k
  have k2 := opds_ok h2 k
  exact ⟨by simp only [VR]; exact ⟨_, _, rfl, by simpa using k1.1, by simpa using k2.1⟩, k1.2, k2.2⟩

theorem y_fieldA {ty : TypeId} {x : Operand} {i : Nat} (ho : o.op = .fieldAddr ty x i) {fs : Array Field} {f : Field} (hu : P.underlying ty = some (.struct fs)) (hf : fs[i]? = some f) {n : Nat} (hn : szT P f.type = some n) (h0 : 0 < n)
    {y : Opd} (hx : compOpd x = some y) (k : TR w0 ρ t N a.tmps) (h : sop (.fieldA f.offset y) t σ = some (v, σ')) : σ' = σ ∧ Yld P w0 ρ a o v := by
  have hok := opd_ok hx k
  have hne : n ≠ 0 := by omega
  have key : ∀ (A : Addr), A.spot = none → a.eval x = .pointer (some A) → ∀ w, (execOp a.eval o).run P w = .ok (.value (.pointer (some ⟨A.block, A.off + f.offset, none⟩))) w := by
    intro A hA he w
    obtain ⟨b, off, s⟩ := A
    simp only at hA; subst hA
    simp [execOp, ho, he, Instr.fieldAt, run_underlying hu, hf, Instr.sureAddr, fieldPlace, run_sizeOf hn, hne, Addr.add_lit]
  simp only [sop] at h
  split at h
  · rename_i id off e
    cases h
    rw [e] at hok
    obtain ⟨p, h1, h2⟩ := (by simpa only [VR] using hok.1 : ∃ p, ρ id = some p ∧ a.eval x = .pointer (some ⟨p.blk, p.base + off, none⟩))
    refine ⟨rfl, fun w => ⟨_, key _ rfl h2 w, ?_, trivial⟩⟩
    simp only [VR]
    exact ⟨p, h1, by simp [Nat.add_assoc]⟩
  · rename_i cs off e
    cases h
    rw [e] at hok
    obtain ⟨A, vs, h1, h2, h3⟩ := (by simpa only [VR] using hok.1 : ∃ A vs, a.eval x = .pointer (some ⟨A.block, A.off + off, none⟩) ∧ VRs w0 ρ cs vs ∧ Lies w0 ρ A vs)
    refine ⟨rfl, fun w => ⟨_, key _ rfl h1 w, ?_, hok.2⟩⟩
    simp only [VR]
    exact ⟨A, vs, by simp [Nat.add_assoc], h2, h3⟩
  · cases h

theorem y_field {ty : TypeId} {x : Operand} {i : Nat} (ho : o.op = .field ty x i) {fs : Array Field} {f : Field} (hu : P.underlying ty = some (.struct fs)) (hf : fs[i]? = some f) {n : Nat} {ag : Bool} (hn : szT P f.type = some n) (hag : agT P f.type = some ag)
    {y : Opd} (hx : compOpd x = some y) (k : TR w0 ρ t N a.tmps) (h : sop (.field ag f.offset n y) t σ = some (v, σ')) : σ' = σ ∧ Yld P w0 ρ a o v := by
  have hok := opd_ok hx k
  simp only [sop] at h
  split at h
  · rename_i cs e
    simp only [Option.map_eq_some_iff, Prod.mk.injEq] at h
    obtain ⟨v', h1, rfl, rfl⟩ := h
    obtain ⟨A, hA, hc, hone⟩ := hok.agg e
    refine ⟨rfl, fun w => ?_⟩
    obtain ⟨u, hr, hu'⟩ := run_part (P := P) (w := w) (ty := f.type) hag hn hc hone h1
    exact ⟨u, by simp [execOp, ho, hA, Instr.field, run_underlying hu, hf, asAgg, hr], hu'⟩
  · cases h

theorem y_index {ty : TypeId} {x i : Operand} (ho : o.op = .index ty x i) {n s : Nat} {e : TypeId} {ag : Bool} (hu : P.underlying ty = some (.array n e)) (hn : szT P e = some s) (hag : agT P e = some ag)
    {x' i' : Opd} (hx : compOpd x = some x') (hi : compOpd i = some i') (k : TR w0 ρ t N a.tmps) (h : sop (.index n s ag x' i') t σ = some (v, σ')) : σ' = σ ∧ Yld P w0 ρ a o v := by
  simp only [sop] at h
  split at h
  · rename_i j cs e1 e2
    split at h
    · rename_i hb
      simp only [Option.map_eq_some_iff, Prod.mk.injEq] at h
      obtain ⟨v', h1, rfl, rfl⟩ := h
      obtain ⟨A, hA, hc, hone⟩ := (opd_ok hx k).agg e2
      obtain ⟨kd, hI⟩ := (opd_ok hi k).intOf e1
      refine ⟨rfl, fun w => ?_⟩
      obtain ⟨u, hr, hu'⟩ := run_part (P := P) (w := w) (ty := e) hag hn hc hone h1
      exact ⟨u, by simp [execOp, ho, hA, hI, Instr.index, asIntOf, run_underlying hu, hb, run_sizeOf hn, hr], hu'⟩
    · cases h
  · cases h

theorem y_indexArr {ty : TypeId} {x i : Operand} (ho : o.op = .indexAddr ty x i) {n s : Nat} {e : TypeId} (hu : P.underlying ty = some (.array n e)) (hn : szT P e = some s)
    {x' i' : Opd} (hx : compOpd x = some x') (hi : compOpd i = some i') (k : TR w0 ρ t N a.tmps) (h : sop (.indexArr n s x' i') t σ = some (v, σ')) : σ' = σ ∧ Yld P w0 ρ a o v := by
  have hok := opd_ok hx k
  simp only [sop] at h
  split at h
  · rename_i j e1
    split at h
    · rename_i hb
      obtain ⟨kd, hI⟩ := (opd_ok hi k).intOf e1
      have key : ∀ (A : Addr), A.spot = none → a.eval x = .pointer (some A) → ∀ w, (execOp a.eval o).run P w = .ok (.value (.pointer (some ⟨A.block, A.off + j.toNat * s, none⟩))) w := by
        intro A hA he w
        obtain ⟨b, off, sp⟩ := A
        simp only at hA; subst hA
        simp [execOp, ho, he, hI, Instr.indexAt, asIntOf, run_underlying hu, Instr.sureAddr, hb, run_sizeOf hn, Addr.add_lit]
      split at h
      · rename_i id off e
        cases h
        rw [e] at hok
        obtain ⟨p, h1, h2⟩ := (by simpa only [VR] using hok.1 : ∃ p, ρ id = some p ∧ a.eval x = .pointer (some ⟨p.blk, p.base + off, none⟩))
        refine ⟨rfl, fun w => ⟨_, key _ rfl h2 w, ?_, trivial⟩⟩
        simp only [VR]
        exact ⟨p, h1, by simp [Nat.add_assoc]⟩
      · rename_i cs off e
        cases h
        rw [e] at hok
        obtain ⟨A, vs, h1, h2, h3⟩ := (by simpa only [VR] using hok.1 : ∃ A vs, a.eval x = .pointer (some ⟨A.block, A.off + off, none⟩) ∧ VRs w0 ρ cs vs ∧ Lies w0 ρ A vs)
        refine ⟨rfl, fun w => ⟨_, key _ rfl h1 w, ?_, hok.2⟩⟩
        simp only [VR]
        exact ⟨A, vs, by simp [Nat.add_assoc], h2, h3⟩
      · cases h
    · cases h
  · cases h

theorem y_indexSl {ty : TypeId} {x i : Operand} (ho : o.op = .indexAddr ty x i) {s : Nat} {e : TypeId} (hu : P.underlying ty = some (.slice e)) (hn : szT P e = some s)
    {x' i' : Opd} (hx : compOpd x = some x') (hi : compOpd i = some i') (k : TR w0 ρ t N a.tmps) (h : sop (.indexSl s x' i') t σ = some (v, σ')) : σ' = σ ∧ Yld P w0 ρ a o v := by
  have hok := opd_ok hx k
  simp only [sop] at h
  split at h
  · rename_i j e1
    obtain ⟨kd, hI⟩ := (opd_ok hi k).intOf e1
    have key : ∀ (A : Addr) (len cap : Nat), A.spot = none → a.eval x = .slice (some A) len cap → 0 ≤ j ∧ j < len → ∀ w, (execOp a.eval o).run P w = .ok (.value (.pointer (some ⟨A.block, A.off + j.toNat * s, none⟩))) w := by
      intro A len cap hA he hb w
      obtain ⟨b, off, sp⟩ := A
      simp only at hA; subst hA
      simp [execOp, ho, he, hI, Instr.indexAt, asIntOf, run_underlying hu, hb, run_sizeOf hn, Addr.add_lit]
    split at h
    · rename_i id off len sz e
      split at h
      · rename_i hb
        cases h
        rw [e] at hok
        obtain ⟨p, cap, oo, h1, h2, h3, h4, h5, h6⟩ := (by simpa only [VR] using hok.1 : ∃ p cap oo, ρ id = some p ∧ a.eval x = .slice (some ⟨p.blk, oo, none⟩) len cap ∧ (oo = p.base + off ∨ cap = 0) ∧ len ≤ cap ∧ 0 < sz ∧ (0 < cap → p.base + off + cap * sz ≤ p.size))
        refine ⟨rfl, fun w => ⟨_, key _ _ _ rfl h2 hb w, ?_, trivial⟩⟩
        simp only [VR]
        have : oo = p.base + off := by rcases h3 with h3 | h3 <;> omega
        exact ⟨p, h1, by simp [this, Nat.add_assoc]⟩
      · cases h
    · rename_i len sz cs e
      split at h
      · rename_i hb
        cases h
        rw [e] at hok
        obtain ⟨A, cap, vs, h1, h2, h3, h4, h5⟩ := (by simpa only [VR] using hok.1 : ∃ A cap vs, a.eval x = .slice (some A) len cap ∧ len ≤ cap ∧ VRs w0 ρ cs vs ∧ Lies w0 ρ A vs ∧ cs.length = len * sz ∧ 0 < sz)
        have hne : vs ≠ [] := by
          rintro rfl
          have := h3.len
          have h6 : 0 < len * sz := Nat.mul_pos (by omega) h5.2
          simp at this; omega
        refine ⟨rfl, fun w => ⟨_, key _ _ _ (h4.1 hne) h1 hb w, ?_, hok.2⟩⟩
        simp only [VR]
        exact ⟨A, vs, rfl, h3, h4⟩
      · cases h
    · cases h
  · cases h

theorem y_extract {x : Operand} {i : Nat} (ho : o.op = .extract x i) {y : Opd} (hx : compOpd x = some y) (k : TR w0 ρ t N a.tmps)
    (h : sop (.extract y i) t σ = some (v, σ')) : σ' = σ ∧ Yld P w0 ρ a o v := by
  have hok := opd_ok hx k
  simp only [sop] at h
  split at h
  · rename_i vs e
    simp only [Option.map_eq_some_iff, Prod.mk.injEq] at h
    obtain ⟨v', h1, rfl, rfl⟩ := h
    rw [e] at hok
    obtain ⟨A, h2, h3⟩ := (by simpa only [VR] using hok.1 : ∃ A : Array Value, a.eval x = .tuple A ∧ VRs w0 ρ vs A.toList)
    obtain ⟨u, h4, h5⟩ := h3.get h1
    refine ⟨rfl, fun w => ⟨u, ?_, h5, wfs_iff.1 hok.2 _ (List.mem_of_getElem? h1)⟩⟩
    have h4' : A[i]? = some u := by simpa using h4
    simp [execOp, ho, h2, Instr.extract, h4']
  · cases h

theorem y_nilchk {x : Operand} (ho : o.op = .nilCheck x) {y : Opd} (hx : compOpd x = some y) (k : TR w0 ρ t N a.tmps)
    (h : sop (.nilchk y) t σ = some (v, σ')) : σ' = σ ∧ Yld P w0 ρ a o v := by
  have hok := opd_ok hx k
  have hv : v = y.ev t ∧ σ' = σ := by
    simp only [sop] at h
    split at h <;> first | (rename_i e; cases h; exact ⟨e.symm, rfl⟩) | cases h
  obtain ⟨rfl, rfl⟩ := hv
  refine ⟨rfl, fun w => ⟨a.eval x, ?_, hok⟩⟩
  simp only [sop] at h
  split at h
  · rename_i e
    rw [e] at hok
    obtain ⟨p, _, h2⟩ := (by simpa only [VR] using hok.1 : ∃ p : Pl, _ ∧ a.eval x = _)
    simp [execOp, ho, h2]
  · rename_i e
    rw [e] at hok
    obtain ⟨p, _, h2, _⟩ := (by simpa only [VR] using hok.1 : ∃ (A : Addr) (vs : List Value), a.eval x = _ ∧ _)
    simp [execOp, ho, h2]
  · rename_i e
    rw [e] at hok
    obtain ⟨p, _, h2, _⟩ := (by simpa only [VR] using hok.1 : ∃ (A B : Array Value), a.eval x = _ ∧ _)
    simp [execOp, ho, h2]
  · rename_i e
    rw [e] at hok
    obtain ⟨p, _, h2⟩ := (by simpa only [VR] using hok.1 : ∃ p : Pl, _ ∧ a.eval x = _)
    simp [execOp, ho, h2]
  · rename_i e
    rw [e] at hok
    obtain ⟨p, _, h2⟩ := (by simpa only [VR] using hok.1 : ∃ p : Pl, _ ∧ a.eval x = _)
    simp [execOp, ho, h2]
  · cases h
end
end Go.Proofs.Ytojjhcgbbmknmaa.Sh

/- Sums, comparisons, slices of slices, structs that are put together. -/
namespace Go.Proofs.Ytojjhcgbbmknmaa.Sh
set_option linter.unusedSimpArgs false
set_option linter.unusedVariables false
open Go Go.RowKit

section
variable {P : Program} {w0 : World} {ρ : Rho} {N : Nat} {t : Tr SV} {σ σ' : St} {a : Act} {o : Oper} {v : SV} {so : SOp}

theorem bytes_beq (b c : ByteArray) : (b == c) = decide (b = c) := by
  obtain ⟨x⟩ := b
  obtain ⟨y⟩ := c
  show (x == y) = _
  by_cases e : x = y
  · subst e; simp
  · rw [decide_eq_false (fun h => e (by injection h))]; simpa using e
theorem eqCells_len {q : Nat} : ∀ {a b : List SV} {r : Bool}, eqCells q a b = some r → a.length = b.length
  | [], [], _, _ => rfl
  | x :: a, y :: b, r, h => by
    have key : ∀ (p : Bool), (if p = true then eqCells q a b else (eqCells q a b).map fun _ => false) = some r → a.length = b.length := by
      intro p h
      cases p
      · simp only [Bool.false_eq_true, if_false, Option.map_eq_some_iff] at h
        obtain ⟨z, hz, _⟩ := h
        exact eqCells_len hz
      · exact eqCells_len (by simpa using h)
    rw [eqCells.eq_def] at h
    cases x with
    | sc s =>
      cases y with
      | sc s' =>
        cases s <;> cases s' <;> simp only at h <;> try (cases h; done)
        · rename_i k n k' m
          cases hq : Nat.beq q 2 <;> rw [hq] at h <;> simp only [cond_false, cond_true] at h
          · cases h
          · split at h
            · simp [key (decide (n = m)) (by simpa using h)]
            · cases h
        · rename_i n m
          cases hq : Nat.beq q 1 <;> rw [hq] at h <;> simp only [cond_false, cond_true] at h
          · cases h
          · simp [key (decide (n = m)) (by simpa using h)]
        · rename_i n m
          cases hq : Nat.beq q 3 <;> rw [hq] at h <;> simp only [cond_false, cond_true] at h
          · cases h
          · simp [key (decide (n = m)) (by simpa using h)]
      | _ => simp at h
    | _ => simp at h
  | [], y :: b, r, h => by simp [eqCells] at h
  | x :: a, [], r, h => by simp [eqCells] at h

theorem eqCells_append {q : Nat} : ∀ {a b c d : List SV} {r : Bool}, a.length = b.length → eqCells q (a ++ c) (b ++ d) = some r → ∃ r1 r2, eqCells q a b = some r1 ∧ eqCells q c d = some r2 ∧ r = (r1 && r2)
  | [], [], c, d, r, _, h => ⟨true, r, rfl, by simpa using h, by simp⟩
  | x :: a, y :: b, c, d, r, hl, h => by
    have hl' : a.length = b.length := by simpa using hl
    have key : ∀ (p : Bool), (if p = true then eqCells q (a ++ c) (b ++ d) else (eqCells q (a ++ c) (b ++ d)).map fun _ => false) = some r →
        ∃ r1 r2, (if p = true then eqCells q a b else (eqCells q a b).map fun _ => false) = some r1 ∧ eqCells q c d = some r2 ∧ r = (r1 && r2) := by
      intro p h
      cases p
      · simp only [Bool.false_eq_true, if_false, Option.map_eq_some_iff] at h
        obtain ⟨z, hz, rfl⟩ := h
        obtain ⟨r1, r2, h1, h2, _⟩ := eqCells_append hl' hz
        exact ⟨false, r2, by simp [h1], h2, by simp⟩
      · simp only [if_true] at h
        obtain ⟨r1, r2, h1, h2, h3⟩ := eqCells_append hl' h
        exact ⟨r1, r2, by simp [h1], h2, h3⟩
    rw [List.cons_append, List.cons_append] at h
    rw [eqCells.eq_def] at h ⊢
    cases x with
    | sc s =>
      cases y with
      | sc s' =>
        cases s <;> cases s' <;> simp only at h ⊢ <;> try (cases h; done)
        · rename_i k n k' m
          cases hq : Nat.beq q 2 <;> rw [hq] at h <;> simp only [cond_false, cond_true] at h ⊢
          · cases h
          · by_cases hk : k = k'
            · subst hk
              have := key (decide (n = m)) (by simpa using h)
              simpa using this
            · simp [hk] at h
        · rename_i n m
          cases hq : Nat.beq q 1 <;> rw [hq] at h <;> simp only [cond_false, cond_true] at h ⊢
          · cases h
          · have := key (decide (n = m)) (by simpa using h)
            simpa using this
        · rename_i n m
          cases hq : Nat.beq q 3 <;> rw [hq] at h <;> simp only [cond_false, cond_true] at h ⊢
          · cases h
          · have := key (decide (n = m)) (by simpa using h)
            simpa using this
      | _ => simp at h
    | _ => simp at h
  | [], _ :: _, _, _, _, hl, _ => by simp at hl
  | _ :: _, [], _, _, _, hl, _ => by simp at hl

/-- What 'Op.equalIn' tells of cells. -/
def EqC (P : Program) (q d : Nat) (ty : TypeId) : Prop :=
  ∀ (w : World) (w0 : World) (ρ : Rho) (x y : Value) (cs ds : List SV) (n : Nat) (r : Bool), szT P ty = some n → cs.length = n → VRs w0 ρ cs x.cells.toList → VRs w0 ρ ds y.cells.toList →
    (agT P ty = some true → (∃ A, x = .agg A) ∧ ∃ B, y = .agg B) → (agT P ty = some false → x.cells.toList = [x] ∧ y.cells.toList = [y]) → eqCells q cs ds = some r → (Op.equalIn d ty x y).run P w = .ok r w

theorem eqC_part {q d : Nat} {ty : TypeId} {n off : Nat} {ag : Bool} (he : EqC P q d ty) (hn : szT P ty = some n) (hag : agT P ty = some ag) (hn1 : ag = true ∨ n = 1) {X Y : Array Value} {cs ds : List SV} {r : Bool} (hX : VRs w0 ρ cs X.toList) (hY : VRs w0 ρ ds Y.toList)
    (hle : off + n ≤ cs.length) (hle' : off + n ≤ ds.length) (hr : eqCells q ((cs.drop off).take n) ((ds.drop off).take n) = some r) (w : World) :
    ∃ x y, (part ty X off).run P w = .ok x w ∧ (part ty Y off).run P w = .ok y w ∧ (Op.equalIn d ty x y).run P w = .ok r w := by
  have hlX := hX.len
  have hlY := hY.len
  have hcl : ((cs.drop off).take n).length = n := by simp; omega
  cases ag with
  | true =>
    refine ⟨.agg (X.extract off (off + n)), .agg (Y.extract off (off + n)), ?_, ?_, ?_⟩
    · simp [part, run_isAgg hag, run_sizeOf hn]
    · simp [part, run_isAgg hag, run_sizeOf hn]
    · refine he w w0 ρ _ _ _ _ n r hn hcl ?_ ?_ (fun _ => ⟨⟨_, rfl⟩, ⟨_, rfl⟩⟩) (fun e => by rw [hag] at e; cases e) hr
      · have := (hX.drop off).take n
        simpa [Value.cells, Array.toList_extract, List.extract_eq_take_drop, List.drop_take] using this
      · have := (hY.drop off).take n
        simpa [Value.cells, Array.toList_extract, List.extract_eq_take_drop, List.drop_take] using this
  | false =>
    have hn1 : n = 1 := by simpa using hn1
    subst hn1
    have hx := (hX.drop off).take 1
    have hy := (hY.drop off).take 1
    have e1 : List.take 1 (List.drop off X.toList) = [X.toList[off]'(by omega)] := by
      rw [List.drop_eq_getElem_cons (by omega)]; rfl
    have e2 : List.take 1 (List.drop off Y.toList) = [Y.toList[off]'(by omega)] := by
      rw [List.drop_eq_getElem_cons (by omega)]; rfl
    rw [e1] at hx
    rw [e2] at hy
    have gx : X[off]? = some (X.toList[off]'(by omega)) := by
      rw [← Array.getElem?_toList]; exact List.getElem?_eq_getElem (by omega)
    have gy : Y[off]? = some (Y.toList[off]'(by omega)) := by
      rw [← Array.getElem?_toList]; exact List.getElem?_eq_getElem (by omega)
    -- the elements are of one cell, as eqCells tells
    have one : ∀ (l m : List SV) (u : Value) (r : Bool), l.length = 1 → VRs w0 ρ l [u] → (eqCells q l m = some r ∨ eqCells q m l = some r) → u.cells.toList = [u] := by
      intro l m u r hl hv hq
      match l, hl with
      | [c], _ =>
        simp only [VRs] at hv
        obtain ⟨_, _, e, hv, _⟩ := hv
        cases e
        have : ∃ s, c = .sc s ∧ s ≠ .undef := by
          have sc1 : ∀ (c e : SV), eqCells q [c] [e] = some r → (∃ s, c = .sc s ∧ s ≠ .undef) ∧ ∃ s, e = .sc s ∧ s ≠ .undef := by
            intro c e h
            rw [eqCells.eq_def] at h
            cases c with
            | sc s =>
              cases e with
              | sc s' => cases s <;> cases s' <;> simp_all
              | _ => simp at h
            | _ => simp at h
          rcases hq with hq | hq
          · have hm := eqCells_len hq
            match m, hm with
            | [e], _ => exact (sc1 _ _ hq).1
          · have hm := eqCells_len hq
            match m, hm with
            | [e], _ => exact (sc1 _ _ hq).2
        obtain ⟨s, rfl, hs⟩ := this
        simp only [VR] at hv
        subst hv
        cases s <;> first | rfl | (exact absurd rfl hs)
    have hds : ((ds.drop off).take 1).length = 1 := by simp; omega
    refine ⟨X.toList[off]'(by omega), Y.toList[off]'(by omega), ?_, ?_, ?_⟩
    · simp [part, run_isAgg hag, gx]
    · simp [part, run_isAgg hag, gy]
    · refine he w w0 ρ _ _ _ _ 1 r hn hcl ?_ ?_ (fun e => by rw [hag] at e; cases e) (fun _ => ⟨one _ _ _ r hcl hx (.inl hr), one _ _ _ r hds hy (.inr hr)⟩) hr
      · rw [one _ _ _ r hcl hx (.inl hr)]; exact hx
      · rw [one _ _ _ r hds hy (.inr hr)]; exact hy


theorem eqT_ag {q d : Nat} {ty : TypeId} (h : eqT P q d ty = true) : ∃ ag, agT P ty = some ag ∧ ∀ n, szT P ty = some n → (ag = true ∨ n = 1) := by
  cases d with
  | zero => simp [eqT] at h
  | succ d =>
    unfold eqT at h
    cases hu : P.underlying ty with
    | none => simp [hu] at h
    | some k =>
      rw [hu] at h
      cases k
      case array => exact ⟨true, by simp [agT, hu], fun _ _ => .inl rfl⟩
      case struct => exact ⟨true, by simp [agT, hu], fun _ _ => .inl rfl⟩
      case bool => exact ⟨false, by simp [agT, hu], fun n hn => by rw [hn] at h; right; simpa using (Bool.and_eq_true_iff.1 h).1⟩
      case int => exact ⟨false, by simp [agT, hu], fun n hn => by rw [hn] at h; right; simpa using (Bool.and_eq_true_iff.1 h).1⟩
      case string => exact ⟨false, by simp [agT, hu], fun n hn => by rw [hn] at h; right; simpa using (Bool.and_eq_true_iff.1 h).1⟩
      all_goals simp at h

theorem eqF_run {q d : Nat} {X Y : Array Value} {cs ds : List SV} (hX : VRs w0 ρ cs X.toList) (hY : VRs w0 ρ ds Y.toList) (hl : cs.length = ds.length) (w : World) :
    ∀ (fs : List Field) (o n : Nat) (r : Bool), (∀ f ∈ fs, f.name ≠ "_" ∧ EqC P q d f.type ∧ ∃ ag, agT P f.type = some ag ∧ ∀ n, szT P f.type = some n → (ag = true ∨ n = 1)) →
      fs.foldl (fun (o : Option Nat) f => match o with
        | some o => if o = f.offset then (szT P f.type).map (o + ·) else none
        | none => none) (some o) = some n → n = cs.length → o ≤ n → eqCells q (cs.drop o) (ds.drop o) = some r → (Op.eqFields d X Y fs).run P w = .ok r w
  | [], o, n, r, _, hf, hn, _, hr => by
    simp only [List.foldl_nil, Option.some.injEq] at hf
    subst hf; subst hn
    rw [List.drop_length, hl, List.drop_length] at hr
    simp only [eqCells, Option.some.injEq] at hr
    subst hr
    simp [Op.eqFields]
  | f :: fs, o, n, r, hall, hf, hn, hle, hr => by
    obtain ⟨hname, heq, ag, hag, hn1⟩ := hall f (by simp)
    simp only [List.foldl_cons] at hf
    have hno : ∀ l : List Field, l.foldl (fun (o : Option Nat) f => match o with
        | some o => if o = f.offset then (szT P f.type).map (o + ·) else none
        | none => none) none = none := by
      intro l
      induction l with
      | nil => rfl
      | cons g l ih => simpa using ih
    by_cases ho : o = f.offset
    · rw [if_pos ho] at hf
      cases hs : szT P f.type with
      | none => rw [hs] at hf; simp only [Option.map_none] at hf; rw [hno] at hf; cases hf
      | some s =>
        rw [hs] at hf
        simp only [Option.map_some] at hf
        have hmono : ∀ (l : List Field) (x y : Nat), l.foldl (fun (o : Option Nat) f => match o with
            | some o => if o = f.offset then (szT P f.type).map (o + ·) else none
            | none => none) (some x) = some y → x ≤ y := by
          intro l
          induction l with
          | nil => intro x y h; simp at h; omega
          | cons g l ih =>
            intro x y h
            simp only [List.foldl_cons] at h
            split at h
            · cases hg : szT P g.type with
              | none => rw [hg] at h; simp only [Option.map_none] at h; rw [hno] at h; cases h
              | some z =>
                rw [hg] at h
                simp only [Option.map_some] at h
                have := ih _ _ h
                omega
            · rw [hno] at h; cases h
        have h2 := hmono _ _ _ hf
        have e1 : cs.drop o = (cs.drop o).take s ++ cs.drop (o + s) := by rw [← List.drop_drop, List.take_append_drop]
        have e2 : ds.drop o = (ds.drop o).take s ++ ds.drop (o + s) := by rw [← List.drop_drop, List.take_append_drop]
        rw [e1, e2] at hr
        obtain ⟨r1, r2, k1, k2, rfl⟩ := eqCells_append (by simp; omega) hr
        rw [ho] at k1
        obtain ⟨x, y, p1, p2, p3⟩ := eqC_part heq hs hag (hn1 s hs) hX hY (by omega) (by omega) k1 w
        have ih := eqF_run hX hY hl w fs (o + s) n r2 (fun g hg => hall g (by simp [hg])) hf hn h2 k2
        simp only [Op.eqFields, hname, ne_eq, not_false_eq_true, if_true, Sem.run_bind, p1, p2, p3, Result.andThen_ok]
        cases r1
        · simp
        · simpa using ih
    · rw [if_neg ho, hno] at hf; cases hf

theorem eqI_run {q d : Nat} {e : TypeId} {s : Nat} {ag : Bool} (heq : EqC P q d e) (hs : szT P e = some s) (hag : agT P e = some ag) (hn1 : ag = true ∨ s = 1) {X Y : Array Value} {cs ds : List SV} (hX : VRs w0 ρ cs X.toList) (hY : VRs w0 ρ ds Y.toList) (hl : cs.length = ds.length) (w : World) :
    ∀ (k i : Nat) (r : Bool), (i + k) * s = cs.length → eqCells q (cs.drop (i * s)) (ds.drop (i * s)) = some r → (Op.eqItems d e s X Y (List.range' i k)).run P w = .ok r w
  | 0, i, r, hn, hr => by
    rw [Nat.add_zero] at hn
    rw [hn, List.drop_length, hl, List.drop_length] at hr
    simp only [eqCells, Option.some.injEq] at hr
    subst hr
    simp [Op.eqItems]
  | k + 1, i, r, hn, hr => by
    have h3 : (i + (k + 1)) * s = i * s + s + k * s := by rw [Nat.add_mul, Nat.add_mul]; omega
    have e1 : cs.drop (i * s) = (cs.drop (i * s)).take s ++ cs.drop (i * s + s) := by rw [← List.drop_drop, List.take_append_drop]
    have e2 : ds.drop (i * s) = (ds.drop (i * s)).take s ++ ds.drop (i * s + s) := by rw [← List.drop_drop, List.take_append_drop]
    rw [e1, e2] at hr
    obtain ⟨r1, r2, k1, k2, rfl⟩ := eqCells_append (by simp; omega) hr
    obtain ⟨x, y, p1, p2, p3⟩ := eqC_part heq hs hag hn1 hX hY (by omega) (by omega) k1 w
    have h4 : (i + 1) * s = i * s + s := by rw [Nat.add_mul]; omega
    have ih := eqI_run heq hs hag hn1 hX hY hl w k (i + 1) r2 (by rw [← hn]; congr 1; omega) (by rw [h4]; exact k2)
    simp only [List.range'_succ, Op.eqItems, Sem.run_bind, p1, p2, p3, Result.andThen_ok]
    cases r1
    · simp
    · simpa using ih

theorem eqC_of {q : Nat} : ∀ (d : Nat) (ty : TypeId) (k : Nat), eqT P q d ty = true → EqC P q (d + k) ty
  | 0, _, _, h => by simp [eqT] at h
  | d + 1, ty, k, h => by
    intro w w0 ρ x y cs ds n r hn hlen hX hY hagg hone hr
    have hl := eqCells_len hr
    have hd : d + 1 + k = (d + k) + 1 := by omega
    rw [hd]
    have h0 := h
    unfold eqT at h
    cases hu : P.underlying ty with
    | none => simp [hu] at h
    | some qq =>
      rw [hu] at h
      have plain : agT P ty = some false → n = 1 → ∃ s s' : Sc, x = s.val ∧ y = s'.val ∧ eqCells q [.sc s] [.sc s'] = some r := by
        intro hf h1
        subst h1
        obtain ⟨h1, h2⟩ := hone hf
        rw [h1] at hX
        rw [h2] at hY
        match cs, ds, hlen, hl with
        | [c], [e], _, _ =>
          obtain ⟨_, e1, vx⟩ := hX.one
          obtain ⟨_, e2, vy⟩ := hY.one
          cases e1; cases e2
          have hr' := hr
          rw [eqCells.eq_def] at hr'
          cases c with
          | sc s =>
            cases e with
            | sc s' => exact ⟨s, s', by simpa only [VR] using vx, by simpa only [VR] using vy, hr⟩
            | _ => simp at hr'
          | _ => simp at hr'
      have h1n : ∀ {p : Bool}, (szT P ty == some 1 && p) = true → n = 1 ∧ p = true := by
        intro p h
        rw [hn] at h
        simpa using h
      cases qq <;> simp only at h <;> try (cases h; done)
      case bool =>
        obtain ⟨h1, h2⟩ := h1n h
        obtain rfl : q = 1 := by simpa using h2
        obtain ⟨s, s', rfl, rfl, hr⟩ := plain (by simp [agT, hu]) h1
        rw [eqCells.eq_def] at hr
        cases s <;> cases s' <;> simp [eqCells] at hr
        all_goals first
          | exact nomatch (show none = some r from hr)
          | (rename_i b c; rw [Sc.val, Sc.val, run_equalIn_bool' w (d + k) ty b c hu]; by_cases e : b = c <;> simp_all)
      case int kd =>
        obtain ⟨h1, h2⟩ := h1n h
        obtain rfl : q = 2 := by simpa using h2
        obtain ⟨s, s', rfl, rfl, hr⟩ := plain (by simp [agT, hu]) h1
        rw [eqCells.eq_def] at hr
        cases s <;> cases s' <;> simp [eqCells] at hr
        all_goals first
          | exact nomatch (show none = some r from hr)
          | (rename_i k1 b k2 c; obtain ⟨rfl, hr⟩ := hr; rw [Sc.val, Sc.val, run_equalIn_int w (d + k) ty k1 _ b c hu]; by_cases e : b = c <;> simp_all)
      case string =>
        obtain ⟨h1, h2⟩ := h1n h
        obtain rfl : q = 3 := by simpa using h2
        obtain ⟨s, s', rfl, rfl, hr⟩ := plain (by simp [agT, hu]) h1
        rw [eqCells.eq_def] at hr
        cases s <;> cases s' <;> simp [eqCells] at hr
        all_goals first
          | exact nomatch (show none = some r from hr)
          | (rename_i b c; rw [Sc.val, Sc.val, run_equalIn_string w (d + k) ty b c hu, ← beq_toListBytes, bytes_beq]; by_cases e : b = c <;> simp_all)
      case array m e =>
        simp only [Bool.and_eq_true] at h
        obtain ⟨h1, h2⟩ := h
        cases hs : szT P e with
        | none => rw [hs] at h2; simp at h2
        | some s =>
          rw [hs, hn] at h2
          simp only [Bool.and_eq_true, beq_iff_eq] at h2
          obtain ⟨⟨X, rfl⟩, ⟨Y, rfl⟩⟩ := hagg (by simp [agT, hu])
          obtain ⟨ag, hag, hn1⟩ := eqT_ag h1
          have hi : ∃ i, P.info? e = some i ∧ i.size = s := by
            unfold szT at hs
            obtain ⟨i, hi, h3⟩ := Option.map_eq_some_iff.1 hs
            exact ⟨i, hi, h3⟩
          obtain ⟨i, hi, h3⟩ := hi
          have hco : P.cellsOf e = s := by simp [Program.cellsOf, hi, h3]
          rw [run_equalIn_array w (d + k) X Y hu hi, hco, List.range_eq_range']
          exact eqI_run (eqC_of d e k h1) hs hag (hn1 s hs) hX hY hl w m 0 r (by rw [Nat.zero_add, hlen]; exact h2.1.symm) (by simpa using hr)
      case struct fs =>
        simp only [Bool.and_eq_true, Bool.not_eq_true', beq_iff_eq] at h
        obtain ⟨⟨h1, h2⟩, h3⟩ := h
        obtain ⟨⟨X, rfl⟩, ⟨Y, rfl⟩⟩ := hagg (by simp [agT, hu])
        have hfo : P.fieldsOf ty = fs := by simp [Program.fieldsOf, hu]
        rw [run_equalIn_struct w (d + k) ty X Y (by rw [hfo]; exact hu) h1, hfo]
        rw [hn] at h3
        refine eqF_run hX hY hl w fs.toList 0 n r (fun f hf => ?_) h3 hlen.symm (by omega) (by simpa using hr)
        have h4 := Array.all_eq_true'.1 h2 f (by simpa using hf)
        simp only [Bool.and_eq_true, bne_iff_ne, ne_eq] at h4
        exact ⟨h4.1, eqC_of d f.type k h4.2, eqT_ag h4.2⟩

theorem run_equalIn_nil_slice (w : World) (d : Nat) (t e : TypeId) (n m : Nat) (b : Option Addr) (l c : Nat) (h : P.underlying t = some (.slice e)) : (Op.equalIn (d + 1) t (.slice none n m) (.slice b l c)).run P w = .ok b.isNone w := by
  simp [Op.equalIn, run_underlying h]
theorem eqTag_spec {ty : TypeId} (h : 5 ≤ eqTag P ty) : (P.eqGuardType P.depth ty = false ∧ (szT P ty).isSome = true) ∧ eqT P (eqTag P ty - 4) 20 ty = true := by
  unfold eqTag at h ⊢
  by_cases h1 : P.eqGuardType P.depth ty = false ∧ (szT P ty).isSome = true
  · simp only [if_pos h1] at h ⊢
    by_cases h2 : eqT P 1 20 ty = true
    · simp only [if_pos h2]; exact ⟨h1, h2⟩
    · simp only [if_neg h2] at h ⊢
      by_cases h3 : eqT P 2 20 ty = true
      · simp only [if_pos h3]; exact ⟨h1, h3⟩
      · simp only [if_neg h3] at h ⊢
        by_cases h4 : eqT P 3 20 ty = true
        · simp only [if_pos h4]; exact ⟨h1, h4⟩
        · simp only [if_neg h4] at h; omega
  · simp only [if_neg h1] at h; omega
theorem eqTag_other {ty : TypeId} : eqTag P ty = 0 ∨ 5 ≤ eqTag P ty := by
  unfold eqTag
  split
  · split
    · exact .inr (by omega)
    · split
      · exact .inr (by omega)
      · split
        · exact .inr (by omega)
        · exact .inl rfl
  · exact .inl rfl

theorem run_eqGuard_sc {op : BinOp} {ty : TypeId} {x y : Operand} {s s' : Sc} {w : World} (h : s ≠ .nilif) : (eqGuard op ty x y s.val s'.val).run P w = .ok () w := by
  unfold eqGuard
  cases op <;> cases s <;> cases s' <;> simp_all [Sc.val, Go.undef]

theorem y_bin {op : BinOp} {ty ty' : TypeId} {x y : Operand} (ho : o.op = .binOp op ty x y ty') {x' y' : Opd} (hx : compOpd x = some x') (hy : compOpd y = some y') (k : TR w0 ρ t N a.tmps)
    (h : sop (.bin (match P.underlying ty with
        | some (.bool) => 1
        | some (.slice _) => 3
        | some (.struct _) | some (.array _ _) => eqTag P ty
        | _ => 0) ((szT P ty).getD 0) op x' y') t σ = some (v, σ')) : σ' = σ ∧ Yld P w0 ρ a o v := by
  simp only [sop, Option.map_eq_some_iff, Prod.mk.injEq] at h
  obtain ⟨v', h1, rfl, rfl⟩ := h
  refine ⟨rfl, fun w => ?_⟩
  have hok := opd_ok hx k
  have hok' := opd_ok hy k
  have fin : ∀ (u : Value), (eqGuard op ty x y (a.eval x) (a.eval y)).run P w = .ok () w → (Go.binOp op ty (a.eval x) (a.eval y)).run P w = .ok u w → (execOp a.eval o).run P w = .ok (.value u) w := by
    intro u g1 g2
    simp [execOp, ho, g1, g2]
  unfold binSV at h1
  split at h1
  · rename_i k1 n k2 m e1 e2
    have hX := hok.int e1
    have hY := hok'.int e2
    have g : (eqGuard op ty x y (a.eval x) (a.eval y)).run P w = .ok () w := by rw [hX, hY]; exact run_eqGuard_sc (s := .int k1 n) (s' := .int k2 m) (by simp)
    split at h1
    · split at h1
      · cases h1
      · rename_i hneg
        cases h1
        exact ⟨_, fin _ g (by rw [hX, hY]; simp [Go.binOp, Op.shift, hneg]; rfl), OK.mk_sc⟩
    · split at h1
      · cases h1
      · rename_i hneg
        cases h1
        exact ⟨_, fin _ g (by rw [hX, hY]; simp [Go.binOp, Op.shift, hneg]; rfl), OK.mk_sc⟩
    · split at h1
      · rename_i hk
        subst hk
        obtain ⟨s, hs, rfl⟩ := Option.map_eq_some_iff.1 h1
        refine ⟨s.val, fin _ g ?_, OK.mk_sc⟩
        rw [hX, hY]
        cases op <;> simp only [intBin] at hs <;> first
          | (cases hs; simp [Go.binOp, Op.intArith, Op.intBits, Op.intCmp, Sc.val]; done)
          | (split at hs <;> first | (cases hs; done) | (rename_i hz; cases hs; simp [Go.binOp, Op.intDiv, hz, Sc.val]; done))
          | (cases hs; done)
      · cases h1
  · -- '==', '!=' of what is no number
    have eqn : ∀ r, eqSV (match P.underlying ty with
        | some (.bool) => 1
        | some (.slice _) => 3
        | some (.struct _) | some (.array _ _) => eqTag P ty
        | _ => 0) ((szT P ty).getD 0) (x'.ev t) (y'.ev t) = some r → (eqGuard op ty x y (a.eval x) (a.eval y)).run P w = .ok () w ∧
          (Go.binOp .eql ty (a.eval x) (a.eval y)).run P w = .ok (.bool r) w ∧ (Go.binOp .neq ty (a.eval x) (a.eval y)).run P w = .ok (.bool (!r)) w := by
      intro r hr
      have tag1 : ∀ {T : Nat}, T = (match P.underlying ty with
        | some (.bool) => 1
        | some (.slice _) => 3
        | some (.struct _) | some (.array _ _) => eqTag P ty
        | _ => 0) → (T = 1 → P.underlying ty = some .bool) ∧ (T = 3 → ∃ e, P.underlying ty = some (.slice e)) ∧ (5 ≤ T → T = eqTag P ty ∧ agT P ty = some true) := by
        intro T hT
        have := eqTag_other (P := P) (ty := ty)
        split at hT
        · rename_i hu; exact ⟨fun _ => hu, fun e => by omega, fun e => by omega⟩
        · rename_i e hu; exact ⟨fun e => by omega, fun _ => ⟨_, hu⟩, fun e => by omega⟩
        · rename_i hu; exact ⟨fun e => by omega, fun e => by omega, fun _ => ⟨hT, by simp [agT, hu]⟩⟩
        · rename_i hu; exact ⟨fun e => by omega, fun e => by omega, fun _ => ⟨hT, by simp [agT, hu]⟩⟩
        · exact ⟨fun e => by omega, fun e => by omega, fun e => by omega⟩
      generalize hT : (match P.underlying ty with
        | some (.bool) => 1
        | some (.slice _) => 3
        | some (.struct _) | some (.array _ _) => eqTag P ty
        | _ => 0) = T at hr
      obtain ⟨t1, t3, t5⟩ := tag1 hT.symm
      have nilCase : T = 3 → ∀ (X Y : Value), a.eval x = X → a.eval y = Y → ((X = .slice none 0 0 ∧ ∃ b l c, Y = .slice b l c ∧ b.isNone = r) ∨ (Y = .slice none 0 0 ∧ ∃ b l c, X = .slice b l c ∧ b.isNone = r)) →
          (eqGuard op ty x y (a.eval x) (a.eval y)).run P w = .ok () w ∧ (Go.binOp .eql ty (a.eval x) (a.eval y)).run P w = .ok (.bool r) w ∧ (Go.binOp .neq ty (a.eval x) (a.eval y)).run P w = .ok (.bool (!r)) w := by
        intro h3 X Y hX hY hor
        obtain ⟨e, hu⟩ := t3 h3
        rw [hX, hY]
        rcases hor with ⟨rfl, b, l, c, rfl, hb⟩ | ⟨rfl, b, l, c, rfl, hb⟩
        · have hq := run_equalIn_nil_slice (P := P) w 9999 ty e 0 0 b l c hu
          refine ⟨by cases op <;> simp [eqGuard], ?_, ?_⟩ <;> simp [Go.binOp, Op.equal, Op.maxDepth, hq, hb]
        · have hq := run_equal_slice_nil (P := P) w ty e b l c hu
          refine ⟨by cases op <;> simp [eqGuard], ?_, ?_⟩ <;> simp [Go.binOp, hq, hb]
      unfold eqSV at hr
      split at hr
      · rename_i b c e1 e2
        cases ht : Nat.beq T 1 with
        | false => rw [ht] at hr; cases hr
        | true =>
          rw [ht] at hr
          cases hr
          have hu := t1 (Nat.eq_of_beq_eq_true ht)
          have hX := hok.bool e1
          have hY := hok'.bool e2
          rw [hX, hY]
          exact ⟨run_eqGuard_sc (s := .bool b) (s' := .bool c) (by simp), by simp [Go.binOp, Op.equal, Op.maxDepth, run_equalIn_bool' w 9999 ty b c hu], by simp [Go.binOp, Op.equal, Op.maxDepth, run_equalIn_bool' w 9999 ty b c hu]⟩
      · rename_i b c e1 e2
        cases hr
        have hX : a.eval x = .string b := by have := hok.1; rw [e1] at this; simpa only [VR, Sc.val] using this
        have hY : a.eval y = .string c := by have := hok'.1; rw [e2] at this; simpa only [VR, Sc.val] using this
        rw [hX, hY]
        exact ⟨run_eqGuard_sc (s := .str b) (s' := .str c) (by simp), by simp [Go.binOp, Op.stringOp, ← beq_toListBytes, bytes_beq], by simp [Go.binOp, Op.stringOp, ← beq_toListBytes, bytes_beq]⟩
      · rename_i cs ds e1 e2
        cases ht : Nat.ble 5 T with
        | false => rw [ht] at hr; cases hr
        | true =>
          rw [ht, Bool.true_and] at hr
          cases hln : Nat.beq cs.length ((szT P ty).getD 0) with
          | false => rw [hln] at hr; cases hr
          | true =>
          rw [hln] at hr
          simp only [cond_true] at hr
          have hln := Nat.eq_of_beq_eq_true hln
          have h5 : 5 ≤ T := Nat.le_of_ble_eq_true ht
          obtain ⟨hTe, hagt⟩ := t5 h5
          subst hTe
          obtain ⟨⟨g1, g0⟩, g2⟩ := eqTag_spec h5
          obtain ⟨A, hA, kA, oA⟩ := hok.agg e1
          obtain ⟨B, hB, kB, oB⟩ := hok'.agg e2
          obtain ⟨ag, hag, hn1⟩ := eqT_ag g2
          have hsz : ∃ n, szT P ty = some n ∧ cs.length = n := by
            obtain ⟨n, hn⟩ := Option.isSome_iff_exists.1 g0
            rw [hn] at hln
            exact ⟨n, hn, hln⟩
          obtain ⟨n, hn, hcl⟩ := hsz
          have hrun := eqC_of 20 ty 9980 g2 w w0 ρ (.agg A) (.agg B) cs ds n r hn hcl kA.1 kB.1 (fun _ => ⟨⟨_, rfl⟩, ⟨_, rfl⟩⟩) (fun e => by rw [hagt] at e; cases e) hr
          rw [hA, hB]
          refine ⟨run_eqGuard_agg w op ty x y A B g1, ?_, ?_⟩ <;> simp [Go.binOp, Op.equal, Op.maxDepth, hrun]
      all_goals first
        | (cases hr; done)
        | (rename_i e1 e2
           cases ht : Nat.beq T 3 with
           | false => rw [ht] at hr; cases hr
           | true =>
             rw [ht] at hr
             cases hr
             have h3 := Nat.eq_of_beq_eq_true ht
             have hX := hok.1
             have hY := hok'.1
             rw [e1] at hX
             rw [e2] at hY
             simp only [VR, Sc.val] at hX hY
             first
               | exact nilCase h3 _ _ hX hY (.inl ⟨rfl, none, 0, 0, rfl, rfl⟩)
               | (obtain ⟨p, cap, oo, _, hY, _⟩ := hY; exact nilCase h3 _ _ hX hY (.inl ⟨rfl, _, _, _, rfl, rfl⟩))
               | (obtain ⟨p, cap, oo, _, hX, _⟩ := hX; exact nilCase h3 _ _ hX hY (.inr ⟨rfl, _, _, _, rfl, rfl⟩))
               | (obtain ⟨p, cap, oo, hY, _⟩ := hY; exact nilCase h3 _ _ hX hY (.inl ⟨rfl, _, _, _, rfl, rfl⟩))
               | (obtain ⟨p, cap, oo, hX, _⟩ := hX; exact nilCase h3 _ _ hX hY (.inr ⟨rfl, _, _, _, rfl, rfl⟩)))
    split at h1
    · obtain ⟨r, hr, rfl⟩ := Option.map_eq_some_iff.1 h1
      obtain ⟨g1, g2, _⟩ := eqn r hr
      exact ⟨_, fin _ g1 g2, OK.mk_bool⟩
    · obtain ⟨r, hr, rfl⟩ := Option.map_eq_some_iff.1 h1
      obtain ⟨g1, _, g2⟩ := eqn r hr
      exact ⟨_, fin _ g1 g2, OK.mk_bool⟩
    · cases h1
end
end Go.Proofs.Ytojjhcgbbmknmaa.Sh

/- Cells that are put together, read, written, laid. -/
namespace Go.Proofs.Ytojjhcgbbmknmaa.Sh
set_option linter.unusedSimpArgs false
set_option linter.unusedVariables false
open Go Go.RowKit

section
variable {P : Program} {w0 : World} {ρ : Rho} {N : Nat} {t : Tr SV} {σ σ' : St} {a : Act} {o : Oper} {v : SV} {so : SOp}

theorem VRs.all_one : ∀ {cs : List SV} {vs : List Value}, VRs w0 ρ cs vs → allOne cs → ∀ v ∈ vs, v.oneCell' = true
  | [], _, k, _ => by simp only [VRs] at k; subst k; simp
  | c :: cs, _, k, h => by
    simp only [VRs] at k
    obtain ⟨v, r, rfl, k1, k2⟩ := k
    intro u hu
    rcases List.mem_cons.1 hu with rfl | hu
    · exact k1.one (h c (by simp))
    · exact VRs.all_one k2 (fun x hx => h x (by simp [hx])) u hu

theorem OK.flat {s : SV} {u : Value} (h : OK w0 ρ s u) (hl : s.lay = true) : OKs w0 ρ s.flat u.cells.toList ∧ allOne s.flat := by
  by_cases ha : ∃ cs, s = .agg cs
  · obtain ⟨cs, rfl⟩ := ha
    obtain ⟨A, rfl, k1, k2⟩ := h.agg rfl
    exact ⟨k1, k2⟩
  · have h1 : s.one = true := by
      cases s with
      | agg cs => exact absurd ⟨cs, rfl⟩ ha
      | tup => simp [SV.lay] at hl
      | sc s => cases s <;> simp_all [SV.lay, SV.one]
      | _ => rfl
    have hf : s.flat = [s] := by cases s <;> first | rfl | (exact absurd ⟨_, rfl⟩ ha)
    have hu : u.cells = #[u] := by
      have := h.1.one h1
      cases u <;> simp_all [Value.oneCell', Value.cells]
    rw [hf, hu]
    exact ⟨⟨VRs.cons h.1 VRs.nil, h.2, trivial⟩, by intro c hc; simp at hc; subst hc; exact h1⟩

theorem fold_set : ∀ (l : List Value) (k off : Nat) (A : Array Value), off + k + l.length ≤ A.size →
    (l.zipIdx k).foldl (fun cs p => cs.setIfInBounds (off + p.2) p.1) A = (A.toList.take (off + k) ++ l ++ A.toList.drop (off + k + l.length)).toArray
  | [], k, off, A, _ => by simp
  | v :: r, k, off, A, h => by
    simp only [List.length_cons] at h
    rw [List.zipIdx_cons, List.foldl_cons, fold_set r (k + 1) off _ (by simp; omega)]
    have e := list_seg_step A.toList (off + k) v r (by simp; omega)
    apply congrArg List.toArray
    simpa [Array.toList_setIfInBounds, Nat.add_assoc] using e

theorem paste_ok {cs : List SV} {A : Array Value} (h : OKs w0 ρ cs A.toList) (h1 : allOne cs) {new : List SV} {us : List Value} (k : OKs w0 ρ new us) (k1 : allOne new) (off : Nat) :
    OKs w0 ρ (paste cs off new) (A.toList.take off ++ us ++ A.toList.drop (off + us.length)) ∧ allOne (paste cs off new) := by
  rw [paste_def]
  rw [k.len]
  exact ⟨((h.take off).append k).append (h.drop _), allOne_append (allOne_append (allOne_take h1) k1) (allOne_drop h1)⟩

theorem fill_ok {place : Nat → Option (Nat × Nat)} (k : TR w0 ρ t N a.tmps) : ∀ (l : List (Nat × Operand)) (l' : List (Nat × Nat × Opd)) (cs cs' : List SV) (A : Array Value), compParts place l = some l' → OKs w0 ρ cs A.toList → allOne cs →
    fillParts t cs l' = some cs' → ∃ A', Instr.fill place A (l.map fun p => (p.1, a.eval p.2)) = some A' ∧ OKs w0 ρ cs' A'.toList ∧ allOne cs'
  | [], _, cs, cs', A, hc, h, h1, hf => by
    simp only [compParts, Option.some.injEq] at hc
    subst hc
    simp only [fillParts, Option.some.injEq] at hf
    subst hf
    exact ⟨A, by simp [Instr.fill], h, h1⟩
  | (i, x) :: r, _, cs, cs', A, hc, h, h1, hf => by
    simp only [compParts] at hc
    split at hc
    · rename_i off n y l e1 e2 e3
      cases hc
      simp only [fillParts] at hf
      split at hf
      · rename_i hcond
        obtain ⟨c1, c2, c3⟩ := hcond
        obtain ⟨f1, f2⟩ := (opd_ok e2 k).flat c3
        have hlen := f1.len
        have hA := h.len
        obtain ⟨p1, p2⟩ := paste_ok h h1 f1 f2 off
        have hfold : (a.eval x).cells.zipIdx.foldl (fun cs p => cs.setIfInBounds (off + p.2) p.1) A = (A.toList.take off ++ (a.eval x).cells.toList ++ A.toList.drop (off + (a.eval x).cells.toList.length)).toArray := by
          have := fold_set (a.eval x).cells.toList 0 off A (by simp at hA hlen ⊢; omega)
          rw [Nat.add_zero] at this
          rw [← this, ← Array.foldl_toList, Array.toList_zipIdx]
        obtain ⟨A', q1, q2, q3⟩ := fill_ok k r l _ cs' (A.toList.take off ++ (a.eval x).cells.toList ++ A.toList.drop (off + (a.eval x).cells.toList.length)).toArray e3 (by simpa using p1) p2 hf
        refine ⟨A', ?_, q2, q3⟩
        have hsz : (a.eval x).cells.size = n := by simp at hlen; omega
        have hle : ¬ (off + (a.eval x).cells.size > A.size) := by simp at hA; omega
        rw [List.map_cons, Instr.fill, e1]
        simp only [hsz, ne_eq, not_true_eq_false, decide_false, Bool.false_or]
        rw [if_neg (by simpa [hsz] using hle)]
        rw [← q1]
        exact congrArg (fun z => Instr.fill place z _) hfold
      · cases hf
    · cases hc

theorem zsT_ok {ty : TypeId} {zs : List SV} (h : zsT P ty = some zs) : ∃ i z, P.info? ty = some i ∧ i.zero = some z ∧ OKs w0 ρ zs z.cells.toList ∧ allOne zs := by
  unfold zsT at h
  obtain ⟨z, h1, h2⟩ := Option.bind_eq_some_iff.1 h
  obtain ⟨i, h3, h4⟩ := Option.bind_eq_some_iff.1 h1
  obtain ⟨k1, _, k3⟩ := scsOf_ok (w0 := w0) (ρ := ρ) h2
  exact ⟨i, z, h3, h4, k1, k3⟩

theorem y_build {ty : TypeId} {parts : Array (Nat × Operand)} (ho : o.op = .build ty parts) {l' : List (Nat × Nat × Opd)} {zs : List SV} (hz : zsT P ty = some zs)
    (hp : (∃ n e s, P.underlying ty = some (.array n e) ∧ szT P e = some s ∧ compParts (fun i => some (i * s, s)) parts.toList = some l') ∨
      (∃ fs places, P.underlying ty = some (.struct fs) ∧ fs.toList.mapM (fun f => (P.info? f.type).map fun i => (f.offset, i.size)) = some places ∧ compParts (fun i => places.toArray[i]?) parts.toList = some l'))
    (k : TR w0 ρ t N a.tmps) (h : sop (.build zs l') t σ = some (v, σ')) : σ' = σ ∧ Yld P w0 ρ a o v := by
  simp only [sop, Option.map_eq_some_iff, Prod.mk.injEq] at h
  obtain ⟨cs, h2, rfl, rfl⟩ := h
  refine ⟨rfl, fun w => ?_⟩
  obtain ⟨i, z, e1, e2, kz, hone⟩ := zsT_ok (w0 := w0) (ρ := ρ) hz
  have fin : ∀ A', P.built ty (parts.map fun (i, x) => (i, a.eval x)).toList = some A' → OKs w0 ρ cs A'.toList → allOne cs → ∃ u, (execOp a.eval o).run P w = .ok (.value u) w ∧ OK w0 ρ (.agg cs) u := by
    intro A' hb q2 q3
    refine ⟨.agg A', ?_, ?_, q3, q2.2⟩
    · simp [execOp, ho, run_build w ty _ A' hb]
    · simp only [VR]; exact ⟨A', rfl, q2.1⟩
  have hmap : (parts.map fun (i, x) => (i, a.eval x)).toList = parts.toList.map fun p => (p.1, a.eval p.2) := by simp
  rcases hp with ⟨n, e, s, hu, hs, hc⟩ | ⟨fs, places, hu, hm, hc⟩
  · obtain ⟨A', q1, q2, q3⟩ := fill_ok k _ _ _ _ _ hc kz hone h2
    refine fin A' ?_ q2 q3
    unfold szT at hs
    obtain ⟨ie, g1, g2⟩ := Option.map_eq_some_iff.1 hs
    subst g2
    rw [hmap]
    simp only [Program.built, e1, hu, e2, g1]
    exact q1
  · obtain ⟨A', q1, q2, q3⟩ := fill_ok k _ _ _ _ _ hc kz hone h2
    refine fin A' ?_ q2 q3
    rw [hmap]
    simp only [Program.built, e1, hu, e2, hm]
    exact q1

/-! ### Reading -/
theorem cell_of_block {w : World} {b : Nat} {A : Array Value} {e : TypeId} (h : w.heap[b]? = some (.cells A e (0, 0))) (i : Nat) : w.cell? ⟨b, i, none⟩ = A[i]? := by
  simp [World.cell?, h]

theorem run_loadVar {w : World} {ty : TypeId} {ag : Bool} {n b off : Nat} {r : List SV} {vs : List Value} (hag : agT P ty = some ag) (hsz : szT P ty = some n) (hok : OKs w0 ρ r vs) (h1 : allOne r) (hl : r.length = n)
    (hc : ∀ j u, vs[j]? = some u → w.cell? ⟨b, off + j, none⟩ = some u) (h : unflat ag r = some v) : ∃ u, (loadVar ty ⟨b, off, none⟩).run P w = .ok u w ∧ OK w0 ρ v u := by
  have hlen := hok.len
  rcases unflat_eq h with ⟨rfl, rfl⟩ | ⟨rfl, rfl⟩
  · have hr := run_loadCells_list (P := P) w ⟨b, off, none⟩ vs (fun j u hj => by rw [Addr.add_lit]; exact hc j u hj)
    refine ⟨.agg vs.toArray, ?_, ?_, h1, hok.2⟩
    · rw [hlen, hl] at hr
      simp [loadVar, run_isAgg hag, run_sizeOf hsz, hr]
    · simp only [VR]; exact ⟨_, rfl, by simpa using hok.1⟩
  · obtain ⟨u, rfl, hu⟩ := hok.1.one
    refine ⟨u, ?_, hu, hok.2.1⟩
    have := hc 0 u rfl
    simp only [Nat.add_zero] at this
    simp [loadVar, run_isAgg hag, load, Sem.run, this]

theorem load_ok {w : World} {ty : TypeId} {ag : Bool} {n : Nat} {s : SV} {x : Value} (hag : agT P ty = some ag) (hsz : szT P ty = some n) (sr : SR P w0 ρ σ w) (hx : OK w0 ρ s x) (h : loadSV σ ag n s = some v) :
    ∃ A u, x = .pointer (some A) ∧ (loadVar ty A).run P w = .ok u w ∧ OK w0 ρ v u := by
  unfold loadSV at h
  split at h
  · rename_i id off
    obtain ⟨cs, h1, h2⟩ := Option.bind_eq_some_iff.1 h
    obtain ⟨r, h3, h4⟩ := Option.bind_eq_some_iff.1 h2
    obtain ⟨hle, rfl⟩ := cut_eq h3
    obtain ⟨p, hp, rfl⟩ := (by simpa only [VR] using hx.1 : ∃ p, ρ id = some p ∧ x = .pointer (some ⟨p.blk, p.base + off, none⟩))
    have hg : σ.get id = some (.cells cs) := by
      unfold cellsOf at h1
      split at h1 <;> first | (cases h1; assumption) | cases h1
    have hob := sr.obs id p hp
    rw [hg] at hob
    obtain ⟨A, e, hb, hs, hfit, hcs, hone⟩ := hob
    have hok := (hcs.drop off).take n
    obtain ⟨u, hr, hu⟩ := run_loadVar (P := P) (w := w) (b := p.blk) (off := p.base + off) hag hsz hok (allOne_take (allOne_drop hone)) (by simp; omega) (fun j u hj => by
      rw [cell_of_block hb]
      simp only [List.getElem?_take, List.getElem?_drop] at hj
      split at hj
      · split at hj
        · rw [← Array.getElem?_toList, ← hj]; congr 1; omega
        · cases hj
      · cases hj) h4
    exact ⟨_, u, rfl, hr, hu⟩
  · rename_i cs off
    obtain ⟨r, h3, h4⟩ := Option.bind_eq_some_iff.1 h
    obtain ⟨hle, rfl⟩ := cut_eq h3
    obtain ⟨A, vs, rfl, h5, h67, h8⟩ := (by simpa only [VR, Lies] using hx.1 : ∃ (A : Addr) (vs : List Value), x = .pointer (some ⟨A.block, A.off + off, none⟩) ∧ VRs w0 ρ cs vs ∧ (vs ≠ [] → A.spot = none) ∧ ∀ i v, vs[i]? = some v → w0.cell? ⟨A.block, A.off + i, none⟩ = some v ∨ ρ.fz ⟨A.block, A.off + i, none⟩ v)
    have hwf := hx.2
    simp only [SV.wf] at hwf
    have hok : OKs w0 ρ ((cs.drop off).take n) ((vs.drop off).take n) := ⟨(h5.drop off).take n, wfs_take (wfs_drop hwf.2)⟩
    obtain ⟨u, hr, hu⟩ := run_loadVar (P := P) (w := w) (b := A.block) (off := A.off + off) hag hsz hok (allOne_take (allOne_drop hwf.1)) (by simp; omega) (fun j u hj => by
      simp only [List.getElem?_take, List.getElem?_drop] at hj
      split at hj
      · have := sr.lies (h8 _ _ hj)
        rw [← this]; congr 2; omega
      · cases hj) h4
    exact ⟨_, u, rfl, hr, hu⟩
  · cases h

theorem r_load {w : World} {ty : TypeId} {x : Operand} (ho : o.op = .load ty x) {ag : Bool} {n : Nat} {y : Opd} (hag : agT P ty = some ag) (hsz : szT P ty = some n) (hx : compOpd x = some y) (sr : SR P w0 ρ σ w) (k : TR w0 ρ t N a.tmps)
    (h : sop (.load ag n y) t σ = some (v, σ')) : σ' = σ ∧ ∃ u, (execOp a.eval o).run P w = .ok (.value u) w ∧ OK w0 ρ v u := by
  simp only [sop, Option.map_eq_some_iff, Prod.mk.injEq] at h
  obtain ⟨v', h1, rfl, rfl⟩ := h
  obtain ⟨A, u, hA, hr, hu⟩ := load_ok hag hsz sr (opd_ok hx k) h1
  exact ⟨rfl, u, by simp [execOp, ho, hA, Instr.loadAt, Instr.sureAddr, hr], hu⟩

/-! ### Writing -/
theorem seg_paste (L us : List Value) (b c off : Nat) (h : b + c ≤ L.length) (h2 : off + us.length ≤ c) :
    ((L.take (b + off) ++ us ++ L.drop (b + off + us.length)).drop b).take c = ((L.drop b).take c).take off ++ us ++ ((L.drop b).take c).drop (off + us.length) := by
  apply List.ext_getElem?
  intro j
  simp only [List.getElem?_take, List.getElem?_drop, List.getElem?_append, List.length_append, List.length_take, List.length_drop]
  rw [show min (b + off) L.length = b + off by omega, show min off (min c (L.length - b)) = off by omega]
  by_cases hj : j < c
  · rw [if_pos hj]
    by_cases h3 : j < off
    · rw [if_pos (by omega), if_pos (by omega), if_pos (by omega), if_pos (by omega), if_pos (by omega)]
      simp [h3, hj]
    · by_cases h4 : j < off + us.length
      · rw [if_pos (by omega), if_neg (by omega), if_pos (by omega), if_neg (by omega)]
        congr 1; omega
      · rw [if_neg (by omega), if_neg (by omega)]
        rw [show off + us.length + (j - (off + us.length)) = j by omega, if_pos hj]
        congr 1; omega
  · rw [if_neg hj, if_neg (by omega)]
    rw [show off + us.length + (j - (off + us.length)) = j by omega, if_neg hj]
theorem b_store {w : World} {ty : TypeId} {x y : Operand} (ho : o.op = .store ty x y) {n : Nat} {x' y' : Opd} (hsz : szT P ty = some n) (hx : compOpd x = some x') (hy : compOpd y = some y') (sr : SR P w0 ρ σ w) (k : TR w0 ρ t N a.tmps)
    (h : sop (.store n x' y') t σ = some (v, σ')) : v = .undef ∧ ∃ w', (execOp a.eval o).run P w = .ok .skip w' ∧ Step1 P w0 ρ σ w ρ σ' w' := by
  have hok := opd_ok hx k
  simp only [sop] at h
  split at h
  · rename_i id off e
    obtain ⟨cs, h1, h2⟩ := Option.bind_eq_some_iff.1 h
    split at h2
    · rename_i hcond
      obtain ⟨c1, c2, c3⟩ := hcond
      cases h2
      refine ⟨rfl, ?_⟩
      rw [e] at hok
      obtain ⟨p, hp, hX⟩ := (by simpa only [VR] using hok.1 : ∃ p, ρ id = some p ∧ a.eval x = .pointer (some ⟨p.blk, p.base + off, none⟩))
      have hg : σ.get id = some (.cells cs) := by
        unfold cellsOf at h1
        split at h1 <;> first | (cases h1; assumption) | cases h1
      have hob := sr.obs id p hp
      rw [hg] at hob
      obtain ⟨A, ty', hb, hs, hfit, hcs, hone⟩ := hob
      obtain ⟨f1, f2⟩ := (opd_ok hy k).flat c3
      have hlen := f1.len
      have h1c := VRs.all_one f1.1 f2
      have hst := run_storeCells_at P p.blk (p.base + off) ty' (a.eval y).cells.toList 0 A w hb (by omega) h1c
      simp only [Nat.add_zero] at hst
      have hcsz : (a.eval y).cells.size = n := by simp at hlen; omega
      have hrun : ∀ W, (storeCells ⟨p.blk, p.base + off, none⟩ (a.eval y).cells.toList).run P w = .ok () W → (execOp a.eval o).run P w = .ok .skip W := fun W hW => by
        simp [execOp, ho, hX, Instr.storeAt, Instr.sureAddr, storeVar, run_sizeOf hsz, hcsz, hW]
      refine ⟨_, hrun _ hst, ?_⟩
      have hsr := setRow_heap w p.blk A (A.toList.take (p.base + off) ++ (a.eval y).cells.toList ++ A.toList.drop (p.base + off + (a.eval y).cells.toList.length)).toArray ty' _ hb
      refine sr.write hp (by rw [hg]; simp) (by simp [World.setRow]) hsr (fun k hk => setRow_other w p.blk k _ hk) rfl rfl rfl ?_ (fun r hr => by rw [hb] at hr; cases hr)
      obtain ⟨q1, q2⟩ := paste_ok hcs hone f1 f2 off
      have hpl : (paste cs off (y'.ev t).flat).length = cs.length := by rw [paste_def]; simp; omega
      refine ⟨_, ty', hsr, by simp; omega, by rw [hpl]; omega, ?_, q2⟩
      rw [hpl]
      have hcl := hcs.len
      have hfl : (a.eval y).cells.toList.length = n := by omega
      have key := seg_paste A.toList (a.eval y).cells.toList p.base cs.length off (by simp; omega) (by omega)
      simp only [List.toList_toArray]
      rw [key]
      exact q1
    · cases h2
  · cases h
end
end Go.Proofs.Ytojjhcgbbmknmaa.Sh
