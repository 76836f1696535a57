/- Slices of slices, lengths, maps. -/
import Derived.Test.YtojjhcgbbmknmaaShAppend
namespace Go.Proofs.Ytojjhcgbbmknmaa.Sh
set_option linter.unusedSimpArgs false
set_option linter.unusedVariables false
open Go Go.RowKit

section
variable {P : Program} {w0 : World} {ρ : Rho} {N : Nat} {t : Tr SV} {σ σ' : St} {a : Act} {o : Oper} {v : SV} {so : SOp}

theorem run_sliceBound {w : World} {k : IntKind} {i : Int} {y : Nat} {c : BoundsCode} (h0 : 0 ≤ i) (h1 : i ≤ y) : (Instr.sliceBound (.int k i) y c).run P w = .ok i.toNat w := by
  simp [Instr.sliceBound, asIntOf, h0, h1]

/-- The bounds of a slice expression. -/
theorem run_bounds {w : World} {sl : Bool} {len cap : Nat} {lo hi : Option Operand} {lo' hi' : Option Opd} (hl : optOpd lo = some lo') (hh : optOpd hi = some hi') (k : TR w0 ρ t N a.tmps) (hc : len ≤ cap) {l h : Nat} (hb : bounds len t lo' hi' = some (l, h)) :
    l ≤ h ∧ h ≤ len ∧ (Instr.sliceBounds sl len cap (lo.map a.eval) (hi.map a.eval) none).run P w = .ok (l, h, cap) w := by
  have hi1 : ∀ H : Int, hiI len t hi' = some H → (hi = none ∧ H = len) ∨ ∃ x kd, hi = some x ∧ a.eval x = .int kd H := by
    intro H e
    cases hi with
    | none =>
      simp only [optOpd, Option.some.injEq] at hh
      subst hh
      simp only [hiI, Option.some.injEq] at e
      exact .inl ⟨rfl, e.symm⟩
    | some x =>
      simp only [optOpd, Option.map_eq_some_iff] at hh
      obtain ⟨y, hy, rfl⟩ := hh
      obtain ⟨kd, hv⟩ := (opd_ok hy k).intOf e
      exact .inr ⟨x, kd, rfl, hv⟩
  have lo1 : ∀ L : Int, loI t lo' = some L → (lo = none ∧ L = 0) ∨ ∃ x kd, lo = some x ∧ a.eval x = .int kd L := by
    intro L e
    cases lo with
    | none =>
      simp only [optOpd, Option.some.injEq] at hl
      subst hl
      simp only [loI, Option.some.injEq] at e
      exact .inl ⟨rfl, e.symm⟩
    | some x =>
      simp only [optOpd, Option.map_eq_some_iff] at hl
      obtain ⟨y, hy, rfl⟩ := hl
      obtain ⟨kd, hv⟩ := (opd_ok hy k).intOf e
      exact .inr ⟨x, kd, rfl, hv⟩
  unfold bounds at hb
  split at hb
  · rename_i L H eL eH
    split at hb
    · rename_i hc1
      simp only [Option.some.injEq, Prod.mk.injEq] at hb
      obtain ⟨rfl, rfl⟩ := hb
      obtain ⟨h1, h2, h3⟩ := hc1
      refine ⟨by omega, by omega, ?_⟩
      have rb : ∀ (kd : IntKind) (c : BoundsCode), (Instr.sliceBound (.int kd H) cap c).run P w = .ok H.toNat w := fun kd c => run_sliceBound (by omega) (by omega)
      have rl : ∀ (kd : IntKind) (c : BoundsCode) (n : Nat), L ≤ n → (Instr.sliceBound (.int kd L) n c).run P w = .ok L.toNat w := fun kd c n hn => run_sliceBound h1 hn
      rcases hi1 H eH with ⟨rfl, rfl⟩ | ⟨x, kd, rfl, hv⟩ <;> rcases lo1 L eL with ⟨rfl, rfl⟩ | ⟨y, kd', rfl, hv'⟩
      · simp [Instr.sliceBounds]
      · simp [Instr.sliceBounds, hv', rl kd' _ len (by omega)]
      · simp [Instr.sliceBounds, hv, rb]
      · simp [Instr.sliceBounds, hv, hv', rb, rl kd' _ H.toNat (by omega)]
    · cases hb
  · cases hb

theorem y_slc {ty e : TypeId} {x : Operand} {lo hi : Option Operand} (ho : o.op = .slice ty x lo hi none) {s : Nat} {x' : Opd} {lo' hi' : Option Opd} (hu : P.underlying ty = some (.slice e)) (hs : szT P e = some s) (h0 : 0 < s)
    (hx : compOpd x = some x') (hl : optOpd lo = some lo') (hh : optOpd hi = some hi') (k : TR w0 ρ t N a.tmps) (h : sop (.slc s x' lo' hi') t σ = some (v, σ')) : σ' = σ ∧ Yld P w0 ρ a o v := by
  have hX := opd_ok hx k
  have fin : ∀ (w : World) (p : Option Addr) (len cap l h : Nat), a.eval x = .slice p len cap → (Instr.sliceBounds true len cap (lo.map a.eval) (hi.map a.eval) none).run P w = .ok (l, h, cap) w →
      (execOp a.eval o).run P w = .ok (.value (.slice (if cap = l then p else p.map (·.add (l * s))) (h - l) (cap - l))) w := by
    intro w p len cap l h hxv hb
    simp [execOp, ho, hxv, Instr.sliceAt, Instr.slice, run_underlying hu, hb, run_sizeOf hs]
  simp only [sop] at h
  split at h
  · rename_i hx0
    obtain ⟨⟨l, hh'⟩, hb, h1⟩ := Option.map_eq_some_iff.1 h
    cases h1
    refine ⟨rfl, fun w => ?_⟩
    have hxv : a.eval x = .slice none 0 0 := by have := hX.1; rw [hx0] at this; simpa only [VR, Sc.val] using this
    obtain ⟨b1, b2, b3⟩ := run_bounds (P := P) (w := w) (sl := true) (cap := 0) hl hh k (Nat.le_refl _) hb
    obtain rfl : hh' = 0 := by omega
    obtain rfl : l = 0 := by omega
    exact ⟨_, fin w _ _ _ _ _ hxv b3, OK.mk_sc (s := .nilsl)⟩
  · rename_i id off len sz hx0
    cases hsz : Nat.beq sz s with
    | false => rw [hsz] at h; cases h
    | true =>
    rw [hsz] at h
    obtain rfl := Nat.eq_of_beq_eq_true hsz
    obtain ⟨⟨l, hh'⟩, hb, h1⟩ := Option.map_eq_some_iff.1 h
    cases h1
    refine ⟨rfl, fun w => ?_⟩
    rw [hx0] at hX
    obtain ⟨p, cap, oo, k1, k2, k3, k4, k5, k6⟩ := (by simpa only [VR] using hX.1 : ∃ p cap oo, ρ id = some p ∧ a.eval x = .slice (some ⟨p.blk, oo, none⟩) len cap ∧ (oo = p.base + off ∨ cap = 0) ∧ len ≤ cap ∧ 0 < sz ∧ (0 < cap → p.base + off + cap * sz ≤ p.size))
    obtain ⟨b1, b2, b3⟩ := run_bounds (P := P) (w := w) (sl := true) (cap := cap) hl hh k k4 hb
    refine ⟨_, fin w _ _ _ _ _ k2 b3, ?_, trivial⟩
    simp only [VR]
    by_cases hcl : cap = l
    · rw [if_pos hcl]
      exact ⟨p, cap - l, oo, k1, rfl, .inr (by omega), by omega, k5, fun hpos => by omega⟩
    · rw [if_neg hcl]
      refine ⟨p, cap - l, oo + l * sz, k1, by simp [Addr.add_lit], .inl ?_, by omega, k5, fun hpos => ?_⟩
      · have : oo = p.base + off := by rcases k3 with k3 | k3 <;> omega
        omega
      · have h6 := k6 (by omega)
        have : l * sz + (cap - l) * sz = cap * sz := by rw [← Nat.add_mul]; congr 1; omega
        omega
  · rename_i len sz cells hx0
    cases hsz : Nat.beq sz s with
    | false => rw [hsz] at h; cases h
    | true =>
    rw [hsz] at h
    obtain rfl := Nat.eq_of_beq_eq_true hsz
    obtain ⟨⟨l, hh'⟩, hb, h1⟩ := Option.map_eq_some_iff.1 h
    cases h1
    refine ⟨rfl, fun w => ?_⟩
    rw [hx0] at hX
    obtain ⟨A, cap, vs, k1, k2, k3, k4, k5⟩ := (by simpa only [VR] using hX.1 : ∃ A cap vs, a.eval x = .slice (some A) len cap ∧ len ≤ cap ∧ VRs w0 ρ cells vs ∧ Lies w0 ρ A vs ∧ cells.length = len * sz ∧ 0 < sz)
    obtain ⟨k5, k6⟩ := k5
    obtain ⟨b1, b2, b3⟩ := run_bounds (P := P) (w := w) (sl := true) (cap := cap) hl hh k k2 hb
    have hwf := hX.2
    simp only [SV.wf] at hwf
    refine ⟨_, fin w _ _ _ _ _ k1 b3, ?_, allOne_take (allOne_drop hwf.1), wfs_take (wfs_drop hwf.2)⟩
    simp only [VR]
    have hvr := (k3.drop (l * sz)).take ((hh' - l) * sz)
    have hmul : hh' * sz ≤ len * sz := Nat.mul_le_mul_right _ b2
    have hmul2 : l * sz + (hh' - l) * sz = hh' * sz := by rw [← Nat.add_mul]; congr 1; omega
    have hlen2 : ((cells.drop (l * sz)).take ((hh' - l) * sz)).length = (hh' - l) * sz := by simp; omega
    by_cases hvs : vs = []
    · subst hvs
      refine ⟨if cap = l then A else A.add (l * sz), cap - l, _, by split <;> rfl, by omega, hvr, ⟨fun hne => absurd (by simp) hne, fun i u hi => by simp at hi⟩, hlen2, k6⟩
    · obtain ⟨b, off, sp⟩ := A
      obtain ⟨h67, h8⟩ := k4
      have h6 := h67 hvs
      simp only at h6; subst h6
      by_cases hcl : cap = l
      · rw [if_pos hcl]
        have hz : hh' - l = 0 := by omega
        refine ⟨⟨b, off, none⟩, cap - l, _, rfl, by omega, hvr, ⟨fun _ => rfl, fun i u hi => ?_⟩, hlen2, k6⟩
        rw [hz, Nat.zero_mul, List.take_zero] at hi
        simp at hi
      · rw [if_neg hcl]
        refine ⟨⟨b, off + l * sz, none⟩, cap - l, _, by simp [Addr.add_lit], by omega, hvr, ⟨fun _ => rfl, fun i u hi => ?_⟩, hlen2, k6⟩
        simp only [List.getElem?_take, List.getElem?_drop] at hi
        split at hi
        · have := h8 _ _ hi
          rw [← Nat.add_assoc] at this
          exact this
        · cases hi
  · cases h

theorem r_slcArr {w : World} {ty e : TypeId} {x : Operand} {lo hi : Option Operand} (ho : o.op = .slice ty x lo hi none) {n s : Nat} {x' : Opd} {lo' hi' : Option Opd} (hu : P.underlying ty = some (.array n e)) (hs : szT P e = some s) (h0 : 0 < s)
    (hx : compOpd x = some x') (hl : optOpd lo = some lo') (hh : optOpd hi = some hi') (sr : SR P w0 ρ σ w) (k : TR w0 ρ t N a.tmps) (h : sop (.slcArr n s x' lo' hi') t σ = some (v, σ')) :
    σ' = σ ∧ ∃ u, (execOp a.eval o).run P w = .ok (.value u) w ∧ OK w0 ρ v u := by
  have hX := opd_ok hx k
  simp only [sop] at h
  split at h
  · rename_i id off hx0
    obtain ⟨cs, hcs, h⟩ := Option.bind_eq_some_iff.1 h
    split at h
    · rename_i hfit
      obtain ⟨⟨l, hh'⟩, hb, h1⟩ := Option.map_eq_some_iff.1 h
      cases h1
      refine ⟨rfl, ?_⟩
      rw [hx0] at hX
      obtain ⟨p, k1, k2⟩ := (by simpa only [VR] using hX.1 : ∃ p, ρ id = some p ∧ a.eval x = .pointer (some ⟨p.blk, p.base + off, none⟩))
      have hg : σ.get id = some (.cells cs) := by
        unfold cellsOf at hcs
        split at hcs <;> first | (cases hcs; assumption) | cases hcs
      have hob := sr.obs id p k1
      rw [hg] at hob
      obtain ⟨A, e', hb', hsz, hfit', _, _⟩ := hob
      obtain ⟨b1, b2, b3⟩ := run_bounds (P := P) (w := w) (sl := false) (cap := n) hl hh k (Nat.le_refl _) hb
      refine ⟨.slice (some (if n = l then ⟨p.blk, p.base + off, none⟩ else ⟨p.blk, p.base + off + l * s, none⟩)) (hh' - l) (n - l), ?_, ?_, trivial⟩
      · simp only [execOp, ho, k2, Instr.sliceAt, Sem.run_bind, run_underlying hu, Result.andThen_ok, Instr.sureAddr, Sem.run_pure, Option.map_none, b3, run_sizeOf hs, Addr.add_lit]
      · simp only [VR]
        by_cases hcl : n = l
        · rw [if_pos hcl]
          exact ⟨p, n - l, _, k1, rfl, .inr (by omega), by omega, h0, fun hpos => by omega⟩
        · rw [if_neg hcl]
          refine ⟨p, n - l, _, k1, rfl, .inl (by omega), by omega, h0, fun hpos => ?_⟩
          have : l * s + (n - l) * s = n * s := by rw [← Nat.add_mul]; congr 1; omega
          omega
    · cases h
  · cases h

theorem len_ok {s : SV} {x : Value} {n : Nat} (hX : OK w0 ρ s x) (h1 : lenSV s = some n) : ∃ p c, x = .slice p n c := by
  unfold lenSV at h1
  split at h1
  · cases h1; exact ⟨_, _, by simpa only [VR, Sc.val] using hX.1⟩
  · cases h1
    obtain ⟨A, cap, vs, k1, _⟩ := (by simpa only [VR] using hX.1 : ∃ (A : Addr) (cap : Nat) (vs : List Value), x = .slice (some A) n cap ∧ _)
    exact ⟨_, _, k1⟩
  · cases h1
    obtain ⟨p, cap, oo, _, k2, _⟩ := (by simpa only [VR] using hX.1 : ∃ (p : Pl) (cap oo : Nat), ρ _ = some p ∧ x = .slice (some ⟨p.blk, oo, none⟩) n cap ∧ _)
    exact ⟨_, _, k2⟩
  · cases h1
theorem y_lenSl {ty e : TypeId} {x : Operand} (ho : o.op = .call { callee := .builtin .len, args := #[x], argTypes := #[ty] }) (hu : P.underlying ty = some (.slice e)) {y : Opd} (hx : compOpd x = some y) (k : TR w0 ρ t N a.tmps)
    (h : sop (.lenSl y) t σ = some (v, σ')) : σ' = σ ∧ Yld P w0 ρ a o v := by
  simp only [sop, Option.map_eq_some_iff, Prod.mk.injEq] at h
  obtain ⟨n, h1, rfl, rfl⟩ := h
  obtain ⟨p, c, hv⟩ := len_ok (opd_ok hx k) h1
  exact ⟨rfl, fun w => ⟨.int .i64 n, by simp [execOp, ho, resolve, invoke, Go.builtin, hv, Builtin.len_, run_underlying hu, goInt], OK.mk_int⟩⟩

theorem y_lenArr {ty : TypeId} {x : Operand} {n : Nat} (ho : o.op = .call { callee := .builtin .len, args := #[x], argTypes := #[ty] })
    (hu : (∃ e, P.underlying ty = some (.array n e)) ∨ ∃ q e, P.underlying ty = some (.pointer q) ∧ P.underlying q = some (.array n e)) (h : sop (.lenArr n) t σ = some (v, σ')) : σ' = σ ∧ Yld P w0 ρ a o v := by
  simp only [sop, Option.some.injEq, Prod.mk.injEq] at h
  obtain ⟨rfl, rfl⟩ := h
  refine ⟨rfl, fun w => ⟨.int .i64 n, ?_, OK.mk_int⟩⟩
  rcases hu with ⟨e, hu⟩ | ⟨q, e, hu, hq⟩
  · simp [execOp, ho, resolve, invoke, Go.builtin, Builtin.len_, run_underlying hu, goInt]
  · simp [execOp, ho, resolve, invoke, Go.builtin, Builtin.len_, run_underlying hu, run_underlying hq, goInt]

/-! ### Maps whose keys are whole numbers -/
theorem EntR.len : ∀ {es : List (SV × SV)} {l : List MapEntry}, EntR w0 ρ es l → l.length = es.length
  | [], _, h => by simp only [EntR] at h; subst h; rfl
  | (a, b) :: r, _, h => by
    simp only [EntR] at h
    obtain ⟨e, l, rfl, _, _, h⟩ := h
    simp [EntR.len h]

theorem r_lenMap {w : World} {ty kt e : TypeId} {x : Operand} (ho : o.op = .call { callee := .builtin .len, args := #[x], argTypes := #[ty] }) (hu : P.underlying ty = some (.map kt e)) {y : Opd} (hx : compOpd x = some y) (sr : SR P w0 ρ σ w) (k : TR w0 ρ t N a.tmps)
    (h : sop (.lenMap y) t σ = some (v, σ')) : σ' = σ ∧ ∃ u, (execOp a.eval o).run P w = .ok (.value u) w ∧ OK w0 ρ v u := by
  have hX := opd_ok hx k
  simp only [sop] at h
  split at h
  · rename_i e1
    cases h
    have hxv : a.eval x = .map none := by have := hX.1; rw [e1] at this; simpa only [VR, Sc.val] using this
    exact ⟨rfl, .int .i64 0, by simp [execOp, ho, resolve, invoke, Go.builtin, hxv, Builtin.len_, run_underlying hu, goInt], OK.mk_int⟩
  · rename_i id e1
    split at h
    · rename_i es hg
      cases h
      rw [e1] at hX
      obtain ⟨p, k1, k2⟩ := (by simpa only [VR] using hX.1 : ∃ p, ρ id = some p ∧ a.eval x = .map (some p.blk))
      have hob := sr.obs id p k1
      rw [hg] at hob
      obtain ⟨A, c, hb, hent⟩ := hob
      have hl := hent.len
      refine ⟨rfl, .int .i64 A.size, ?_, ?_⟩
      · have hgo : (getObj p.blk).run P w = .ok (.map A c) w := by simp [getObj, Sem.run, hb]
        simp [execOp, ho, resolve, invoke, Go.builtin, k2, Builtin.len_, run_underlying hu, hgo, goInt]
      · have : (A.size : Int) = es.length := by simp at hl; omega
        rw [this]; exact OK.mk_int
    · cases h
  · cases h

theorem findNow_ok {kd kd0 : IntKind} {n : Int} : ∀ {es : List (SV × SV)} {l : List MapEntry} (i : Nat), EntR w0 ρ es l → allKeys kd es = true →
    (findKey (.sc (.int kd n)) es = none → Instr.findNow (.int kd0) (.int kd n) l i = some none) ∧
    (∀ v, findKey (.sc (.int kd n)) es = some v → ∃ j u, Instr.findNow (.int kd0) (.int kd n) l i = some (some (i + j, u)) ∧ OK w0 ρ v u ∧ (∃ e, l[j]? = some e ∧ e.key = .int kd n))
  | [], _, i, h, _ => by
    simp only [EntR] at h; subst h
    exact ⟨fun _ => rfl, fun v h => by simp [findKey] at h⟩
  | (a, b) :: r, _, i, h, hk => by
    simp only [EntR] at h
    obtain ⟨e, l, rfl, h1, h2, h3⟩ := h
    unfold allKeys at hk
    simp only [List.all_cons, Bool.and_eq_true] at hk
    obtain ⟨hk1, hk2⟩ := hk
    obtain ⟨m, rfl⟩ : ∃ m, a = .sc (.int kd m) := by
      cases a with
      | sc s =>
        cases s with
        | int q m => exact ⟨m, by have : q = kd := by simpa using hk1
                                  rw [this]⟩
        | _ => simp at hk1
      | _ => simp at hk1
    have hkey := h1.int rfl
    obtain ⟨ih1, ih2⟩ := findNow_ok (n := n) (i + 1) h3 hk2
    simp only [findKey, Instr.findNow, Instr.sameNow, hkey, if_true]
    by_cases hnm : n = m
    · subst hnm
      simp only [beq_self_eq_true, if_true]
      exact ⟨fun h => by simp at h, fun v hv => ⟨0, e.val, by simp, by simp at hv; subst hv; exact h2, e, by simp, hkey⟩⟩
    · rw [if_neg hnm]
      have hb : (n == m) = false := by simpa using hnm
      rw [hb]
      refine ⟨ih1, fun v hv => ?_⟩
      obtain ⟨j, u, q1, q2, e', q3, q4⟩ := ih2 v hv
      exact ⟨j + 1, u, by simp only []; rw [q1]; congr 3; omega, q2, e', by simpa using q3, q4⟩

theorem run_checkKey {w : World} {em : Bool} {d : Nat} {kt : TypeId} {kd : IntKind} {v : Value} (hk : P.underlying kt = some (.int kd)) : (Instr.checkKey em (d + 1) kt v).run P w = .ok () w := by
  simp [Instr.checkKey, run_underlying hk]

theorem allKeys_cons {kd : IntKind} {p : SV × SV} {es : List (SV × SV)} (h : allKeys kd (p :: es) = true) : (∃ m, p.1 = .sc (.int kd m)) ∧ allKeys kd es = true := by
  unfold allKeys at h ⊢
  simp only [List.all_cons, Bool.and_eq_true] at h
  refine ⟨?_, h.2⟩
  obtain ⟨a, b⟩ := p
  have hk1 := h.1
  cases a with
  | sc s =>
    cases s with
    | int q m => exact ⟨m, by have : q = kd := by simpa using hk1
                              rw [this]⟩
    | _ => simp at hk1
  | _ => simp at hk1

theorem r_lookup {w : World} {ty kt e : TypeId} {kd : IntKind} {m x : Operand} {ok ag : Bool} {zs : List SV} {z : SV} (ho : o.op = .lookup ty m x ok) (hu : P.underlying ty = some (.map kt e)) (hk : P.underlying kt = some (.int kd))
    (hz : zsT P e = some zs) (hag : agT P e = some ag) (huf : unflat ag zs = some z) {m' x' : Opd} (hzag : ag = true → ∃ i A, P.info? e = some i ∧ i.zero = some (.agg A)) (hzn : ag = false → ∃ i u, P.info? e = some i ∧ i.zero = some u ∧ u.cells = #[u])
    (hm : compOpd m = some m') (hx : compOpd x = some x') (sr : SR P w0 ρ σ w) (k : TR w0 ρ t N a.tmps)
    (h : sop (.lookup z ok m' x') t σ = some (v, σ')) : σ' = σ ∧ ∃ u, (execOp a.eval o).run P w = .ok (.value u) w ∧ OK w0 ρ v u := by
  have hM := opd_ok hm k
  have hX := opd_ok hx k
  simp only [sop] at h
  split at h
  · rename_i kd' n e1
    have hxv := hX.int e1
    obtain ⟨i, zv, e1', e2', kz, hone⟩ := zsT_ok (w0 := w0) (ρ := ρ) hz
    have hzero : (zeroValue e).run P w = .ok zv w ∧ OK w0 ρ z zv := by
      refine ⟨by simp [zeroValue, typeInfo, e1', e2'], ?_⟩
      rcases unflat_eq huf with ⟨rfl, rfl⟩ | ⟨rfl, rfl⟩
      · obtain ⟨i', A, q1, q2⟩ := hzag rfl
        rw [e1'] at q1; cases q1
        rw [e2'] at q2; cases q2
        exact ⟨by simp only [VR]; exact ⟨A, rfl, kz.1⟩, hone, kz.2⟩
      · obtain ⟨i', u, q1, q2, q3⟩ := hzn rfl
        rw [e1'] at q1; cases q1
        rw [e2'] at q2; cases q2
        have h1 := kz.1
        rw [q3] at h1
        obtain ⟨u', q4, q5⟩ := h1.one
        cases q4
        exact ⟨q5, kz.2.1⟩
    have main : ∀ (es : List (SV × SV)) (A : Array MapEntry), EntR w0 ρ es A.toList →
        ((a.eval m = .map none ∧ A = #[]) ∨ ∃ b c, a.eval m = .map (some b) ∧ (getObj b).run P w = .ok (.map A c) w) →
        (if allKeys kd' es = true then
          (match findKey (.sc (.int kd' n)) es with
          | some v => some (if ok = true then .tup [v, .bool true] else v, σ)
          | none => some (if ok = true then .tup [z, .bool false] else z, σ))
        else none) = some (v, σ') → σ' = σ ∧ ∃ u, (execOp a.eval o).run P w = .ok (.value u) w ∧ OK w0 ρ v u := by
      intro es A hent hget hgo
      split at hgo
      · rename_i hall
        obtain ⟨f1, f2⟩ := findNow_ok (kd0 := kd) (n := n) 0 hent hall
        have fin : ∀ (r : Option (Nat × Value)) (u : Value), Instr.findNow (.int kd) (.int kd' n) A.toList 0 = some r →
            ((r = none → (zeroValue e).run P w = .ok u w) ∧ (∀ q, r = some q → q.2 = u)) →
            (execOp a.eval o).run P w = .ok (.value (if ok = true then .tuple #[u, .bool r.isSome] else u)) w := by
          intro r u hr hv
          have hfk : (Instr.findKey kt (.int kd' n) A.toList).run P w = .ok r w := by simp [Instr.findKey, run_underlying hk, hr]
          have hck := run_checkKey (P := P) (w := w) (em := A.isEmpty) (d := 9999) (v := .int kd' n) hk
          rcases hget with ⟨g1, rfl⟩ | ⟨b, c, g1, g2⟩
          · have hck2 := run_checkKey (P := P) (w := w) (em := true) (d := 9999) (v := .int kd' n) hk
            have hfk2 : (Instr.findKey kt (.int kd' n) []).run P w = .ok r w := hfk
            cases r with
            | none => have hv := hv.1 rfl; cases ok <;> simp [execOp, ho, hxv, Instr.lookup, run_underlying hu, g1, hck2, hfk2, hv]
            | some q => have hv := hv.2 q rfl; cases ok <;> simp [execOp, ho, hxv, Instr.lookup, run_underlying hu, g1, hck2, hfk2, hv]
          · cases r with
            | none => have hv := hv.1 rfl; cases ok <;> simp [execOp, ho, hxv, Instr.lookup, run_underlying hu, g1, g2, hck, hfk, hv]
            | some q => have hv := hv.2 q rfl; cases ok <;> simp [execOp, ho, hxv, Instr.lookup, run_underlying hu, g1, g2, hck, hfk, hv]
        cases hf : findKey (.sc (.int kd' n)) es with
        | none =>
          rw [hf] at hgo
          cases hgo
          refine ⟨rfl, _, fin none zv (f1 hf) ⟨fun _ => hzero.1, fun q e => (by cases e)⟩, ?_⟩
          cases ok
          · exact hzero.2
          · refine ⟨?_, hzero.2.2, trivial, trivial⟩
            simp only [if_true, VR]
            exact ⟨_, rfl, VRs.cons hzero.2.1 (VRs.cons (OK.mk_bool).1 VRs.nil)⟩
        | some v0 =>
          rw [hf] at hgo
          cases hgo
          obtain ⟨j, u, q1, q2, _⟩ := f2 v0 hf
          refine ⟨rfl, _, fin _ u q1 ⟨fun e => (by cases e), fun q e => (by cases e; rfl)⟩, ?_⟩
          cases ok
          · exact q2
          · refine ⟨?_, q2.2, trivial, trivial⟩
            simp only [if_true, VR]
            exact ⟨_, rfl, VRs.cons q2.1 (VRs.cons (OK.mk_bool).1 VRs.nil)⟩
      · cases hgo
    split at h
    · rename_i e2
      have hmv : a.eval m = .map none := by have := hM.1; rw [e2] at this; simpa only [VR, Sc.val] using this
      exact main [] #[] rfl (.inl ⟨hmv, rfl⟩) h
    · rename_i id e2
      split at h
      · rename_i es hg
        rw [e2] at hM
        obtain ⟨p, k1, k2⟩ := (by simpa only [VR] using hM.1 : ∃ p, ρ id = some p ∧ a.eval m = .map (some p.blk))
        have hob := sr.obs id p k1
        rw [hg] at hob
        obtain ⟨A, c, hb, hent⟩ := hob
        have hgo : (getObj p.blk).run P w = .ok (.map A c) w := by simp [getObj, Sem.run, hb]
        exact main es A hent (.inr ⟨_, _, k2, hgo⟩) h
      · cases h
    · cases h
  · cases h

end
end Go.Proofs.Ytojjhcgbbmknmaa.Sh
