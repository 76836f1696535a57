/- Least, greatest, copies, texts at a place; all operations that are no calls. -/
import Derived.Test.YtojjhcgbbmknmaaShOp2
namespace Go.Proofs.Ytojjhcgbbmknmaa.Sh
set_option linter.unusedSimpArgs false
set_option linter.unusedVariables false
open Go Go.RowKit

section
variable {P : Program} {w0 : World} {ρ : Rho} {N : Nat} {t : Tr SV} {σ σ' : St} {a : Act} {o : Oper} {v : SV} {so : SOp}

theorem y_minmax {mx : Bool} {x y : Operand} {ats : Array TypeId} (ho : o.op = .call { callee := .builtin (if mx then .max else .min), args := #[x, y], argTypes := ats }) {x' y' : Opd} (hx : compOpd x = some x') (hy : compOpd y = some y') (k : TR w0 ρ t N a.tmps)
    (h : sop (.minmax mx x' y') t σ = some (v, σ')) : σ' = σ ∧ Yld P w0 ρ a o v := by
  simp only [sop] at h
  split at h
  · rename_i k1 A k2 B e1 e2
    cases h
    refine ⟨rfl, fun w => ?_⟩
    have h1 := (opd_ok hx k).int e1
    have h2 := (opd_ok hy k).int e2
    cases mx with
    | true => exact ⟨_, by simp [execOp, ho, resolve, invoke, Go.builtin, Builtin.max_, Builtin.max2, h1, h2]; rfl, OK.mk_sc (s := .int k1 _)⟩
    | false => exact ⟨_, by simp [execOp, ho, resolve, invoke, Go.builtin, Builtin.min_, Builtin.min2, h1, h2]; rfl, OK.mk_sc (s := .int k1 _)⟩
  · cases h

theorem y_idxStr {ty : TypeId} {x i : Operand} (ho : o.op = .index ty x i) (hu : P.underlying ty = some .string) {x' i' : Opd} (hx : compOpd x = some x') (hi : compOpd i = some i') (k : TR w0 ρ t N a.tmps)
    (h : sop (.idxStr x' i') t σ = some (v, σ')) : σ' = σ ∧ Yld P w0 ρ a o v := by
  simp only [sop] at h
  split at h
  · rename_i s kd n e1 e2
    split at h
    · rename_i h0
      obtain ⟨b, hb, e⟩ := Option.map_eq_some_iff.1 h
      cases e
      refine ⟨rfl, fun w => ?_⟩
      have h1 : a.eval x = .string s := by have := (opd_ok hx k).1; rw [e1] at this; simpa only [VR, Sc.val] using this
      have h2 := (opd_ok hi k).int e2
      exact ⟨_, by simp [execOp, ho, Instr.index, h1, h2, asIntOf, run_underlying hu, h0, hb]; rfl, OK.mk_sc (s := .int .u8 _)⟩
    · cases h
  · cases h

/-- Cells are written. -/
theorem write_cells {w : World} (sr : SR P w0 ρ σ w) {id : Nat} {p : Pl} {cs new : List SV} {us : List Value} (hp : ρ id = some p) (hg : σ.get id = some (.cells cs)) (f1 : OKs w0 ρ new us) (f2 : allOne new) {off q : Nat} (hq : q = p.base + off ∨ us = []) (hle : off + new.length ≤ cs.length) :
    ∃ w', (storeCells ⟨p.blk, q, none⟩ us).run P w = .ok () w' ∧ Step1 P w0 ρ σ w ρ (σ.set id (.cells (paste cs off new))) w' := by
  have hob := sr.obs id p hp
  rw [hg] at hob
  obtain ⟨A, ty', hb, hs, hfit, hcs, hone⟩ := hob
  have hlen := f1.len
  have h1c := VRs.all_one f1.1 f2
  obtain ⟨q1, q2⟩ := paste_ok hcs hone f1 f2 off
  have hpl : (paste cs off new).length = cs.length := by rw [paste_def]; simp; omega
  have hcl := hcs.len
  by_cases hus : us = []
  · subst hus
    refine ⟨w, by simp [storeCells], sr.write hp (by rw [hg]; simp) rfl hb (fun _ _ => rfl) rfl rfl rfl ?_ (fun r hr => by rw [hb] at hr; cases hr)⟩
    have hnil : new = [] := List.length_eq_zero_iff.1 (by simpa using hlen.symm)
    subst hnil
    have : paste cs off [] = cs := by rw [paste_def]; simp
    rw [this]
    exact ⟨A, ty', hb, hs, hfit, hcs, hone⟩
  · have hq : q = p.base + off := hq.resolve_right hus
    subst hq
    have hst := run_storeCells_at P p.blk (p.base + off) ty' us 0 A w hb (by omega) h1c
    simp only [Nat.add_zero] at hst
    refine ⟨_, hst, ?_⟩
    have hsr := setRow_heap w p.blk A (A.toList.take (p.base + off) ++ us ++ A.toList.drop (p.base + off + us.length)).toArray ty' _ hb
    refine sr.write hp (by rw [hg]; simp) (by simp [World.setRow]) hsr (fun k hk => setRow_other w p.blk k _ hk) rfl rfl rfl ?_ (fun r hr => by rw [hb] at hr; cases hr)
    refine ⟨_, ty', hsr, by simp; omega, by rw [hpl]; omega, ?_, q2⟩
    rw [hpl]
    have key := seg_paste A.toList us p.base cs.length off (by simp; omega) (by omega)
    simp only [List.toList_toArray]
    rw [key]
    exact q1

theorem cells_get {id : Nat} {cs : List SV} (h : cellsOf σ id = some cs) : σ.get id = some (.cells cs) := by
  unfold cellsOf at h
  split at h <;> first | (cases h; assumption) | cases h

theorem OK.sl {id off len sz : Nat} {u : Value} (h : OK w0 ρ (.sl id off len sz) u) : ∃ p cap o, ρ id = some p ∧ u = .slice (some ⟨p.blk, o, none⟩) len cap ∧ (o = p.base + off ∨ cap = 0) ∧ len ≤ cap ∧ 0 < sz ∧ (0 < cap → p.base + off + cap * sz ≤ p.size) := by
  have := h.1
  simpa only [VR] using this

theorem b_copy {w : World} {ty ty' e : TypeId} {x y : Operand} (ho : o.op = .call { callee := .builtin .copy, args := #[x, y], argTypes := #[ty, ty'] }) {n : Nat} {x' y' : Opd} (hu : P.underlying ty = some (.slice e)) (hs : szT P e = some n) (h0 : 0 < n)
    (hx : compOpd x = some x') (hy : compOpd y = some y') (sr : SR P w0 ρ σ w) (k : TR w0 ρ t N a.tmps) (h : sop (.copy n x' y') t σ = some (v, σ')) :
    ∃ u w' ρ', (execOp a.eval o).run P w = .ok (.value u) w' ∧ OK w0 ρ' v u ∧ Step1 P w0 ρ σ w ρ' σ' w' := by
  simp only [sop] at h
  obtain ⟨new, hnew, h⟩ := Option.bind_eq_some_iff.1 h
  obtain ⟨m, hm, h⟩ := Option.bind_eq_some_iff.1 h
  have hsrc := row_ok sr (opd_ok hy k) hnew hm
  -- what is read
  have rd : ∀ j : Nat, j ≤ m → new.length = m * n → ∃ us : List Value, (Builtin.lenOf (a.eval y)).run P w = .ok m w ∧ (Builtin.firstCells n j (a.eval y)).run P w = .ok us.toArray w ∧ OKs w0 ρ (new.take (j * n)) us ∧ allOne (new.take (j * n)) := by
    intro j hj hl
    rcases hsrc with ⟨e1, rfl, rfl⟩ | ⟨A, c, us, e1, k1, k2, k3⟩
    · refine ⟨[], by simp [e1, Builtin.lenOf], by simp [e1, Builtin.firstCells], by simp [OKs, VRs, wfs], by simp [allOne]⟩
    · have hlu := k1.len
      have hle : j * n ≤ m * n := Nat.mul_le_mul_right _ hj
      refine ⟨us.take (j * n), by simp [e1, Builtin.lenOf], ?_, k1.take _, allOne_take k2⟩
      rw [e1]
      exact run_firstCells_some (P := P) w n j A m c _ (by simp; omega) (fun i u hi => k3 i u (by
        rw [List.getElem?_take] at hi
        split at hi
        · exact hi
        · cases hi))
  split at h
  · rename_i e1
    split at h
    · rename_i hl
      cases h
      have hX : a.eval x = .slice none 0 0 := by have := (opd_ok hx k).1; rw [e1] at this; simpa only [VR, Sc.val] using this
      obtain ⟨us, r1, r2, _⟩ := rd 0 (Nat.zero_le _) hl
      refine ⟨.int .i64 0, w, ρ, ?_, OK.mk_int, Step1.refl sr⟩
      simp [execOp, ho, resolve, invoke, Go.builtin, Builtin.copy_, run_underlying hu, run_sizeOf hs, hX, r1, r2, goInt]
    · cases h
  · rename_i id off len sz' e1
    obtain ⟨cs, hcs, h⟩ := Option.bind_eq_some_iff.1 h
    split at h
    · rename_i hc
      obtain ⟨rfl, hl, hfit⟩ := hc
      cases h
      have hX0 := opd_ok hx k
      rw [e1] at hX0
      obtain ⟨p, cap, q, hp, hX, hq, hlc, _, _⟩ := hX0.sl
      obtain ⟨us, r1, r2, r3, r4⟩ := rd (Nat.min m len) (Nat.min_le_left _ _) hl
      have hmul : Nat.min m len * sz' ≤ len * sz' := Nat.mul_le_mul_right _ (Nat.min_le_right _ _)
      have hmul2 : Nat.min m len * sz' ≤ m * sz' := Nat.mul_le_mul_right _ (Nat.min_le_left _ _)
      have hlt : (new.take (Nat.min m len * sz')).length = Nat.min m len * sz' := by simp; omega
      have hq' : q = p.base + off ∨ us = [] := by
        rcases hq with e | e
        · exact .inl e
        · have hlen0 : len = 0 := by omega
          have := r3.len
          rw [hlt] at this
          subst hlen0
          have hz : Nat.min m 0 = 0 := Nat.min_zero m
          rw [hz, Nat.zero_mul] at this
          exact .inr (List.length_eq_zero_iff.1 this)
      obtain ⟨w', hw', hst⟩ := write_cells sr hp (cells_get hcs) r3 r4 hq' (by rw [hlt]; omega)
      refine ⟨.int .i64 (Nat.min m len : Nat), w', ρ, ?_, OK.mk_int, hst⟩
      simp [execOp, ho, resolve, invoke, Go.builtin, Builtin.copy_, run_underlying hu, run_sizeOf hs, hX, r1, r2, goInt, hw']
    · cases h
  · cases h

theorem b_clear {w : World} {ty e : TypeId} {x : Operand} (ho : o.op = .call { callee := .builtin .clear, args := #[x], argTypes := #[ty] }) {n : Nat} {zs : List SV} {x' : Opd} (hu : P.underlying ty = some (.slice e)) (hs : szT P e = some n) (hz : zsT P e = some zs) (h0 : 0 < n) (hzl : zs.length = n)
    (hx : compOpd x = some x') (sr : SR P w0 ρ σ w) (k : TR w0 ρ t N a.tmps) (h : sop (.clear n zs x') t σ = some (v, σ')) :
    ∃ u w' ρ', (execOp a.eval o).run P w = .ok (.value u) w' ∧ OK w0 ρ' v u ∧ Step1 P w0 ρ σ w ρ' σ' w' := by
  have hv : OK w0 ρ (.tup []) (.tuple #[]) := ⟨by simp [VR, VRs], by simp [SV.wf, wfs]⟩
  simp only [sop] at h
  split at h
  · rename_i e1
    cases h
    have hX : a.eval x = .slice none 0 0 := by have := (opd_ok hx k).1; rw [e1] at this; simpa only [VR, Sc.val] using this
    exact ⟨.tuple #[], w, ρ, by simp [execOp, ho, resolve, invoke, Go.builtin, Builtin.clear_, run_underlying hu, hX], hv, Step1.refl sr⟩
  · rename_i id off len sz' e1
    obtain ⟨cs, hcs, h2⟩ := Option.bind_eq_some_iff.1 h
    clear h
    have h := h2
    clear h2
    split at h
    · rename_i hc
      obtain ⟨hsz, hfit⟩ := hc
      subst hsz
      simp only [Option.some.injEq, Prod.mk.injEq] at h
      obtain ⟨rfl, rfl⟩ := h
      have hX0 := opd_ok hx k
      rw [e1] at hX0
      obtain ⟨p, cap, q, hp, hX, hq, hlc, _, _⟩ := hX0.sl
      obtain ⟨i, z, hi, hiz, k1, k2⟩ := zsT_ok (w0 := w0) (ρ := ρ) hz
      by_cases hlen : len = 0
      · subst hlen
        obtain ⟨w', hw', hst⟩ := write_cells sr hp (cells_get hcs) (new := []) (us := []) (by simp [OKs, VRs, wfs]) (by simp [allOne]) (off := off) (q := q) (.inr rfl) (by simp; omega)
        have : w' = w := by simpa [storeCells] using hw'.symm
        subst this
        refine ⟨.tuple #[], w', ρ, by simp [execOp, ho, resolve, invoke, Go.builtin, Builtin.clear_, run_underlying hu, hX], hv, ?_⟩
        simpa using hst
      · have hq' : q = p.base + off := hq.resolve_right (by omega)
        have hzz := zeros_ok k1 (by omega) len
        have hl1 : (List.replicate len zs).flatten.length = len * sz' := by simp [hzl]
        have hone : allOne (List.replicate len zs).flatten := by
          intro c hm
          obtain ⟨l, hl, hm⟩ := List.mem_flatten.1 hm
          rw [(List.mem_replicate.1 hl).2] at hm
          exact k2 c hm
        obtain ⟨w', hw', hst⟩ := write_cells sr hp (cells_get hcs) hzz hone (off := off) (q := q) (.inl hq') (by rw [hl1]; omega)
        have hzsz : z.cells.size = zs.length := by have := k1.len; simpa using this
        have hw2 : (storeCells ⟨p.blk, q, none⟩ (Builtin.zeroCells z.cells len).toList).run P w = .ok () w' := by
          unfold Builtin.zeroCells
          rw [hzsz] at hw' ⊢; exact hw'
        refine ⟨.tuple #[], w', ρ, ?_, hv, hst⟩
        obtain ⟨l', hl'⟩ : ∃ l', len = l' + 1 := ⟨len - 1, by omega⟩
        subst hl'
        simp [execOp, ho, resolve, invoke, Go.builtin, Builtin.clear_, run_underlying hu, hX, zeroValue, typeInfo, hi, hiz, hw2]
    · cases h
  · cases h

theorem compOp_inv (h : compOp P o = some so) : compOp1 P o = some so ∨ compOp2 P o = some so ∨ so = .bad := by
  unfold compOp at h
  split at h
  · cases h; exact .inl (by assumption)
  · split at h
    · cases h; exact .inr (.inl (by assumption))
    · split at h
      · cases h
      · cases h; exact .inr (.inr rfl)
theorem sop_bad : sop .bad t σ = none := rfl

theorem comp2_inv (h : compOp2 P o = some so) :
    (∃ mx x y x' y' ats, o.op = .call { callee := .builtin (if mx then .max else .min), args := #[x, y], argTypes := ats } ∧ compOpd x = some x' ∧ compOpd y = some y' ∧ so = .minmax mx x' y') ∨
    (∃ ty ty' e x y x' y' n, o.op = .call { callee := .builtin .copy, args := #[x, y], argTypes := #[ty, ty'] } ∧ P.underlying ty = some (.slice e) ∧ szT P e = some n ∧ 0 < n ∧ compOpd x = some x' ∧ compOpd y = some y' ∧ so = .copy n x' y') ∨
    (∃ ty e x x' n zs, o.op = .call { callee := .builtin .clear, args := #[x], argTypes := #[ty] } ∧ P.underlying ty = some (.slice e) ∧ szT P e = some n ∧ zsT P e = some zs ∧ 0 < n ∧ zs.length = n ∧ compOpd x = some x' ∧ so = .clear n zs x') ∨
    (∃ ty x i x' i', o.op = .index ty x i ∧ P.underlying ty = some .string ∧ compOpd x = some x' ∧ compOpd i = some i' ∧ so = .idxStr x' i') := by
  unfold compOp2 at h
  split at h
  · rename_i c ho
    have arr : ∀ {α : Type} {A : Array α} {l : List α}, A.toList = l → A = l.toArray := fun h => by subst h; simp
    obtain ⟨cal, as, ats⟩ := c
    simp only at h
    split at h
    · rename_i e1 e2
      split at h
      · rename_i h1 h2
        cases h
        have := arr e2; subst this
        exact .inl ⟨false, _, _, _, _, ats, ho, h1, h2, rfl⟩
      · cases h
    · rename_i e1 e2
      split at h
      · rename_i h1 h2
        cases h
        have := arr e2; subst this
        exact .inl ⟨true, _, _, _, _, ats, ho, h1, h2, rfl⟩
      · cases h
    · rename_i e2 e3
      split at h
      · rename_i h1 h2 h3
        split at h
        · rename_i hs
          split at h
          · rename_i h0
            cases h
            have := arr e2; subst this
            have := arr e3; subst this
            exact .inr (.inl ⟨_, _, _, _, _, _, _, _, ho, h1, hs, h0, h2, h3, rfl⟩)
          · cases h
        · cases h
      · cases h
    · rename_i e2 e3
      split at h
      · rename_i h1 h2
        split at h
        · rename_i hs hz
          split at h
          · rename_i h0
            cases h
            have := arr e2; subst this
            have := arr e3; subst this
            exact .inr (.inr (.inl ⟨_, _, _, _, _, _, ho, h1, hs, hz, h0.1, h0.2, h2, rfl⟩))
          · cases h
        · cases h
      · cases h
    · cases h
  · rename_i ho
    split at h
    · rename_i h1 h2 h3
      cases h
      exact .inr (.inr (.inr ⟨_, _, _, _, _, ho, h1, h2, h3, rfl⟩))
    · cases h
  · cases h

theorem pure_sound (hc : compOp P o = some so) (hk : sopKd so = .pure) (k : TR w0 ρ t N a.tmps) (h : sop so t σ = some (v, σ')) : σ' = σ ∧ Yld P w0 ρ a o v := by
  rcases compOp_inv hc with h1 | h1 | rfl
  · exact pure_sound1 h1 hk k h
  · rcases comp2_inv h1 with ⟨_, _, _, _, _, _, ho, e1, e2, rfl⟩ | ⟨_, _, _, _, _, _, _, _, _, _, _, _, _, _, rfl⟩ | ⟨_, _, _, _, _, _, _, _, _, _, _, _, _, rfl⟩ | ⟨_, _, _, _, _, ho, e1, e2, e3, rfl⟩
    · exact y_minmax ho e1 e2 k h
    · simp [sopKd] at hk
    · simp [sopKd] at hk
    · exact y_idxStr ho e1 e2 e3 k h
  · rw [sop_bad] at h; cases h
theorem reads_sound {w : World} (hc : compOp P o = some so) (hk : sopKd so = .reads) (sr : SR P w0 ρ σ w) (k : TR w0 ρ t N a.tmps) (h : sop so t σ = some (v, σ')) : σ' = σ ∧ ∃ u, (execOp a.eval o).run P w = .ok (.value u) w ∧ OK w0 ρ v u := by
  rcases compOp_inv hc with h1 | h1 | rfl
  · exact reads_sound1 h1 hk sr k h
  · rcases comp2_inv h1 with ⟨_, _, _, _, _, _, ho, e1, e2, rfl⟩ | ⟨_, _, _, _, _, _, _, _, _, _, _, _, _, _, rfl⟩ | ⟨_, _, _, _, _, _, _, _, _, _, _, _, _, rfl⟩ | ⟨_, _, _, _, _, ho, e1, e2, e3, rfl⟩ <;> simp [sopKd] at hk
  · rw [sop_bad] at h; cases h
theorem alloc_sound (hc : compOp P o = some so) (hk : sopKd so = .alloc) (k : TR w0 ρ t N a.tmps) (h : sop so t σ = some (v, σ')) : Lays P w0 ρ σ a o v σ' := by
  rcases compOp_inv hc with h1 | h1 | rfl
  · exact alloc_sound1 h1 hk k h
  · rcases comp2_inv h1 with ⟨_, _, _, _, _, _, ho, e1, e2, rfl⟩ | ⟨_, _, _, _, _, _, _, _, _, _, _, _, _, _, rfl⟩ | ⟨_, _, _, _, _, _, _, _, _, _, _, _, _, rfl⟩ | ⟨_, _, _, _, _, ho, e1, e2, e3, rfl⟩ <;> simp [sopKd] at hk
  · rw [sop_bad] at h; cases h
theorem big_sound {w : World} (hc : compOp P o = some so) (hk : sopKd so = .big) (sr : SR P w0 ρ σ w) (k : TR w0 ρ t N a.tmps) (h : sop so t σ = some (v, σ')) :
    ∃ nx u w' ρ', (execOp a.eval o).run P w = .ok nx w' ∧ (nx = .value u ∨ (nx = .skip ∧ u = Go.undef)) ∧ OK w0 ρ' v u ∧ Step1 P w0 ρ σ w ρ' σ' w' := by
  rcases compOp_inv hc with h1 | h1 | rfl
  · exact big_sound1 h1 hk sr k h
  · rcases comp2_inv h1 with ⟨_, _, _, _, _, _, ho, e1, e2, rfl⟩ | ⟨_, _, _, _, _, _, _, _, ho, e1, e2, e3, e4, e5, rfl⟩ | ⟨_, _, _, _, _, _, ho, e1, e2, e3, e4, e5, e6, rfl⟩ | ⟨_, _, _, _, _, ho, e1, e2, e3, rfl⟩
    · simp [sopKd] at hk
    · obtain ⟨u, w', ρ', q1, q2, q3⟩ := b_copy ho e1 e2 e3 e4 e5 sr k h
      exact ⟨_, u, w', ρ', q1, .inl rfl, q2, q3⟩
    · obtain ⟨u, w', ρ', q1, q2, q3⟩ := b_clear ho e1 e2 e3 e4 e5 e6 sr k h
      exact ⟨_, u, w', ρ', q1, .inl rfl, q2, q3⟩
    · simp [sopKd] at hk
  · rw [sop_bad] at h; cases h
end
end Go.Proofs.Ytojjhcgbbmknmaa.Sh
