/- Cells that are put together, read, written, laid. -/
import Derived.Test.YtojjhcgbbmknmaaShPure3
namespace Go.Proofs.Ytojjhcgbbmknmaa.Sh
set_option linter.unusedSimpArgs false
set_option linter.unusedVariables false
open Go Go.RowKit

section
variable {P : Program} {w0 : World} {ρ : Rho} {N : Nat} {t : Tr SV} {σ σ' : St} {a : Act} {o : Oper} {v : SV} {so : SOp}

theorem VRs.all_one : ∀ {cs : List SV} {vs : List Value}, VRs w0 ρ cs vs → allOne cs → ∀ v ∈ vs, v.oneCell' = true
  | [], _, k, _ => by simp only [VRs] at k; subst k; simp
  | c :: cs, _, k, h => by
    simp only [VRs] at k
    obtain ⟨v, r, rfl, k1, k2⟩ := k
    intro u hu
    rcases List.mem_cons.1 hu with rfl | hu
    · exact k1.one (h c (by simp))
    · exact VRs.all_one k2 (fun x hx => h x (by simp [hx])) u hu

theorem OK.flat {s : SV} {u : Value} (h : OK w0 ρ s u) (hl : s.lay = true) : OKs w0 ρ s.flat u.cells.toList ∧ allOne s.flat := by
  by_cases ha : ∃ cs, s = .agg cs
  · obtain ⟨cs, rfl⟩ := ha
    obtain ⟨A, rfl, k1, k2⟩ := h.agg rfl
    exact ⟨k1, k2⟩
  · have h1 : s.one = true := by
      cases s with
      | agg cs => exact absurd ⟨cs, rfl⟩ ha
      | tup => simp [SV.lay] at hl
      | sc s => cases s <;> simp_all [SV.lay, SV.one]
      | _ => rfl
    have hf : s.flat = [s] := by cases s <;> first | rfl | (exact absurd ⟨_, rfl⟩ ha)
    have hu : u.cells = #[u] := by
      have := h.1.one h1
      cases u <;> simp_all [Value.oneCell', Value.cells]
    rw [hf, hu]
    exact ⟨⟨VRs.cons h.1 VRs.nil, h.2, trivial⟩, by intro c hc; simp at hc; subst hc; exact h1⟩

theorem fold_set : ∀ (l : List Value) (k off : Nat) (A : Array Value), off + k + l.length ≤ A.size →
    (l.zipIdx k).foldl (fun cs p => cs.setIfInBounds (off + p.2) p.1) A = (A.toList.take (off + k) ++ l ++ A.toList.drop (off + k + l.length)).toArray
  | [], k, off, A, _ => by simp
  | v :: r, k, off, A, h => by
    simp only [List.length_cons] at h
    rw [List.zipIdx_cons, List.foldl_cons, fold_set r (k + 1) off _ (by simp; omega)]
    have e := list_seg_step A.toList (off + k) v r (by simp; omega)
    apply congrArg List.toArray
    simpa [Array.toList_setIfInBounds, Nat.add_assoc] using e

theorem paste_ok {cs : List SV} {A : Array Value} (h : OKs w0 ρ cs A.toList) (h1 : allOne cs) {new : List SV} {us : List Value} (k : OKs w0 ρ new us) (k1 : allOne new) (off : Nat) :
    OKs w0 ρ (paste cs off new) (A.toList.take off ++ us ++ A.toList.drop (off + us.length)) ∧ allOne (paste cs off new) := by
  rw [paste_def]
  rw [k.len]
  exact ⟨((h.take off).append k).append (h.drop _), allOne_append (allOne_append (allOne_take h1) k1) (allOne_drop h1)⟩

theorem fill_ok {place : Nat → Option (Nat × Nat)} (k : TR w0 ρ t N a.tmps) : ∀ (l : List (Nat × Operand)) (l' : List (Nat × Nat × Opd)) (cs cs' : List SV) (A : Array Value), compParts place l = some l' → OKs w0 ρ cs A.toList → allOne cs →
    fillParts t cs l' = some cs' → ∃ A', Instr.fill place A (l.map fun p => (p.1, a.eval p.2)) = some A' ∧ OKs w0 ρ cs' A'.toList ∧ allOne cs'
  | [], _, cs, cs', A, hc, h, h1, hf => by
    simp only [compParts, Option.some.injEq] at hc
    subst hc
    simp only [fillParts, Option.some.injEq] at hf
    subst hf
    exact ⟨A, by simp [Instr.fill], h, h1⟩
  | (i, x) :: r, _, cs, cs', A, hc, h, h1, hf => by
    simp only [compParts] at hc
    split at hc
    · rename_i off n y l e1 e2 e3
      cases hc
      simp only [fillParts] at hf
      split at hf
      · rename_i hcond
        obtain ⟨c1, c2, c3⟩ := hcond
        obtain ⟨f1, f2⟩ := (opd_ok e2 k).flat c3
        have hlen := f1.len
        have hA := h.len
        obtain ⟨p1, p2⟩ := paste_ok h h1 f1 f2 off
        have hfold : (a.eval x).cells.zipIdx.foldl (fun cs p => cs.setIfInBounds (off + p.2) p.1) A = (A.toList.take off ++ (a.eval x).cells.toList ++ A.toList.drop (off + (a.eval x).cells.toList.length)).toArray := by
          have := fold_set (a.eval x).cells.toList 0 off A (by simp at hA hlen ⊢; omega)
          rw [Nat.add_zero] at this
          rw [← this, ← Array.foldl_toList, Array.toList_zipIdx]
        obtain ⟨A', q1, q2, q3⟩ := fill_ok k r l _ cs' (A.toList.take off ++ (a.eval x).cells.toList ++ A.toList.drop (off + (a.eval x).cells.toList.length)).toArray e3 (by simpa using p1) p2 hf
        refine ⟨A', ?_, q2, q3⟩
        have hsz : (a.eval x).cells.size = n := by simp at hlen; omega
        have hle : ¬ (off + (a.eval x).cells.size > A.size) := by simp at hA; omega
        rw [List.map_cons, Instr.fill, e1]
        simp only [hsz, ne_eq, not_true_eq_false, decide_false, Bool.false_or]
        rw [if_neg (by simpa [hsz] using hle)]
        rw [← q1]
        exact congrArg (fun z => Instr.fill place z _) hfold
      · cases hf
    · cases hc

theorem zsT_ok {ty : TypeId} {zs : List SV} (h : zsT P ty = some zs) : ∃ i z, P.info? ty = some i ∧ i.zero = some z ∧ OKs w0 ρ zs z.cells.toList ∧ allOne zs := by
  unfold zsT at h
  obtain ⟨z, h1, h2⟩ := Option.bind_eq_some_iff.1 h
  obtain ⟨i, h3, h4⟩ := Option.bind_eq_some_iff.1 h1
  obtain ⟨k1, _, k3⟩ := scsOf_ok (w0 := w0) (ρ := ρ) h2
  exact ⟨i, z, h3, h4, k1, k3⟩

theorem y_build {ty : TypeId} {parts : Array (Nat × Operand)} (ho : o.op = .build ty parts) {l' : List (Nat × Nat × Opd)} {zs : List SV} (hz : zsT P ty = some zs)
    (hp : (∃ n e s, P.underlying ty = some (.array n e) ∧ szT P e = some s ∧ compParts (fun i => some (i * s, s)) parts.toList = some l') ∨
      (∃ fs places, P.underlying ty = some (.struct fs) ∧ fs.toList.mapM (fun f => (P.info? f.type).map fun i => (f.offset, i.size)) = some places ∧ compParts (fun i => places.toArray[i]?) parts.toList = some l'))
    (k : TR w0 ρ t N a.tmps) (h : sop (.build zs l') t σ = some (v, σ')) : σ' = σ ∧ Yld P w0 ρ a o v := by
  simp only [sop, Option.map_eq_some_iff, Prod.mk.injEq] at h
  obtain ⟨cs, h2, rfl, rfl⟩ := h
  refine ⟨rfl, fun w => ?_⟩
  obtain ⟨i, z, e1, e2, kz, hone⟩ := zsT_ok (w0 := w0) (ρ := ρ) hz
  have fin : ∀ A', P.built ty (parts.map fun (i, x) => (i, a.eval x)).toList = some A' → OKs w0 ρ cs A'.toList → allOne cs → ∃ u, (execOp a.eval o).run P w = .ok (.value u) w ∧ OK w0 ρ (.agg cs) u := by
    intro A' hb q2 q3
    refine ⟨.agg A', ?_, ?_, q3, q2.2⟩
    · simp [execOp, ho, run_build w ty _ A' hb]
    · simp only [VR]; exact ⟨A', rfl, q2.1⟩
  have hmap : (parts.map fun (i, x) => (i, a.eval x)).toList = parts.toList.map fun p => (p.1, a.eval p.2) := by simp
  rcases hp with ⟨n, e, s, hu, hs, hc⟩ | ⟨fs, places, hu, hm, hc⟩
  · obtain ⟨A', q1, q2, q3⟩ := fill_ok k _ _ _ _ _ hc kz hone h2
    refine fin A' ?_ q2 q3
    unfold szT at hs
    obtain ⟨ie, g1, g2⟩ := Option.map_eq_some_iff.1 hs
    subst g2
    rw [hmap]
    simp only [Program.built, e1, hu, e2, g1]
    exact q1
  · obtain ⟨A', q1, q2, q3⟩ := fill_ok k _ _ _ _ _ hc kz hone h2
    refine fin A' ?_ q2 q3
    rw [hmap]
    simp only [Program.built, e1, hu, e2, hm]
    exact q1

/-! ### Reading -/
theorem cell_of_block {w : World} {b : Nat} {A : Array Value} {e : TypeId} (h : w.heap[b]? = some (.cells A e (0, 0))) (i : Nat) : w.cell? ⟨b, i, none⟩ = A[i]? := by
  simp [World.cell?, h]

theorem run_loadVar {w : World} {ty : TypeId} {ag : Bool} {n b off : Nat} {r : List SV} {vs : List Value} (hag : agT P ty = some ag) (hsz : szT P ty = some n) (hok : OKs w0 ρ r vs) (h1 : allOne r) (hl : r.length = n)
    (hc : ∀ j u, vs[j]? = some u → w.cell? ⟨b, off + j, none⟩ = some u) (h : unflat ag r = some v) : ∃ u, (loadVar ty ⟨b, off, none⟩).run P w = .ok u w ∧ OK w0 ρ v u := by
  have hlen := hok.len
  rcases unflat_eq h with ⟨rfl, rfl⟩ | ⟨rfl, rfl⟩
  · have hr := run_loadCells_list (P := P) w ⟨b, off, none⟩ vs (fun j u hj => by rw [Addr.add_lit]; exact hc j u hj)
    refine ⟨.agg vs.toArray, ?_, ?_, h1, hok.2⟩
    · rw [hlen, hl] at hr
      simp [loadVar, run_isAgg hag, run_sizeOf hsz, hr]
    · simp only [VR]; exact ⟨_, rfl, by simpa using hok.1⟩
  · obtain ⟨u, rfl, hu⟩ := hok.1.one
    refine ⟨u, ?_, hu, hok.2.1⟩
    have := hc 0 u rfl
    simp only [Nat.add_zero] at this
    simp [loadVar, run_isAgg hag, load, Sem.run, this]

theorem load_ok {w : World} {ty : TypeId} {ag : Bool} {n : Nat} {s : SV} {x : Value} (hag : agT P ty = some ag) (hsz : szT P ty = some n) (sr : SR P w0 ρ σ w) (hx : OK w0 ρ s x) (h : loadSV σ ag n s = some v) :
    ∃ A u, x = .pointer (some A) ∧ (loadVar ty A).run P w = .ok u w ∧ OK w0 ρ v u := by
  unfold loadSV at h
  split at h
  · rename_i id off
    obtain ⟨cs, h1, h2⟩ := Option.bind_eq_some_iff.1 h
    obtain ⟨r, h3, h4⟩ := Option.bind_eq_some_iff.1 h2
    obtain ⟨hle, rfl⟩ := cut_eq h3
    obtain ⟨p, hp, rfl⟩ := (by simpa only [VR] using hx.1 : ∃ p, ρ id = some p ∧ x = .pointer (some ⟨p.blk, p.base + off, none⟩))
    have hg : σ.get id = some (.cells cs) := by
      unfold cellsOf at h1
      split at h1 <;> first | (cases h1; assumption) | cases h1
    have hob := sr.obs id p hp
    rw [hg] at hob
    obtain ⟨A, e, hb, hs, hfit, hcs, hone⟩ := hob
    have hok := (hcs.drop off).take n
    obtain ⟨u, hr, hu⟩ := run_loadVar (P := P) (w := w) (b := p.blk) (off := p.base + off) hag hsz hok (allOne_take (allOne_drop hone)) (by simp; omega) (fun j u hj => by
      rw [cell_of_block hb]
      simp only [List.getElem?_take, List.getElem?_drop] at hj
      split at hj
      · split at hj
        · rw [← Array.getElem?_toList, ← hj]; congr 1; omega
        · cases hj
      · cases hj) h4
    exact ⟨_, u, rfl, hr, hu⟩
  · rename_i cs off
    obtain ⟨r, h3, h4⟩ := Option.bind_eq_some_iff.1 h
    obtain ⟨hle, rfl⟩ := cut_eq h3
    obtain ⟨A, vs, rfl, h5, h67, h8⟩ := (by simpa only [VR, Lies] using hx.1 : ∃ (A : Addr) (vs : List Value), x = .pointer (some ⟨A.block, A.off + off, none⟩) ∧ VRs w0 ρ cs vs ∧ (vs ≠ [] → A.spot = none) ∧ ∀ i v, vs[i]? = some v → w0.cell? ⟨A.block, A.off + i, none⟩ = some v ∨ ρ.fz ⟨A.block, A.off + i, none⟩ v)
    have hwf := hx.2
    simp only [SV.wf] at hwf
    have hok : OKs w0 ρ ((cs.drop off).take n) ((vs.drop off).take n) := ⟨(h5.drop off).take n, wfs_take (wfs_drop hwf.2)⟩
    obtain ⟨u, hr, hu⟩ := run_loadVar (P := P) (w := w) (b := A.block) (off := A.off + off) hag hsz hok (allOne_take (allOne_drop hwf.1)) (by simp; omega) (fun j u hj => by
      simp only [List.getElem?_take, List.getElem?_drop] at hj
      split at hj
      · have := sr.lies (h8 _ _ hj)
        rw [← this]; congr 2; omega
      · cases hj) h4
    exact ⟨_, u, rfl, hr, hu⟩
  · cases h

theorem r_load {w : World} {ty : TypeId} {x : Operand} (ho : o.op = .load ty x) {ag : Bool} {n : Nat} {y : Opd} (hag : agT P ty = some ag) (hsz : szT P ty = some n) (hx : compOpd x = some y) (sr : SR P w0 ρ σ w) (k : TR w0 ρ t N a.tmps)
    (h : sop (.load ag n y) t σ = some (v, σ')) : σ' = σ ∧ ∃ u, (execOp a.eval o).run P w = .ok (.value u) w ∧ OK w0 ρ v u := by
  simp only [sop, Option.map_eq_some_iff, Prod.mk.injEq] at h
  obtain ⟨v', h1, rfl, rfl⟩ := h
  obtain ⟨A, u, hA, hr, hu⟩ := load_ok hag hsz sr (opd_ok hx k) h1
  exact ⟨rfl, u, by simp [execOp, ho, hA, Instr.loadAt, Instr.sureAddr, hr], hu⟩

/-! ### Writing -/
theorem seg_paste (L us : List Value) (b c off : Nat) (h : b + c ≤ L.length) (h2 : off + us.length ≤ c) :
    ((L.take (b + off) ++ us ++ L.drop (b + off + us.length)).drop b).take c = ((L.drop b).take c).take off ++ us ++ ((L.drop b).take c).drop (off + us.length) := by
  apply List.ext_getElem?
  intro j
  simp only [List.getElem?_take, List.getElem?_drop, List.getElem?_append, List.length_append, List.length_take, List.length_drop]
  rw [show min (b + off) L.length = b + off by omega, show min off (min c (L.length - b)) = off by omega]
  by_cases hj : j < c
  · rw [if_pos hj]
    by_cases h3 : j < off
    · rw [if_pos (by omega), if_pos (by omega), if_pos (by omega), if_pos (by omega), if_pos (by omega)]
      simp [h3, hj]
    · by_cases h4 : j < off + us.length
      · rw [if_pos (by omega), if_neg (by omega), if_pos (by omega), if_neg (by omega)]
        congr 1; omega
      · rw [if_neg (by omega), if_neg (by omega)]
        rw [show off + us.length + (j - (off + us.length)) = j by omega, if_pos hj]
        congr 1; omega
  · rw [if_neg hj, if_neg (by omega)]
    rw [show off + us.length + (j - (off + us.length)) = j by omega, if_neg hj]
theorem b_store {w : World} {ty : TypeId} {x y : Operand} (ho : o.op = .store ty x y) {n : Nat} {x' y' : Opd} (hsz : szT P ty = some n) (hx : compOpd x = some x') (hy : compOpd y = some y') (sr : SR P w0 ρ σ w) (k : TR w0 ρ t N a.tmps)
    (h : sop (.store n x' y') t σ = some (v, σ')) : v = .undef ∧ ∃ w', (execOp a.eval o).run P w = .ok .skip w' ∧ Step1 P w0 ρ σ w ρ σ' w' := by
  have hok := opd_ok hx k
  simp only [sop] at h
  split at h
  · rename_i id off e
    obtain ⟨cs, h1, h2⟩ := Option.bind_eq_some_iff.1 h
    split at h2
    · rename_i hcond
      obtain ⟨c1, c2, c3⟩ := hcond
      cases h2
      refine ⟨rfl, ?_⟩
      rw [e] at hok
      obtain ⟨p, hp, hX⟩ := (by simpa only [VR] using hok.1 : ∃ p, ρ id = some p ∧ a.eval x = .pointer (some ⟨p.blk, p.base + off, none⟩))
      have hg : σ.get id = some (.cells cs) := by
        unfold cellsOf at h1
        split at h1 <;> first | (cases h1; assumption) | cases h1
      have hob := sr.obs id p hp
      rw [hg] at hob
      obtain ⟨A, ty', hb, hs, hfit, hcs, hone⟩ := hob
      obtain ⟨f1, f2⟩ := (opd_ok hy k).flat c3
      have hlen := f1.len
      have h1c := VRs.all_one f1.1 f2
      have hst := run_storeCells_at P p.blk (p.base + off) ty' (a.eval y).cells.toList 0 A w hb (by omega) h1c
      simp only [Nat.add_zero] at hst
      have hcsz : (a.eval y).cells.size = n := by simp at hlen; omega
      have hrun : ∀ W, (storeCells ⟨p.blk, p.base + off, none⟩ (a.eval y).cells.toList).run P w = .ok () W → (execOp a.eval o).run P w = .ok .skip W := fun W hW => by
        simp [execOp, ho, hX, Instr.storeAt, Instr.sureAddr, storeVar, run_sizeOf hsz, hcsz, hW]
      refine ⟨_, hrun _ hst, ?_⟩
      have hsr := setRow_heap w p.blk A (A.toList.take (p.base + off) ++ (a.eval y).cells.toList ++ A.toList.drop (p.base + off + (a.eval y).cells.toList.length)).toArray ty' _ hb
      refine sr.write hp (by rw [hg]; simp) (by simp [World.setRow]) hsr (fun k hk => setRow_other w p.blk k _ hk) rfl rfl rfl ?_ (fun r hr => by rw [hb] at hr; cases hr)
      obtain ⟨q1, q2⟩ := paste_ok hcs hone f1 f2 off
      have hpl : (paste cs off (y'.ev t).flat).length = cs.length := by rw [paste_def]; simp; omega
      refine ⟨_, ty', hsr, by simp; omega, by rw [hpl]; omega, ?_, q2⟩
      rw [hpl]
      have hcl := hcs.len
      have hfl : (a.eval y).cells.toList.length = n := by omega
      have key := seg_paste A.toList (a.eval y).cells.toList p.base cs.length off (by simp; omega) (by omega)
      simp only [List.toList_toArray]
      rw [key]
      exact q1
    · cases h2
  · cases h
end
end Go.Proofs.Ytojjhcgbbmknmaa.Sh
