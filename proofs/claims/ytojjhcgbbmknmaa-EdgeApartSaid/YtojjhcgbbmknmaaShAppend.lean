/- append. -/
import Derived.Test.YtojjhcgbbmknmaaShAlloc
namespace Go.Proofs.Ytojjhcgbbmknmaa.Sh
set_option linter.unusedSimpArgs false
set_option linter.unusedVariables false
open Go Go.RowKit

section
variable {P : Program} {w0 : World} {ρ : Rho} {N : Nat} {t : Tr SV} {σ σ' : St} {a : Act} {o : Oper} {v : SV} {so : SOp}

/-- What is appended, or copied: its cells. -/
theorem row_ok {w : World} {s : SV} {y : Value} {m : Nat} {new : List SV} (sr : SR P w0 ρ σ w) (h : OK w0 ρ s y) (hr : rowSV σ s = some new) (hl : lenSV s = some m) :
    (y = .slice none 0 0 ∧ m = 0 ∧ new = []) ∨ ∃ A c us, y = .slice (some A) m c ∧ OKs w0 ρ new us ∧ allOne new ∧ ∀ j u, us[j]? = some u → w.cell? (A.add j) = some u := by
  unfold rowSV at hr
  split at hr
  · cases hr
    simp only [lenSV, Option.some.injEq] at hl
    exact .inl ⟨by simpa only [VR, Sc.val] using h.1, hl.symm, rfl⟩
  · rename_i len sz cells
    cases hr
    simp only [lenSV, Option.some.injEq] at hl
    subst hl
    obtain ⟨A, cap, vs, h1, h2, h3, h4, h5⟩ := (by simpa only [VR] using h.1 : ∃ A cap vs, y = .slice (some A) len cap ∧ len ≤ cap ∧ VRs w0 ρ new vs ∧ Lies w0 ρ A vs ∧ new.length = len * sz ∧ 0 < sz)
    have hwf := h.2
    simp only [SV.wf] at hwf
    refine .inr ⟨A, cap, vs, h1, ⟨h3, hwf.2⟩, hwf.1, fun j u hj => ?_⟩
    obtain ⟨b, off, sp⟩ := A
    obtain ⟨h67, h8⟩ := h4
    have h6 := h67 (by rintro rfl; simp at hj)
    simp only at h6; subst h6
    rw [Addr.add_lit]
    exact sr.lies (h8 j u hj)
  · rename_i id off len sz
    simp only [lenSV, Option.some.injEq] at hl
    subst hl
    obtain ⟨cs, h1, h2⟩ := Option.bind_eq_some_iff.1 hr
    obtain ⟨hle, rfl⟩ := cut_eq h2
    obtain ⟨p, cap, oo, k1, k2, k3, k4, k5, k6⟩ := (by simpa only [VR] using h.1 : ∃ p cap oo, ρ id = some p ∧ y = .slice (some ⟨p.blk, oo, none⟩) len cap ∧ (oo = p.base + off ∨ cap = 0) ∧ len ≤ cap ∧ 0 < sz ∧ (0 < cap → p.base + off + cap * sz ≤ p.size))
    have hg : σ.get id = some (.cells cs) := by
      unfold cellsOf at h1
      split at h1 <;> first | (cases h1; assumption) | cases h1
    have hob := sr.obs id p k1
    rw [hg] at hob
    obtain ⟨A, e, hb, hs, hfit, hcs, hone⟩ := hob
    refine .inr ⟨_, cap, _, k2, (hcs.drop off).take (len * sz), allOne_take (allOne_drop hone), fun j u hj => ?_⟩
    rw [Addr.add_lit, cell_of_block hb]
    simp only [List.getElem?_take, List.getElem?_drop] at hj
    split at hj
    · rename_i hlt
      split at hj
      · have hc0 : cap ≠ 0 := by
          intro e0
          have : len = 0 := by omega
          rw [this, Nat.zero_mul] at hlt; omega
        have : oo = p.base + off := by rcases k3 with k3 | k3 <;> omega
        subst this
        rw [← Array.getElem?_toList, ← hj]; congr 1; omega
      · cases hj
    · cases hj
  · cases hr

theorem run_append_zero {w : World} {ty ty' e : TypeId} (hu : P.underlying ty = some (.slice e)) {n : Nat} (hs : szT P e = some n) {p q : Option Addr} {len cap c : Nat} (h : len ≤ cap) :
    (Builtin.append_ #[ty, ty] ty' #[.slice p len cap, .slice q 0 c]).run P w = .ok (.slice p len cap) w := by
  have hl : ∀ (x : Addr), (loadCells x 0).run P w = .ok #[] w := fun x => by simpa using run_loadCells_list (P := P) w x [] (by simp)
  cases p <;> cases q <;> simp [Builtin.append_, run_underlying hu, run_sizeOf hs, Builtin.lenOf, Builtin.firstCells, h, hl, storeCells]

theorem run_append_room' {w : World} {ty ty' e : TypeId} (hu : P.underlying ty = some (.slice e)) {n : Nat} (hs : szT P e = some n) {b off len cap : Nat} {A : Array Value} {e' : TypeId} (hb : w.heap[b]? = some (.cells A e' (0, 0)))
    {q : Addr} {m c : Nat} {us : List Value} (hl : us.length = m * n) (hc : ∀ j u, us[j]? = some u → w.cell? (q.add j) = some u) (h1 : ∀ u ∈ us, u.oneCell' = true) (hroom : len + m ≤ cap) (hfit : off + len * n + us.length ≤ A.size) :
    (Builtin.append_ #[ty, ty] ty' #[.slice (some ⟨b, off, none⟩) len cap, .slice (some q) m c]).run P w =
      .ok (.slice (some ⟨b, off, none⟩) (len + m) cap) (w.setRow b (A.toList.take (off + len * n) ++ us ++ A.toList.drop (off + len * n + us.length)).toArray) := by
  have hfc := run_firstCells_some (P := P) w n m q m c us hl hc
  have hst := run_storeCells_at P b (off + len * n) e' us 0 A w hb (by simpa using hfit) h1
  simp only [Nat.add_zero] at hst
  generalize hW : w.setRow b (A.toList.take (off + len * n) ++ us ++ A.toList.drop (off + len * n + us.length)).toArray = W at hst
  simp [Builtin.append_, run_underlying hu, run_sizeOf hs, Builtin.lenOf, hroom, hfc, Addr.add_lit, hst]

/-- The row of an 'append' that the shadow takes as a new one, the old one being done with. -/
theorem Step1.moved {w w' : World} (h : SR P w0 ρ σ w) {id : Nat} {p : Pl} {cs : List SV} (hp : ρ id = some p) (hlive : σ.get id ≠ some .dead) {o : Obj} (hw : w'.heap.size = w.heap.size) (hb : w'.heap[p.blk]? = some o)
    (ho : ∀ k, k ≠ p.blk → w'.heap[k]? = w.heap[k]?) (hos : w'.os = w.os) (hta : w'.tape = w.tape) (hou : w'.output = w.output) {q : Pl} (hq : q.blk = p.blk)
    (hob : ObR P w0 (ρ.put σ.next q) q w' (some (.cells cs))) (hlo : ∀ r : Loop, w.heap[p.blk]? = some (Obj.loop r) → ∃ r' : Loop, o = Obj.loop r') : Step1 P w0 ρ σ w (ρ.put σ.next q) ((σ.set id .dead).push (.cells cs)) w' := by
  have k1 := SR.write (w' := w') h (ob := .dead) hp hlive hw hb ho hos hta hou trivial hlo
  have hn : ρ σ.next = none := by
    cases e : ρ σ.next with
    | none => rfl
    | some p => have := h.dom _ _ e; omega
  have hext : Ext ρ (ρ.put σ.next q) := Ext.put hn
  have s1 := k1.sr
  have hd := h.dom id p hp
  have dead : (σ.set id .dead).get id = some .dead := by rw [St.get_set, if_pos rfl]
  have old : ∀ i r, ρ i = some r → ((σ.set id .dead).push (.cells cs)).get i = (σ.set id .dead).get i := fun i r e => by
    have := h.dom i r e
    rw [St.get_push, if_neg (by simp; omega)]
  have new : ((σ.set id .dead).push (.cells cs)).get σ.next = some (.cells cs) := by rw [St.get_push, if_pos (by simp)]
  have onlyid : ∀ j r, ρ j = some r → r.blk = p.blk → (σ.set id .dead).get j = some .dead := fun j r e hr => by
    by_cases hj : j = id
    · rw [hj]; exact dead
    · rcases h.inj j id r p e hp hr hj with h1 | h1
      · rw [St.get_set, if_neg hj]; exact h1
      · exact absurd h1 hlive
  refine ⟨⟨s1.below, fun i r e => ?_, fun i j r s ei ej hrs hij => ?_, fun i r e => ?_, fun i hi => ?_, fun a v e => ?_⟩, hext, by simp, k1.size, fun i r e => ?_, fun i r e hi => ?_, k1.frame, fun i hi hin => ?_, k1.loops, fun _ _ h => .inl h⟩
  · simp only [Rho.put] at e
    split at e
    · rename_i hi; subst hi; cases e
      exact ⟨by simp, by rw [hq]; exact hd.2.1, by rw [hq, hw]; exact hd.2.2⟩
    · have := s1.dom i r e
      exact ⟨by simp at this ⊢; omega, this.2⟩
  · simp only [Rho.put] at ei ej
    split at ei
    · split at ej
      · rename_i h1 h2; exact absurd (h1.trans h2.symm) hij
      · cases ei
        right
        rw [old j s ej]
        exact onlyid j s ej (hrs.symm.trans hq)
    · split at ej
      · cases ej
        left
        rw [old i r ei]
        exact onlyid i r ei (hrs.trans hq)
      · rw [old i r ei, old j s ej]
        exact s1.inj i j r s ei ej hrs hij
  · simp only [Rho.put] at e
    split at e
    · rename_i hi; subst hi; cases e
      rw [new]; exact hob
    · rw [old i r e]
      exact (s1.obs i r e).mono hext
  · simp at hi
    rw [St.get_push, if_neg (by simp; omega)]
    exact s1.fresh i (by simp; omega)
  · obtain ⟨g1, g2⟩ := s1.hold a v e
    refine ⟨g1, fun i r e' => ?_⟩
    simp only [Rho.put] at e'
    split at e'
    · cases e'; rw [hq]; exact g2 _ _ hp
    · exact g2 i r e'
  · simp only [Rho.put] at e
    split at e
    · rename_i hi; subst hi; exact .inr (Nat.le_refl _)
    · exact .inl e
  · simp only [Rho.put] at e
    split at e
    · cases e; exact .inr ⟨id, p, hp, hq.symm⟩
    · rw [hi] at e; cases e
  · rw [St.get_push, if_neg (by simp; omega)]
    exact k1.keep i hi hin

theorem b_append {w : World} {ty e : TypeId} {x y : Operand} (ho : o.op = .call { callee := .builtin .append, args := #[x, y], argTypes := #[ty, ty] }) {n b : Nat} {x' y' : Opd} {zs : List SV} (hu : P.underlying ty = some (.slice e)) (hs : szT P e = some n) (hby : byT P e = some b) (hz : zsT P e = some zs)
    (h0 : 0 < n) (hzl : zs.length = n) (hx : compOpd x = some x') (hy : compOpd y = some y') (sr : SR P w0 ρ σ w) (k : TR w0 ρ t N a.tmps)
    (h : sop (.append n b zs x' y') t σ = some (v, σ')) : ∃ u w' ρ', (execOp a.eval o).run P w = .ok (.value u) w' ∧ OK w0 ρ' v u ∧ Step1 P w0 ρ σ w ρ' σ' w' := by
  simp only [sop] at h
  obtain ⟨new, hnew, h⟩ := Option.bind_eq_some_iff.1 h
  obtain ⟨m, hm, h⟩ := Option.bind_eq_some_iff.1 h
  have hX := opd_ok hx k
  have hY := opd_ok hy k
  have hrow := row_ok sr hY hnew hm
  have fin : ∀ u W, (Builtin.append_ #[ty, ty] o.type #[a.eval x, a.eval y]).run P w = .ok u W → (execOp a.eval o).run P w = .ok (.value u) W := fun u W hr => by
    simp [execOp, ho, resolve, invoke, Go.builtin, hr]
  obtain ⟨i, z, e1, e2, kz, hzone⟩ := zsT_ok (w0 := w0) (ρ := ρ) hz
  unfold byT at hby
  obtain ⟨i2, f1, f2⟩ := Option.map_eq_some_iff.1 hby
  rw [e1] at f1; cases f1
  have hsi : i.size = n := by
    unfold szT at hs
    obtain ⟨i3, g1, g2⟩ := Option.map_eq_some_iff.1 hs
    rw [e1] at g1; cases g1; exact g2
  have hzc : z.cells.size = n := by have := kz.len; simp at this; omega
  split at h
  · -- of nil
    rename_i hx0
    have hxv : a.eval x = .slice none 0 0 := by have := hX.1; rw [hx0] at this; simpa only [VR, Sc.val] using this
    split at h
    · rename_i hm0
      cases h
      subst hm0
      have hyv : ∃ q c, a.eval y = .slice q 0 c := by
        rcases hrow with ⟨h1, _, _⟩ | ⟨A, c, us, h1, _⟩
        · exact ⟨_, _, h1⟩
        · exact ⟨_, _, h1⟩
      obtain ⟨q, c, hyv⟩ := hyv
      exact ⟨_, w, ρ, fin _ _ (by rw [hxv, hyv]; exact run_append_zero hu hs (Nat.le_refl _)), OK.mk_sc (s := .nilsl), Step1.refl sr⟩
    · rename_i hm0
      split at h
      · rename_i hcond
        obtain ⟨c1, c2, c3⟩ := hcond
        cases h
        rcases hrow with ⟨_, h1, _⟩ | ⟨A, c, us, h1, h2, h3, h4⟩
        · exact absurd h1 hm0
        · have hul := h2.len
          have hr := run_append_nil (P := P) w ty o.type e i z hu e1 e2 A m c us (by rw [hsi, hul, c1]) h4 (by omega) (by omega) (by rw [f2]; omega)
          have hcap := grownCap_ge w m 0 e
          refine ⟨_, _, _, fin _ _ (by rw [hxv, h1]; exact hr), ?_, Step1.trans (Step1.drew sr) (Step1.new sr.drew (.cells new) (n := (us.toArray ++ Builtin.zeroCells z.cells (grownCap w m 0 e - m)).size) ?_)⟩
          · refine ⟨?_, trivial⟩
            simp only [VR]
            refine ⟨_, grownCap w m 0 e, 0, Rho.put_self _ _ _, rfl, .inl rfl, hcap, h0, fun _ => ?_⟩
            simp only [Array.size_append, List.size_toArray, size_zeroCells, hul, c1, hzc, Nat.zero_add]
            rw [← Nat.add_mul]
            exact Nat.mul_le_mul_right _ (by omega)
          · refine ⟨_, e, World.alloc_heap_new w.drew _, rfl, by simp [hul], ?_, h3⟩
            have : List.take new.length (List.drop 0 (us.toArray ++ Builtin.zeroCells z.cells (grownCap w m 0 e - m)).toList) = us := by
              rw [List.drop_zero, Array.toList_append, ← hul]
              simp
            rw [this]
            exact h2.mono (Ext.put (by
              cases e : ρ σ.next with
              | none => rfl
              | some p => have := sr.dom _ _ e; omega))
      · cases h
  · -- of a slice of the shadow's own
    rename_i id off len sz' hx0
    obtain ⟨cs, h1, h⟩ := Option.bind_eq_some_iff.1 h
    obtain ⟨old, h2, h⟩ := Option.bind_eq_some_iff.1 h
    split at h
    · rename_i hcond
      obtain ⟨rfl, c1, c2, c3⟩ := hcond
      cases h
      obtain ⟨hle, rfl⟩ := cut_eq h2
      rw [hx0] at hX
      obtain ⟨p, cap, oo, k1, k2, k3, k4, k5, k6⟩ := (by simpa only [VR] using hX.1 : ∃ p cap oo, ρ id = some p ∧ a.eval x = .slice (some ⟨p.blk, oo, none⟩) len cap ∧ (oo = p.base + off ∨ cap = 0) ∧ len ≤ cap ∧ 0 < sz' ∧ (0 < cap → p.base + off + cap * sz' ≤ p.size))
      have hg : σ.get id = some (.cells cs) := by
        unfold cellsOf at h1
        split at h1 <;> first | (cases h1; assumption) | cases h1
      have hlive : σ.get id ≠ some .dead := by rw [hg]; simp
      have hob := sr.obs id p k1
      rw [hg] at hob
      obtain ⟨A, e', hb, hsz, hfit, hcs, hone⟩ := hob
      have hold := (hcs.drop off).take (len * sz')
      have holdone := allOne_take (n := len * sz') (allOne_drop (n := off) hone)
      have hn : ρ σ.next = none := by
        cases e : ρ σ.next with
        | none => rfl
        | some p => have := sr.dom _ _ e; omega
      have holdl : ((cs.drop off).take (len * sz')).length = len * sz' := by simp; omega
      -- a source with cells, or none
      by_cases hm0 : m = 0
      · -- nothing is added: it stays
        subst hm0
        have hyv : ∃ q c, a.eval y = .slice q 0 c := by
          rcases hrow with ⟨h1, _, _⟩ | ⟨A, c, us, h1, _⟩
          · exact ⟨_, _, h1⟩
          · exact ⟨_, _, h1⟩
        obtain ⟨q, c, hyv⟩ := hyv
        have hnil : new = [] := by rw [Nat.zero_mul] at c1; exact List.eq_nil_of_length_eq_zero c1
        subst hnil
        refine ⟨_, w, ρ.put σ.next ⟨p.blk, p.base + off, p.size⟩, fin _ _ (by rw [k2, hyv]; exact run_append_zero hu hs k4), ?_, ?_⟩
        · refine ⟨?_, trivial⟩
          simp only [VR, Nat.add_zero]
          exact ⟨_, cap, oo, Rho.put_self _ _ _, rfl, k3, k4, k5, k6⟩
        · refine Step1.moved sr k1 hlive rfl hb (fun _ _ => rfl) rfl rfl rfl rfl ?_ (fun r hr => by rw [hb] at hr; cases hr)
          refine ⟨A, e', hb, hsz, by simp; omega, ?_, by simpa using holdone⟩
          have : List.take ((cs.drop off).take (len * sz') ++ []).length (A.toList.drop (p.base + off)) = (((A.toList.drop p.base).take cs.length).drop off).take (len * sz') := by
            rw [List.append_nil, holdl, List.drop_take, List.take_take, List.drop_drop]
            congr 1; omega
          rw [this, List.append_nil]
          exact hold.mono (Ext.put hn)
      · rcases hrow with ⟨_, g1, _⟩ | ⟨Q, c, us, g1, g2, g3, g4⟩
        · exact absurd g1 hm0
        · have hul := g2.len
          have husl : us.length = m * sz' := by omega
          by_cases hroom : len + m ≤ cap
          · have hc0 : cap ≠ 0 := by omega
            have hoo : oo = p.base + off := by rcases k3 with k3 | k3 <;> omega
            subst hoo
            have hcs6 := k6 (by omega)
            have hmul : (len + m) * sz' ≤ cap * sz' := Nat.mul_le_mul_right _ hroom
            rw [Nat.add_mul] at hmul
            have hr := run_append_room' (P := P) (w := w) (ty' := o.type) (c := c) hu hs hb husl g4 (VRs.all_one g2.1 g3) hroom (len := len) (off := p.base + off) (by rw [husl, hsz]; omega)
            have hsr := setRow_heap w p.blk A (A.toList.take (p.base + off + len * sz') ++ us ++ A.toList.drop (p.base + off + len * sz' + us.length)).toArray e' _ hb
            refine ⟨_, _, ρ.put σ.next ⟨p.blk, p.base + off, p.size⟩, fin _ _ (by rw [k2, g1]; exact hr), ?_, ?_⟩
            · refine ⟨?_, trivial⟩
              simp only [VR]
              exact ⟨_, cap, p.base + off, Rho.put_self _ _ _, rfl, .inl rfl, hroom, k5, k6⟩
            · refine Step1.moved sr k1 hlive (by simp [World.setRow]) hsr (fun k hk => setRow_other w p.blk k _ hk) rfl rfl rfl rfl ?_ (fun r hr => by rw [hb] at hr; cases hr)
              refine ⟨_, e', hsr, by simp; omega, by simp; omega, ?_, allOne_append holdone g3⟩
              have : List.take ((cs.drop off).take (len * sz') ++ new).length (List.drop (p.base + off) (A.toList.take (p.base + off + len * sz') ++ us ++ A.toList.drop (p.base + off + len * sz' + us.length)).toArray.toList) =
                  (((A.toList.drop p.base).take cs.length).drop off).take (len * sz') ++ us := by
                rw [List.length_append, holdl, ← hul, List.toList_toArray]
                rw [List.append_assoc, List.drop_append_of_le_length (by simp; omega), ← List.append_assoc]
                rw [List.take_append_of_le_length (by simp; omega)]
                rw [List.take_of_length_le (by simp; omega)]
                congr 1
                rw [List.drop_take, List.drop_take, List.take_take, List.drop_drop]
                congr 1; omega
              rw [this]
              exact (hold.append g2).mono (Ext.put hn)
          · have hg63 : ((len + m : Nat) : Int) ≤ 9223372036854775807 := by omega
            have hcells : ∀ j u, ((((A.toList.drop p.base).take cs.length).drop off).take (len * sz'))[j]? = some u → w.cell? ((⟨p.blk, oo, none⟩ : Addr).add j) = some u := by
              intro j u hj
              rw [Addr.add_lit, cell_of_block hb]
              simp only [List.getElem?_take, List.getElem?_drop] at hj
              split at hj
              · rename_i hlt
                split at hj
                · have hc0 : cap ≠ 0 := by
                    intro e0
                    have : len = 0 := by omega
                    rw [this, Nat.zero_mul] at hlt; omega
                  have : oo = p.base + off := by rcases k3 with k3 | k3 <;> omega
                  subst this
                  rw [← Array.getElem?_toList, ← hj]; congr 1; omega
                · cases hj
              · cases hj
            have hr := run_append_grow (P := P) w ty o.type e i z hu e1 e2 ⟨p.blk, oo, none⟩ len cap _ (by rw [hold.len, holdl, hsi]) hcells Q m c us (by rw [hsi, husl]) g4 (by omega) hg63 (growslice_fits (by omega) (by rw [f2]; omega))
            have hcap := grownCap_ge w (len + m) cap e
            -- the old row is done with, the new one lies in a block of its own
            have s1 := SR.write (w' := w) sr (ob := .dead) k1 hlive rfl hb (fun _ _ => rfl) rfl rfl rfl trivial (fun r hr => by rw [hb] at hr; cases hr)
            have s2 := Step1.drew s1.sr
            have hlo := hold.len
            generalize (((A.toList.drop p.base).take cs.length).drop off).take (len * sz') = olds at *
            refine ⟨_, _, _, fin _ _ (by rw [k2, g1]; exact hr), ?_, (s1.trans s2).trans (Step1.new s2.sr (.cells ((cs.drop off).take (len * sz') ++ new)) (n := (olds.toArray ++ us.toArray ++ Builtin.zeroCells z.cells (grownCap w (len + m) cap e - (len + m))).size) ?_)⟩
            · refine ⟨?_, trivial⟩
              simp only [VR]
              refine ⟨_, grownCap w (len + m) cap e, 0, Rho.put_self _ _ _, rfl, .inl rfl, hcap, h0, fun _ => ?_⟩
              simp only [Array.size_append, List.size_toArray, size_zeroCells, hlo, holdl, husl, hzc, Nat.zero_add]
              rw [← Nat.add_mul, ← Nat.add_mul]
              exact Nat.mul_le_mul_right _ (by omega)
            · refine ⟨_, e, World.alloc_heap_new w.drew _, rfl, by simp [hul]; omega, ?_, allOne_append holdone g3⟩
              have : List.take ((cs.drop off).take (len * sz') ++ new).length (List.drop 0 (olds.toArray ++ us.toArray ++ Builtin.zeroCells z.cells (grownCap w (len + m) cap e - (len + m))).toList) = olds ++ us := by
                rw [List.drop_zero, Array.toList_append, Array.toList_append, List.toList_toArray, List.toList_toArray]
                rw [List.take_append_of_le_length (by simp; omega), List.take_of_length_le (by simp; omega)]
              rw [this]
              exact (hold.append g2).mono (Ext.put hn)
    · cases h
  · cases h
end
end Go.Proofs.Ytojjhcgbbmknmaa.Sh
