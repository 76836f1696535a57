/- What functions tell, without places of the shadow: callers take such a function as one operation that leaves the state as it is. -/
import Derived.Test.YtojjhcgbbmknmaaShLaw
import Derived.Test.YtojjhcgbbmknmaaShWP
namespace Go.Proofs.Ytojjhcgbbmknmaa.Sh
set_option linter.unusedSimpArgs false
set_option linter.unusedVariables false
open Go Go.RowKit

mutual
/-- No place of the shadow is in it. -/
def SV.pure : SV → Bool
  | .sc _ => true
  | .agg cs => pures cs
  | .tup cs => pures cs
  | .lst _ _ cs => pures cs
  | .iptr cs _ => pures cs
  | .fn _ a b => pures a && pures b
  | _ => false
def pures : List SV → Bool
  | [] => true
  | c :: cs => c.pure && pures cs
end
mutual
/-- It refers to nothing. -/
def SV.flat0 : SV → Bool
  | .sc _ => true
  | .agg cs => flats cs
  | .tup cs => flats cs
  | _ => false
def flats : List SV → Bool
  | [] => true
  | c :: cs => c.flat0 && flats cs
end

def mapO (f : SV → Option SV) : List SV → Option (List SV)
  | [] => some []
  | c :: cs => match f c, mapO f cs with
    | some x, some r => some (x :: r)
    | _, _ => none

/-- A value with what it refers to, as it is now. -/
def frz (σ : St) : Nat → SV → Option SV
  | 0, _ => none
  | d + 1, v => if v.pure = true then some v else match v with
    | .sl id off len sz => ((cellsOf σ id).bind fun cs => (cut cs off (len * sz)).bind (mapO (frz σ d))).map (.lst len sz)
    | .agg cs => (mapO (frz σ d) cs).map .agg
    | .tup cs => (mapO (frz σ d) cs).map .tup
    | _ => none

theorem frz_pure {σ : St} {d : Nat} {v : SV} (h : v.pure = true) : frz σ (d + 1) v = some v := by
  unfold frz; rw [if_pos h]
theorem mapO_pures {σ : St} {d : Nat} : ∀ {l : List SV}, pures l = true → mapO (frz σ (d + 1)) l = some l
  | [], _ => rfl
  | c :: cs, h => by
    simp only [pures, Bool.and_eq_true] at h
    simp only [mapO, frz_pure h.1, mapO_pures h.2]

section
variable {P : Program} {w0 : World} {ρ : Rho} {σ : St} {w : World}

mutual
/-- A value without places is what it is, wherever the shadow's blocks lie. -/
theorem pure_vr {ρ' : Rho} (hz : ∀ a v, ρ.fz a v → ρ'.fz a v) : ∀ {s : SV} {u : Value}, s.pure = true → VR w0 ρ s u → VR w0 ρ' s u
  | .sc _, _, _, k => by simpa [VR] using k
  | .agg cs, _, h, k => by
    simp only [VR] at k ⊢
    simp only [SV.pure] at h
    obtain ⟨a, e, k⟩ := k
    exact ⟨a, e, pure_vrs hz h k⟩
  | .tup cs, _, h, k => by
    simp only [VR] at k ⊢
    simp only [SV.pure] at h
    obtain ⟨a, e, k⟩ := k
    exact ⟨a, e, pure_vrs hz h k⟩
  | .sl .., _, h, _ => by simp [SV.pure] at h
  | .lst _ _ cs, _, h, k => by
    simp only [VR] at k ⊢
    simp only [SV.pure] at h
    obtain ⟨a, cap, vs, k1, k2, k3, k4, k⟩ := k
    exact ⟨a, cap, vs, k1, k2, pure_vrs hz h k3, ⟨k4.1, fun i v e => (k4.2 i v e).imp id (hz _ _)⟩, k⟩
  | .ptr .., _, h, _ => by simp [SV.pure] at h
  | .iptr cs off, _, h, k => by
    simp only [VR] at k ⊢
    simp only [SV.pure] at h
    obtain ⟨a, vs, k1, k3, k⟩ := k
    exact ⟨a, vs, k1, pure_vrs hz h k3, ⟨k.1, fun i v e => (k.2 i v e).imp id (hz _ _)⟩⟩
  | .fn _ a b, _, h, k => by
    simp only [VR] at k ⊢
    simp only [SV.pure, Bool.and_eq_true] at h
    obtain ⟨x, y, k1, k2, k3⟩ := k
    exact ⟨x, y, k1, pure_vrs hz h.1 k2, pure_vrs hz h.2 k3⟩
  | .yld _, _, h, _ => by simp [SV.pure] at h
  | .mp _, _, h, _ => by simp [SV.pure] at h
theorem pure_vrs {ρ' : Rho} (hz : ∀ a v, ρ.fz a v → ρ'.fz a v) : ∀ {s : List SV} {u : List Value}, pures s = true → VRs w0 ρ s u → VRs w0 ρ' s u
  | [], _, _, k => by simpa [VRs] using k
  | c :: cs, _, h, k => by
    simp only [VRs] at k ⊢
    simp only [pures, Bool.and_eq_true] at h
    obtain ⟨v, r, e, k1, k2⟩ := k
    exact ⟨v, r, e, pure_vr hz h.1 k1, pure_vrs hz h.2 k2⟩
end
mutual
theorem flat_vr {ρ' : Rho} : ∀ {s : SV} {u : Value}, s.flat0 = true → VR w0 ρ s u → VR w0 ρ' s u
  | .sc _, _, _, k => by simpa [VR] using k
  | .agg cs, _, h, k => by
    simp only [VR] at k ⊢
    simp only [SV.flat0] at h
    obtain ⟨a, e, k⟩ := k
    exact ⟨a, e, flat_vrs h k⟩
  | .tup cs, _, h, k => by
    simp only [VR] at k ⊢
    simp only [SV.flat0] at h
    obtain ⟨a, e, k⟩ := k
    exact ⟨a, e, flat_vrs h k⟩
  | .sl .., _, h, _ => by simp [SV.flat0] at h
  | .lst .., _, h, _ => by simp [SV.flat0] at h
  | .ptr .., _, h, _ => by simp [SV.flat0] at h
  | .iptr .., _, h, _ => by simp [SV.flat0] at h
  | .fn .., _, h, _ => by simp [SV.flat0] at h
  | .yld _, _, h, _ => by simp [SV.flat0] at h
  | .mp _, _, h, _ => by simp [SV.flat0] at h
theorem flat_vrs {ρ' : Rho} : ∀ {s : List SV} {u : List Value}, flats s = true → VRs w0 ρ s u → VRs w0 ρ' s u
  | [], _, _, k => by simpa [VRs] using k
  | c :: cs, _, h, k => by
    simp only [VRs] at k ⊢
    simp only [flats, Bool.and_eq_true] at h
    obtain ⟨v, r, e, k1, k2⟩ := k
    exact ⟨v, r, e, flat_vr h.1 k1, flat_vrs h.2 k2⟩
end

theorem mapO_all {f : SV → Option SV} (Q : SV → SV → Prop) (h : ∀ v r, f v = some r → Q v r) : ∀ {l r : List SV}, mapO f l = some r → r.length = l.length ∧ ∀ (i : Nat) (x y : SV), l[i]? = some x → r[i]? = some y → Q x y
  | [], r, e => by simp only [mapO, Option.some.injEq] at e; subst e; simp
  | c :: cs, r, e => by
    simp only [mapO] at e
    split at e
    · rename_i x r' h1 h2
      cases e
      obtain ⟨g1, g2⟩ := mapO_all Q h h2
      refine ⟨by simp [g1], fun i x' y hx hy => ?_⟩
      cases i with
      | zero => simp at hx hy; subst hx; subst hy; exact h _ _ h1
      | succ i => exact g2 i x' y (by simpa using hx) (by simpa using hy)
    · cases e

theorem pures_iff : ∀ {l : List SV}, pures l = true ↔ ∀ c ∈ l, c.pure = true
  | [] => by simp [pures]
  | c :: l => by simp [pures, pures_iff (l := l)]
theorem flats_iff : ∀ {l : List SV}, flats l = true ↔ ∀ c ∈ l, c.flat0 = true
  | [] => by simp [flats]
  | c :: l => by simp [flats, flats_iff (l := l)]

theorem mapO_pure {f : SV → Option SV} (h : ∀ v r, f v = some r → r.pure = true) {l r : List SV} (e : mapO f l = some r) : pures r = true := by
  obtain ⟨h1, h2⟩ := mapO_all (fun _ y => y.pure = true) h e
  rw [pures_iff]
  intro c hc
  obtain ⟨i, hi⟩ := List.mem_iff_getElem?.1 hc
  have hlt : i < l.length := by have := (List.getElem?_eq_some_iff.1 hi).1; omega
  exact h2 i _ _ (List.getElem?_eq_getElem hlt) hi
theorem mapO_one {f : SV → Option SV} (h : ∀ v r, f v = some r → v.one = true → r.one = true) {l r : List SV} (e : mapO f l = some r) (hl : allOne l) : allOne r := by
  obtain ⟨h1, h2⟩ := mapO_all (fun x y => x.one = true → y.one = true) h e
  intro c hc
  obtain ⟨i, hi⟩ := List.mem_iff_getElem?.1 hc
  have hlt : i < l.length := by have := (List.getElem?_eq_some_iff.1 hi).1; omega
  exact h2 i _ _ (List.getElem?_eq_getElem hlt) hi (hl _ (List.getElem_mem hlt))
theorem mapO_vrs {f : SV → Option SV} {ρ' : Rho} (h : ∀ v r u, f v = some r → OK w0 ρ v u → OK w0 ρ' r u) : ∀ {l r : List SV} {us : List Value}, mapO f l = some r → OKs w0 ρ l us → OKs w0 ρ' r us
  | [], r, us, e, k => by
    simp only [mapO, Option.some.injEq] at e; subst e
    simpa [OKs, VRs, wfs] using k
  | c :: cs, r, us, e, k => by
    simp only [mapO] at e
    split at e
    · rename_i x r' h1 h2
      cases e
      obtain ⟨k1, k2⟩ := k
      simp only [VRs] at k1
      obtain ⟨v, l, rfl, k3, k4⟩ := k1
      obtain ⟨g1, g2⟩ := h _ _ v h1 ⟨k3, k2.1⟩
      obtain ⟨g3, g4⟩ := mapO_vrs h h2 ⟨k4, k2.2⟩
      exact ⟨VRs.cons g1 g3, g2, g4⟩
    · cases e

theorem frz_isPure : ∀ {d : Nat} {v r : SV}, frz σ d v = some r → r.pure = true := by
  intro d
  induction d with
  | zero => intro v r h; simp [frz] at h
  | succ d ih =>
    intro v r h
    unfold frz at h
    split at h
    · rename_i hp; cases h; exact hp
    · split at h
      · obtain ⟨cs, h1, rfl⟩ := Option.map_eq_some_iff.1 h
        obtain ⟨c1, _, h2⟩ := Option.bind_eq_some_iff.1 h1
        obtain ⟨c2, _, h3⟩ := Option.bind_eq_some_iff.1 h2
        simp only [SV.pure]
        exact mapO_pure (fun v r e => ih e) h3
      · obtain ⟨cs, h1, rfl⟩ := Option.map_eq_some_iff.1 h
        simp only [SV.pure]
        exact mapO_pure (fun v r e => ih e) h1
      · obtain ⟨cs, h1, rfl⟩ := Option.map_eq_some_iff.1 h
        simp only [SV.pure]
        exact mapO_pure (fun v r e => ih e) h1
      · cases h
theorem frz_one : ∀ {d : Nat} {v r : SV}, frz σ d v = some r → v.one = true → r.one = true := by
  intro d v r h ho
  cases d with
  | zero => simp [frz] at h
  | succ d =>
    unfold frz at h
    split at h
    · cases h; exact ho
    · split at h
      · obtain ⟨cs, h1, rfl⟩ := Option.map_eq_some_iff.1 h; rfl
      · simp [SV.one] at ho
      · simp [SV.one] at ho
      · cases h
theorem OK.pure {ρ' : Rho} (hz : ∀ a v, ρ.fz a v → ρ'.fz a v) {s : SV} {u : Value} (h : s.pure = true) (k : OK w0 ρ s u) : OK w0 ρ' s u := ⟨pure_vr hz h k.1, k.2⟩
theorem OKs.pure {ρ' : Rho} (hz : ∀ a v, ρ.fz a v → ρ'.fz a v) {s : List SV} {u : List Value} (h : pures s = true) (k : OKs w0 ρ s u) : OKs w0 ρ' s u := ⟨pure_vrs hz h k.1, k.2⟩

/-- What is read of a value is the same value, where it lies; Z: the cells that are to stay. -/
theorem frz_ok {Z : Addr → Value → Prop} {pl : Nat → Option Pl} (sr : SR P w0 ρ σ w) (hz : ∀ a v, ρ.fz a v → Z a v) (ho : ∀ i p (a : Addr) v, ρ i = some p → p.blk = a.block → w.cell? a = some v → Z a v) :
    ∀ {d : Nat} {v r : SV} {u : Value}, frz σ d v = some r → OK w0 ρ v u → OK w0 ⟨pl, Z⟩ r u := by
  intro d
  induction d with
  | zero => intro v r u h; simp [frz] at h
  | succ d ih =>
    intro v r u h k
    unfold frz at h
    split at h
    · rename_i hp; cases h; exact k.pure hz hp
    · split at h
      · rename_i id off len sz _
        obtain ⟨cs', h1, rfl⟩ := Option.map_eq_some_iff.1 h
        obtain ⟨cs, h2, h3⟩ := Option.bind_eq_some_iff.1 h1
        obtain ⟨c2, h4, h5⟩ := Option.bind_eq_some_iff.1 h3
        obtain ⟨hle, rfl⟩ := cut_eq h4
        obtain ⟨p, cap, oo, k1, k2, k3, k4, k5, k6⟩ := (by simpa only [VR] using k.1 : ∃ p cap oo, ρ id = some p ∧ u = .slice (some ⟨p.blk, oo, none⟩) len cap ∧ (oo = p.base + off ∨ cap = 0) ∧ len ≤ cap ∧ 0 < sz ∧ (0 < cap → p.base + off + cap * sz ≤ p.size))
        have hg : σ.get id = some (.cells cs) := by
          unfold cellsOf at h2
          split at h2 <;> first | (cases h2; assumption) | cases h2
        have hob := sr.obs id p k1
        rw [hg] at hob
        obtain ⟨A, e, hb, hs, hfit, hcs, hone⟩ := hob
        have hcut := (hcs.drop off).take (len * sz)
        have hok : OKs w0 ⟨pl, Z⟩ cs' _ := mapO_vrs (ρ' := ⟨pl, Z⟩) (fun v r u h k => ih h k) h5 hcut
        have hone' : allOne cs' := mapO_one (fun v r h k => frz_one h k) h5 (allOne_take (allOne_drop hone))
        have hlen := (mapO_all (fun _ _ => True) (fun _ _ _ => trivial) h5).1
        refine ⟨?_, hone', hok.2⟩
        simp only [VR]
        refine ⟨_, cap, _, k2, k4, hok.1, ⟨fun _ => rfl, fun i v hv => .inr ?_⟩, by simp at hlen; omega, k5⟩
        simp only [List.getElem?_take, List.getElem?_drop] at hv
        split at hv
        · rename_i hlt
          split at hv
          · have hc0 : cap ≠ 0 := by
              intro e0
              have : len = 0 := by omega
              rw [this, Nat.zero_mul] at hlt; omega
            have : oo = p.base + off := by rcases k3 with k3 | k3 <;> omega
            subst this
            refine ho id p ⟨p.blk, _, none⟩ v k1 rfl ?_
            rw [cell_of_block hb, ← Array.getElem?_toList, ← hv]; congr 1; dsimp only; omega
          · cases hv
        · cases hv
      · obtain ⟨cs', h1, rfl⟩ := Option.map_eq_some_iff.1 h
        rename_i cs _
        obtain ⟨A, k1, k2⟩ := (by simpa only [VR] using k.1 : ∃ A : Array Value, u = .agg A ∧ VRs w0 ρ cs A.toList)
        have hwf := k.2
        simp only [SV.wf] at hwf
        have hok : OKs w0 ⟨pl, Z⟩ cs' _ := mapO_vrs (ρ' := ⟨pl, Z⟩) (fun v r u h k => ih h k) h1 ⟨k2, hwf.2⟩
        refine ⟨?_, mapO_one (fun v r h k => frz_one h k) h1 hwf.1, hok.2⟩
        simp only [VR]
        exact ⟨A, k1, hok.1⟩
      · obtain ⟨cs', h1, rfl⟩ := Option.map_eq_some_iff.1 h
        rename_i cs _
        obtain ⟨A, k1, k2⟩ := (by simpa only [VR] using k.1 : ∃ A : Array Value, u = .tuple A ∧ VRs w0 ρ cs A.toList)
        have hwf := k.2
        simp only [SV.wf] at hwf
        have hok : OKs w0 ⟨pl, Z⟩ cs' _ := mapO_vrs (ρ' := ⟨pl, Z⟩) (fun v r u h k => ih h k) h1 ⟨k2, hwf⟩
        refine ⟨?_, hok.2⟩
        simp only [VR]
        exact ⟨A, k1, hok.1⟩
      · cases h
theorem frzs_ok {Z : Addr → Value → Prop} {pl : Nat → Option Pl} (sr : SR P w0 ρ σ w) (hz : ∀ a v, ρ.fz a v → Z a v) (ho : ∀ i p (a : Addr) v, ρ i = some p → p.blk = a.block → w.cell? a = some v → Z a v)
    {d : Nat} {l r : List SV} {us : List Value} (h : mapO (frz σ d) l = some r) (k : OKs w0 ρ l us) : OKs w0 ⟨pl, Z⟩ r us := mapO_vrs (ρ' := ⟨pl, Z⟩) (fun _ _ _ h k => frz_ok sr hz ho h k) h k
end

/-! ### What a function tells -/
/-- What a function tells of values without places. -/
def Told (E : Env) (f : Nat) (pa : List SV) (r : SV) : Prop := ∃ n v σ', call E n f pa St.empty = some (v, σ') ∧ frz σ' 20 v = some r
theorem Told.one {E : Env} {f : Nat} {pa : List SV} {r r' : SV} (h : Told E f pa r) (k : Told E f pa r') : r = r' := by
  obtain ⟨n, v, σ, h1, h2⟩ := h
  obtain ⟨m, u, τ, k1, k2⟩ := k
  have e1 := mono_call (Nat.le_max_left n m) h1
  have e2 := mono_call (Nat.le_max_right n m) k1
  rw [e1] at e2; cases e2
  rw [h2] at k2; cases k2; rfl

open Classical in
noncomputable def tellG (E : Env) (f : Nat) (args : List SV) (σ : St) : Option (SV × St) :=
  match mapO (frz σ 20) args with
  | none => none
  | some pa => if h : ∃ r, Told E f pa r ∧ (pures args = true ∨ r.flat0 = true) then some (Classical.choose h, σ) else none

theorem tellG_eq {E : Env} {f : Nat} {args pa : List SV} {σ : St} {r : SV} (ha : mapO (frz σ 20) args = some pa) (h : Told E f pa r) (hp : pures args = true ∨ r.flat0 = true) : tellG E f args σ = some (r, σ) := by
  unfold tellG
  rw [ha]
  simp only
  have hx : ∃ r, Told E f pa r ∧ (pures args = true ∨ r.flat0 = true) := ⟨r, h, hp⟩
  rw [dif_pos hx]
  have := (Classical.choose_spec hx).1.one h
  rw [this]

theorem tellG_inv {E : Env} {f : Nat} {args : List SV} {σ σ' : St} {v : SV} (h : tellG E f args σ = some (v, σ')) : σ' = σ ∧ ∃ pa, mapO (frz σ 20) args = some pa ∧ Told E f pa v ∧ (pures args = true ∨ v.flat0 = true) := by
  unfold tellG at h
  split at h
  · cases h
  · rename_i pa ha
    split at h
    · rename_i hx
      cases h
      exact ⟨rfl, pa, ha, Classical.choose_spec hx⟩
    · cases h

section
variable {P : Program} {E : Env}

theorem tell_ok {f : Nat} (hm : P.follows .mixedOrders = true) (w0 : World) (he : EnvOK P w0 E) {args : List SV} {σ σ' : St} {v : SV} (h : tellG E f args σ = some (v, σ')) {ro : Option Nat} {m : Nat} {ρ : Rho} {w : World} {vals : Array Value}
    (sr : SR P w0 ρ σ w) (ha : OKs w0 ρ args vals.toList) : CallsIn (FR ro) m P f vals w (fun e w' => ∃ u ρ', e = .returned u ∧ OK w0 ρ' v u ∧ Step1 P w0 ρ σ w ρ' σ' w') := by
  obtain ⟨rfl, pa, h1, ⟨n, v', τ, h2, h3⟩, h4⟩ := tellG_inv h
  by_cases hp : pures args = true
  · have : pa = args := by rw [mapO_pures hp] at h1; cases h1; rfl
    subst this
    have sr0 : SR P w0 ⟨fun _ => none, ρ.fz⟩ St.empty w := ⟨sr.below, fun i p e => (by cases e), fun i j p q e => (by cases e), fun i p e => (by cases e), fun i _ => rfl, fun a v e => ⟨(sr.hold a v e).1, fun i p e => (by cases e)⟩⟩
    have hc := (call_ok he (draw_ok hm) n f pa St.empty _ τ h2).2 ro m ⟨fun _ => none, ρ.fz⟩ w vals sr0 (OKs.pure (ρ := ρ) (ρ' := ⟨fun _ => none, ρ.fz⟩) (fun _ _ h => h) hp ha)
    refine hc.mono ?_
    rintro e w' ⟨u, ρ', rfl, hok, st⟩
    refine ⟨u, ⟨ρ.pl, fun a v => ρ'.fz a v ∨ (w'.cell? a = some v ∧ ∃ i p, ρ' i = some p ∧ p.blk = a.block)⟩, rfl, frz_ok st.sr (fun _ _ h => .inl h) (fun i p a v h1 h2 h3 => .inr ⟨h3, i, p, h1, h2⟩) h3 hok, ?_⟩
    have hfr : ∀ b, b < w.heap.size → w'.heap[b]? = w.heap[b]? := fun b hb => st.frame b hb (fun i p e => by cases e)
    have hnew : ∀ i p, ρ' i = some p → w.heap.size ≤ p.blk := fun i p e => by
      rcases st.newblk i p e rfl with h | ⟨j, q, h, _⟩
      · exact h
      · cases h
    have hext : Ext ρ ⟨ρ.pl, fun a v => ρ'.fz a v ∨ (w'.cell? a = some v ∧ ∃ i p, ρ' i = some p ∧ p.blk = a.block)⟩ := ⟨fun _ _ h => h, fun a v h => .inl (st.ext.fz a v h)⟩
    refine ⟨⟨st.sr.below, fun i p e => ?_, sr.inj, fun i p e => ?_, sr.fresh, fun a v e => ?_⟩, hext, Nat.le_refl _, st.size, fun i p e => .inl e, fun i p e hi => ?_, fun b hb _ => hfr b hb, fun _ _ _ => rfl, st.loops, fun a v e => ?_⟩
    · have := sr.dom i p e
      exact ⟨this.1, this.2.1, Nat.lt_of_lt_of_le this.2.2 st.size⟩
    · exact ((sr.obs i p e).mono hext).world (hfr _ (sr.dom i p e).2.2) st.size
    · rcases e with e | ⟨e1, i, p, e2, e3⟩
      · refine ⟨(st.sr.hold a v e).1, fun i p e' => ?_⟩
        rcases st.newfz a v e with h | h
        · exact (sr.hold a v h).2 i p e'
        · have := (sr.dom i p e').2.2; omega
      · refine ⟨e1, fun j q e' => ?_⟩
        have h1 := hnew i p e2
        have h2 := (sr.dom j q e').2.2
        omega
    · rw [show ρ.pl i = some p from e] at hi; cases hi
    · rcases e with e | ⟨e1, i, p, e2, e3⟩
      · exact st.newfz a v e
      · right; rw [← e3]; exact hnew i p e2
  · have hfl : v.flat0 = true := by rcases h4 with h | h; exact absurd h hp; exact h
    have sr0 : SR P w0 ⟨fun _ => none, fun a v => w.cell? a = some v⟩ St.empty w := ⟨sr.below, fun i p e => (by cases e), fun i j p q e => (by cases e), fun i p e => (by cases e), fun i _ => rfl, fun a v e => ⟨e, fun i p e => (by cases e)⟩⟩
    have hc := (call_ok he (draw_ok hm) n f pa St.empty _ τ h2).2 ro m ⟨fun _ => none, fun a v => w.cell? a = some v⟩ w vals sr0 (frzs_ok sr (fun a v h => (sr.hold a v h).1) (fun _ _ _ _ _ _ h => h) h1 ha)
    refine hc.mono ?_
    rintro e w' ⟨u, ρ', rfl, hok, st⟩
    have hok2 : OK w0 ⟨ρ'.pl, fun a v => ρ'.fz a v ∨ w'.cell? a = some v⟩ v u := frz_ok st.sr (fun _ _ h => .inl h) (fun i p a v h1 h2 h3 => .inr h3) h3 hok
    refine ⟨u, ρ, rfl, ⟨flat_vr hfl hok2.1, hok2.2⟩, ?_⟩
    have hfr : ∀ b, b < w.heap.size → w'.heap[b]? = w.heap[b]? := fun b hb => st.frame b hb (fun i p e => by cases e)
    refine ⟨⟨st.sr.below, fun i p e => ?_, sr.inj, fun i p e => ?_, sr.fresh, fun a v e => ?_⟩, Ext.refl _, Nat.le_refl _, st.size, fun i p e => .inl e, fun i p e hi => ?_, fun b hb _ => hfr b hb, fun _ _ _ => rfl, st.loops, fun a v e => .inl e⟩
    · have := sr.dom i p e
      exact ⟨this.1, this.2.1, Nat.lt_of_lt_of_le this.2.2 st.size⟩
    · exact (sr.obs i p e).world (hfr _ (sr.dom i p e).2.2) st.size
    · obtain ⟨g1, g2⟩ := sr.hold a v e
      exact ⟨(cell?_block (hfr _ (cell?_lt g1))).trans g1, g2⟩
    · rw [hi] at e; cases e
end

/-! ### Levels: functions of a lower level are taken as told -/
noncomputable def envAt (fn : Nat → Option SFun) (lev : Nat → Option Nat) : Nat → Env
  | 0 => ⟨fn, fun _ => none⟩
  | k + 1 => ⟨fn, fun f => bif decide (lev f = some k) then some (tellG (envAt fn lev k) f) else (envAt fn lev k).ext f⟩

section
variable {fn : Nat → Option SFun} {lev : Nat → Option Nat}
theorem envAt_fn : ∀ k, (envAt fn lev k).fn = fn
  | 0 => rfl
  | _ + 1 => rfl
theorem envAt_ext {f k : Nat} (hf : lev f = some k) : ∀ {m : Nat}, k < m → (envAt fn lev m).ext f = some (tellG (envAt fn lev k) f)
  | 0, h => by omega
  | m + 1, h => by
    show (bif decide (lev f = some m) then some (tellG (envAt fn lev m) f) else (envAt fn lev m).ext f) = _
    by_cases e : k = m
    · subst e; rw [decide_eq_true hf]; rfl
    · rw [decide_eq_false (by rw [hf]; simp [e])]
      exact envAt_ext hf (by omega)
theorem envAt_none {f : Nat} : ∀ {m : Nat}, (∀ k, lev f = some k → m ≤ k) → (envAt fn lev m).ext f = none
  | 0, _ => rfl
  | m + 1, h => by
    show (bif decide (lev f = some m) then some (tellG (envAt fn lev m) f) else (envAt fn lev m).ext f) = _
    rw [decide_eq_false (fun e => by have := h m e; omega)]
    exact envAt_none (fun k e => by have := h k e; omega)

/-- A function of a lower level is called. -/
theorem WPF_told {f k m : Nat} {args pa : List SV} {σ : St} {r : SV} {Q : SV → St → Prop} (hf : lev f = some k) (hk : k < m) (ha : mapO (frz σ 20) args = some pa) (h : Told (envAt fn lev k) f pa r) (hp : (pures args || r.flat0) = true) (q : Q r σ) : WPF (envAt fn lev m) f args σ Q :=
  WPF_ext (envAt_ext hf hk) (tellG_eq ha h (by simpa using hp)) q

theorem Told_of {E : Env} {f : Nat} {pa : List SV} {r : SV} (h : WPF E f pa St.empty (fun v σ => frz σ 20 v = some r)) : Told E f pa r := h

theorem envAt_ok {P : Program} (hm : P.follows .mixedOrders = true) (hfn : ∀ f sf, fn f = some sf → ∃ F : Func, P.funcs[f]? = some F ∧ compFun P F = some sf) (hl : ∀ f k, lev f = some k → ∃ sf, fn f = some sf) : ∀ (k : Nat) (W : World), EnvOK P W (envAt fn lev k)
  | 0, W => ⟨fun f sf _ h => hfn f sf h, fun f g h => by cases h⟩
  | k + 1, W => by
    have ih := envAt_ok hm hfn hl k
    refine ⟨fun f sf _ h => hfn f sf h, fun f g h => ?_⟩
    have h : (bif decide (lev f = some k) then some (tellG (envAt fn lev k) f) else (envAt fn lev k).ext f) = some g := h
    by_cases e : lev f = some k
    · rw [decide_eq_true e] at h
      cases h
      obtain ⟨sf, h1⟩ := hl f k e
      obtain ⟨F, h2, h3⟩ := hfn f sf h1
      exact ⟨fun vals w => callFunc_ok h2 h3 vals w, fun args σ v σ' h ro m ρ w vals sr ha => tell_ok hm W (ih W) h sr ha⟩
    · rw [decide_eq_false e] at h
      exact (ih W).ext f g h

theorem Told.call {E : Env} {f : Nat} {pa : List SV} {b : Bool} (h : Told E f pa (.sc (.bool b))) : ∃ n σ', call E n f pa St.empty = some (.sc (.bool b), σ') := by
  obtain ⟨n, v, σ', h1, h2⟩ := h
  refine ⟨n, σ', ?_⟩
  unfold frz at h2
  split at h2
  · cases h2; exact h1
  · split at h2
    · obtain ⟨_, _, e⟩ := Option.map_eq_some_iff.1 h2; cases e
    · obtain ⟨_, _, e⟩ := Option.map_eq_some_iff.1 h2; cases e
    · obtain ⟨_, _, e⟩ := Option.map_eq_some_iff.1 h2; cases e
    · cases h2
end
end Go.Proofs.Ytojjhcgbbmknmaa.Sh
