/- Several texts, merged: A row turned round. And more. -/
import Derived.Test.YtojjhcgbbmknmaaXA
import Derived.Test.YtojjhcgbbmknmaaX8

/- A row turned round. -/
namespace Go.Proofs.Ytojjhcgbbmknmaa.Sh
set_option linter.unusedSimpArgs false
set_option linter.unusedVariables false
open Go Go.Proofs

/-- All but one block stay as they are. -/
def Others (σ σ' : St) (id : Nat) : Prop := σ'.next = σ.next ∧ ∀ i, i ≠ id → σ'.get i = σ.get i
theorem Others.refl (σ : St) (id : Nat) : Others σ σ id := ⟨rfl, fun _ _ => rfl⟩
theorem Others.set {σ σ' : St} {id : Nat} (h : Others σ σ' id) (o : Ob) : Others σ (σ'.set id o) id := ⟨h.1, fun i hi => by rw [get_set_ne hi]; exact h.2 i hi⟩
theorem Others.cells {σ σ' : St} {id i : Nat} (h : Others σ σ' id) (hi : i ≠ id) : cellsOf σ' i = cellsOf σ i := by unfold cellsOf; rw [h.2 i hi]

set_option maxHeartbeats 4000000 in
theorem c_reverse {m id : Nat} {L : List Int} {σ : St} (hl : L.length ≤ 2 ^ 40) (hc : cellsOf σ id = some (L.map SV.int)) :
    WPF (EV m) 65 [.sl id 0 L.length 1] σ (fun _ σ' => Others σ σ' id ∧ cellsOf σ' id = some (L.reverse.map SV.int)) := by
  refine inline_fn rfl rfl rfl rfl ?_
  have hw0 : IntKind.i64.wrap ((L.length : Int) - 1) = (L.length : Int) - 1 := i64_in _ (by omega) (by omega)
  repeat (first | (with_reducible refine Nx.go ?_) | ((with_reducible refine Ny.go ?_); (conv => arg 1; simp only [ev, sop, bounds, loI, hiI, fillParts, binSV, intBin, unSV, simprocAttr, ev2, ev4, hw0, recheck, wantedS, SV.same_self, Bool.and_self]); (first | (with_reducible refine Nz.go ?_) | refine Hold_some ?_)))
  refine WP_blockloop (fun q t σ' => ∃ (i : Nat) (L' : List Int), q = L.length - i ∧ 2 * i ≤ L.length + 1 ∧ getT t 0 = .sl id 0 L.length 1 ∧ getT t 2 = .sc (.int .i64 (i : Int)) ∧ getT t 3 = .sc (.int .i64 ((L.length : Int) - 1 - (i : Int))) ∧ Others σ σ' id ∧ cellsOf σ' id = some (L'.map SV.int) ∧ L'.length = L.length ∧
      ∀ p, p < L.length → L'[p]? = if p < i ∨ L.length ≤ p + i then L[L.length - 1 - p]? else L[p]?) (k0 := L.length)
    ⟨0, L, by simp, by omega, by simp only [ev, sop, bounds, loI, hiI, fillParts, binSV, intBin, unSV, simprocAttr, ev2, ev4], by simp only [ev, sop, bounds, loI, hiI, fillParts, binSV, intBin, unSV, simprocAttr, ev2, ev4], by simp only [ev, sop, bounds, loI, hiI, fillParts, binSV, intBin, unSV, simprocAttr, ev2, ev4]; simp, Others.refl _ _, hc, rfl, fun p hp => by rw [if_neg (by omega)]⟩ ?_
  rintro q t σ' ⟨i, L', rfl, hi, g0, g2, g3, hO, hc', hl', hI⟩
  by_cases hlt : 2 * i + 1 < L.length
  · obtain ⟨j, hj⟩ : ∃ j : Nat, j = L.length - 1 - i := ⟨_, rfl⟩
    rw [show (L.length : Int) - 1 - (i : Int) = (j : Int) by omega] at g3
    have hij : (i : Int) < (j : Int) := by omega
    have hi0 : 0 ≤ (i : Int) := by omega
    have hj0 : 0 ≤ (j : Int) := by omega
    have hil : i < L.length := by omega
    have hjl : j < L.length := by omega
    have hil' : (i : Int) < (L.length : Int) := by omega
    have hjl' : (j : Int) < (L.length : Int) := by omega
    obtain ⟨a, ha⟩ := get_of_lt hil
    obtain ⟨b, hb⟩ := get_of_lt hjl
    have ha' : L'[i]? = some a := by rw [hI i hil, if_neg (by omega)]; exact ha
    have hb' : L'[j]? = some b := by rw [hI j hjl, if_neg (by omega)]; exact hb
    have hca := cut_intsN ha'
    have hcb := cut_intsN hb'
    have hp1 := paste_ints b (show i < L'.length by omega)
    have hp2 := paste_ints a (show j < (L'.set i b).length by rw [List.length_set]; omega)
    have hf1 : i + 1 ≤ L.length := by omega
    have hf2 : j + 1 ≤ L.length := by omega
    have hw1 : IntKind.i64.wrap ((i : Int) + 1) = ((i + 1 : Nat) : Int) := by rw [i64_in _ (by omega) (by omega)]; rfl
    have hw2 : IntKind.i64.wrap ((j : Int) - 1) = (L.length : Int) - 1 - ((i + 1 : Nat) : Int) := by rw [i64_in _ (by omega) (by omega)]; omega
    repeat (first | (with_reducible refine Nx.go ?_) | ((with_reducible refine Ny.go ?_); (conv => arg 1; simp only [ev, sop, bounds, loI, hiI, fillParts, binSV, intBin, unSV, simprocAttr, ev2, ev4, g0, g2, g3, hij, hi0, hj0, hil, hjl, hil', hjl', hc', hca, hcb, hp1, hp2, List.length_map, List.length_set, hl', hf1, hf2, hw1, hw2, recheck, wantedS, SV.same_self, Bool.and_self]); (first | (with_reducible refine Nz.go ?_) | refine Hold_some ?_)))
    refine ⟨L.length - (i + 1), by omega, i + 1, (L'.set i b).set j a, rfl, by omega, by simp only [ev, sop, bounds, loI, hiI, fillParts, binSV, intBin, unSV, simprocAttr, ev2, ev4, g0], by simp only [ev, sop, bounds, loI, hiI, fillParts, binSV, intBin, unSV, simprocAttr, ev2, ev4], by simp only [ev, sop, bounds, loI, hiI, fillParts, binSV, intBin, unSV, simprocAttr, ev2, ev4], (hO.set _).set _, by simp (disch := first | omega | (simp only [nx_push, nx_set]; done) | (simp only [nx_push, nx_set]; omega)) only [cells_push_ne, cells_push_eq, cells_set_ne, cells_set_eq], by simp [hl'], fun p hp => ?_⟩
    rw [List.getElem?_set, List.getElem?_set, List.length_set, hl']
    by_cases e1 : j = p
    · subst e1
      rw [if_pos rfl, if_pos hjl, if_pos (by omega), show L.length - 1 - j = i by omega]; exact ha.symm
    · rw [if_neg e1]
      by_cases e2 : i = p
      · subst e2
        rw [if_pos rfl, if_pos hil, if_pos (by omega), show L.length - 1 - i = j by omega]; exact hb.symm
      · rw [if_neg e2, hI p hp]
        by_cases h1 : p < i ∨ L.length ≤ p + i
        · rw [if_pos h1, if_pos (by omega)]
        · rw [if_neg h1, if_neg (by omega)]
  · have hij : ¬ (i : Int) < (L.length : Int) - 1 - (i : Int) := by omega
    repeat (first | (with_reducible refine Nx.go ?_) | ((with_reducible refine Ny.go ?_); (conv => arg 1; simp only [ev, sop, bounds, loI, hiI, fillParts, binSV, intBin, unSV, simprocAttr, ev2, ev4, g0, g2, g3, hij, recheck, wantedS, SV.same_self, Bool.and_self]); (first | (with_reducible refine Nz.go ?_) | refine Hold_some ?_)))
    (refine Hold1_of ?_; (conv => arg 1; simp only [ev, sop, bounds, loI, hiI, fillParts, binSV, intBin, unSV, simprocAttr, ev2, ev4, resultsSV, resMany, resOne]); refine Hold1_some ?_)
    refine ⟨hO, ?_⟩
    rw [hc']
    have : L' = L.reverse := by
      apply List.ext_getElem?
      intro p
      by_cases hp : p < L.length
      · rw [hI p hp, List.getElem?_reverse hp]
        by_cases h1 : p < i ∨ L.length ≤ p + i
        · rw [if_pos h1]
        · rw [if_neg h1]; congr 1; omega
      · rw [List.getElem?_eq_none (by omega), List.getElem?_eq_none (by simp; omega)]
    rw [this]
theorem c_reverseNil {m : Nat} {σ : St} : WPF (EV m) 65 [.sc .nilsl] σ (fun _ σ' => σ' = σ) := by
  refine inline_fn rfl rfl rfl rfl ?_
  have hw0 : IntKind.i64.wrap (-1) = -1 := by decide
  repeat (first | (with_reducible refine Nx.go ?_) | ((with_reducible refine Ny.go ?_); (conv => arg 1; simp only [ev, sop, bounds, loI, hiI, fillParts, binSV, intBin, unSV, simprocAttr, ev2, ev4, hw0, recheck, wantedS, SV.same_self, Bool.and_self]); (first | (with_reducible refine Nz.go ?_) | refine Hold_some ?_)))
  refine WP_blockloop (fun q t σ' => q = 0 ∧ getT t 2 = .sc (.int .i64 0) ∧ getT t 3 = .sc (.int .i64 (-1)) ∧ σ' = σ) (k0 := 0) ⟨rfl, by simp only [ev, sop, bounds, loI, hiI, fillParts, binSV, intBin, unSV, simprocAttr, ev2, ev4], by simp only [ev, sop, bounds, loI, hiI, fillParts, binSV, intBin, unSV, simprocAttr, ev2, ev4], rfl⟩ ?_
  rintro q t σ' ⟨rfl, g2, g3, rfl⟩
  repeat (first | (with_reducible refine Nx.go ?_) | ((with_reducible refine Ny.go ?_); (conv => arg 1; simp only [ev, sop, bounds, loI, hiI, fillParts, binSV, intBin, unSV, simprocAttr, ev2, ev4, g2, g3, recheck, wantedS, SV.same_self, Bool.and_self]); (first | (with_reducible refine Nz.go ?_) | refine Hold_some ?_)))
  (refine Hold1_of ?_; (conv => arg 1; simp only [ev, sop, bounds, loI, hiI, fillParts, binSV, intBin, unSV, simprocAttr, ev2, ev4, resultsSV, resMany, resOne]); refine Hold1_some ?_)
  rfl
end Go.Proofs.Ytojjhcgbbmknmaa.Sh

/- Chains of tiles; a map of rows. -/
namespace Go.Proofs.Ytojjhcgbbmknmaa.Sh
set_option linter.unusedSimpArgs false
set_option linter.unusedVariables false
open Go Go.Proofs

theorem cellsOf_pushm (σ : St) (es : List (SV × SV)) (i : Nat) : cellsOf (σ.push (.map es)) i = if i = σ.next then none else cellsOf σ i := by
  by_cases h : i = σ.next
  · subst h; rw [if_pos rfl]; unfold cellsOf; rw [get_push_eq]
  · rw [if_neg h]; unfold cellsOf; rw [get_push_ne h]
/-! ### A tile, its parent, and on -/
def chainF (l : List TileD) : Nat → Nat → List Nat
  | 0, _ => []
  | fuel + 1, k => match l[k]? with
    | some t => k :: (if 0 ≤ t.parent then chainF l fuel t.parent.toNat else [])
    | none => []
def chain (l : List TileD) (k : Nat) : List Nat := chainF l (k + 1) k
theorem chainF_more {l : List TileD} (hp : parentsOk l) : ∀ (m m' k : Nat), k < m → k < m' → chainF l m k = chainF l m' k
  | 0, _, k, h, _ => by omega
  | _, 0, k, _, h => by omega
  | m + 1, m' + 1, k, h, h' => by
    rw [chainF, chainF]
    cases e : l[k]? with
    | none => rfl
    | some t =>
      have := hp k t e
      simp only
      by_cases h0 : 0 ≤ t.parent
      · rw [if_pos h0, if_pos h0, chainF_more hp m m' t.parent.toNat (by omega) (by omega)]
      · rw [if_neg h0, if_neg h0]
theorem chain_eq {l : List TileD} (hp : parentsOk l) {k : Nat} {x : TileD} (hx : l[k]? = some x) : chain l k = k :: (if 0 ≤ x.parent then chain l x.parent.toNat else []) := by
  have := hp k x hx
  unfold chain
  rw [chainF, hx]
  simp only
  by_cases h0 : 0 ≤ x.parent
  · rw [if_pos h0, if_pos h0, chainF_more hp k (x.parent.toNat + 1) _ (by omega) (by omega)]
  · rw [if_neg h0, if_neg h0]
theorem chain_len (l : List TileD) (k : Nat) : (chain l k).length ≤ k + 1 := by
  have h : ∀ m k, (chainF l m k).length ≤ m := by
    intro m
    induction m with
    | zero => intro k; simp [chainF]
    | succ m ih =>
      intro k
      rw [chainF]
      split
      · split
        · simp; exact ih _
        · simp
      · simp
  exact h _ _
def chainI (l : List TileD) (k : Int) : List Int := if 0 ≤ k then (chain l k.toNat).map fun j : Nat => (j : Int) else []
theorem chainI_eq {l : List TileD} (hp : parentsOk l) {k : Nat} {x : TileD} (hx : l[k]? = some x) : chainI l (k : Int) = (k : Int) :: chainI l x.parent := by
  unfold chainI
  rw [if_pos (by omega), show ((k : Int)).toNat = k by omega, chain_eq hp hx, List.map_cons]
  by_cases h0 : 0 ≤ x.parent
  · rw [if_pos h0, if_pos h0]
  · rw [if_neg h0, if_neg h0]; rfl
theorem chainI_len (l : List TileD) (k : Int) : (chainI l k).length ≤ k.toNat + 1 := by
  unfold chainI
  split
  · rw [List.length_map]; exact chain_len l _
  · simp

/-! ### A map whose keys are 0, 1 .. -/
def keyed (o : Nat) : List (SV × SV) → Prop
  | [] => True
  | e :: r => e.1 = .sc (.int .i64 (o : Int)) ∧ keyed (o + 1) r
theorem keyed_all {o : Nat} : ∀ {es : List (SV × SV)}, keyed o es → allKeys .i64 es = true
  | [], _ => rfl
  | e :: r, h => by
    have h2 := keyed_all h.2
    unfold allKeys at h2 ⊢
    rw [List.all_cons, h.1, h2]
    rfl
theorem keyed_find {b : Nat} : ∀ {es : List (SV × SV)} {o : Nat}, keyed o es → o ≤ b → findKey (.sc (.int .i64 (b : Int))) es = (es[b - o]?).map Prod.snd
  | [], o, _, _ => by simp [findKey]
  | (k, v) :: r, o, h, hb => by
    obtain ⟨h1, h2⟩ := h
    simp only at h1
    subst h1
    show (if (b : Int) = (o : Int) then some v else findKey (.sc (.int .i64 (b : Int))) r) = _
    by_cases e : b = o
    · subst e; simp
    · rw [if_neg (by omega), keyed_find h2 (by omega), show b - o = (b - (o + 1)) + 1 by omega, List.getElem?_cons_succ]
theorem keyed_set {b : Nat} (v : SV) : ∀ {es : List (SV × SV)} {o : Nat}, keyed o es → o ≤ b → b < o + es.length → setKey (.sc (.int .i64 (b : Int))) v es = es.set (b - o) (.sc (.int .i64 (b : Int)), v)
  | [], o, _, h1, h2 => by simp at h2; omega
  | (k, u) :: r, o, h, hb, hl => by
    obtain ⟨h1, h2⟩ := h
    simp only at h1
    subst h1
    show (if (b : Int) = (o : Int) then _ else _) = _
    by_cases e : b = o
    · subst e; simp
    · simp only [List.length_cons] at hl
      rw [if_neg (by omega), keyed_set v h2 (by omega) (by omega), show b - o = (b - (o + 1)) + 1 by omega, List.set_cons_succ]
theorem keyed_end {b : Nat} (v : SV) : ∀ {es : List (SV × SV)} {o : Nat}, keyed o es → b = o + es.length → setKey (.sc (.int .i64 (b : Int))) v es = es ++ [(.sc (.int .i64 (b : Int)), v)]
  | [], o, _, _ => rfl
  | (k, u) :: r, o, h, hl => by
    obtain ⟨h1, h2⟩ := h
    simp only at h1
    subst h1
    simp only [List.length_cons] at hl
    show (if (b : Int) = (o : Int) then _ else _) = _
    rw [if_neg (by omega), keyed_end v h2 (by omega)]
    rfl
theorem keyed_append {b : Nat} {v : SV} : ∀ {es : List (SV × SV)} {o : Nat}, keyed o es → b = o + es.length → keyed o (es ++ [(.sc (.int .i64 (b : Int)), v)])
  | [], o, _, h => by simp at h; subst h; exact ⟨rfl, trivial⟩
  | e :: r, o, h, hl => ⟨h.1, keyed_append h.2 (by simp at hl; omega)⟩
theorem keyed_put {b : Nat} {v : SV} : ∀ {es : List (SV × SV)} {o : Nat}, keyed o es → o ≤ b → keyed o (es.set (b - o) (.sc (.int .i64 (b : Int)), v))
  | [], o, _, _ => trivial
  | e :: r, o, h, hb => by
    by_cases e' : b = o
    · subst e'; rw [Nat.sub_self]; exact ⟨rfl, h.2⟩
    · rw [show b - o = (b - (o + 1)) + 1 by omega, List.set_cons_succ]
      exact ⟨h.1, keyed_put h.2 (by omega)⟩
/-- Entries that hold rows of numbers, each in a block of its own. -/
structure RowsM (σ : St) (lo : Nat) (es : List (SV × SV)) (Ls : List (List Int)) : Prop where
  key : keyed 0 es
  len : es.length = Ls.length
  at_ : ∀ (b : Nat) (L : List Int), Ls[b]? = some L → ∃ id, (es[b]?).map Prod.snd = some (.sl id 0 L.length 1) ∧ lo ≤ id ∧ id < σ.next ∧ cellsOf σ id = some (L.map SV.int)
  inj : ∀ (b b' id n n' : Nat), (es[b]?).map Prod.snd = some (.sl id 0 n 1) → (es[b']?).map Prod.snd = some (.sl id 0 n' 1) → b = b'
theorem RowsM.start (σ : St) (lo : Nat) : RowsM σ lo [] [] := ⟨trivial, rfl, fun b L h => by simp at h, fun b b' id n n' h => by simp at h⟩
theorem RowsM.same {σ σ' : St} {lo : Nat} {es : List (SV × SV)} {Ls : List (List Int)} (h : RowsM σ lo es Ls) (hn : σ.next ≤ σ'.next) (hc : ∀ i, lo ≤ i → i < σ.next → cellsOf σ' i = cellsOf σ i) : RowsM σ' lo es Ls := by
  refine ⟨h.key, h.len, fun b L hb => ?_, h.inj⟩
  obtain ⟨id, h1, h2, h3, h4⟩ := h.at_ b L hb
  exact ⟨id, h1, h2, by omega, by rw [hc id h2 h3]; exact h4⟩
theorem RowsM.old {σ : St} {lo : Nat} {es : List (SV × SV)} {Ls : List (List Int)} (h : RowsM σ lo es Ls) {b id n : Nat} (hb : (es[b]?).map Prod.snd = some (.sl id 0 n 1)) : id < σ.next := by
  have hl : b < es.length := by
    cases e : es[b]? with
    | none => rw [e] at hb; cases hb
    | some x => exact (List.getElem?_eq_some_iff.1 e).1
  obtain ⟨L, hL⟩ := get_of_lt (show b < Ls.length by rw [← h.len]; exact hl)
  obtain ⟨id', h1, _, h3, _⟩ := h.at_ b L hL
  rw [hb] at h1
  cases h1; exact h3
/-- A row is put at the end. -/
theorem RowsM.add {σ σ' : St} {lo : Nat} {es : List (SV × SV)} {Ls : List (List Int)} (h : RowsM σ lo es Ls) {id : Nat} {L : List Int} (hn : σ.next ≤ id) (hlo : lo ≤ id) (hn' : id < σ'.next) (hl : cellsOf σ' id = some (L.map SV.int)) (hc : ∀ i, lo ≤ i → i < σ.next → cellsOf σ' i = cellsOf σ i) :
    RowsM σ' lo (es ++ [(.sc (.int .i64 (Ls.length : Nat)), .sl id 0 L.length 1)]) (Ls ++ [L]) := by
  have hlen := h.len
  refine ⟨keyed_append h.key (by rw [hlen, Nat.zero_add]), by simp [hlen], fun b M hb => ?_, fun b b' i n n' h1 h2 => ?_⟩
  · by_cases e : b < Ls.length
    · rw [List.getElem?_append_left e] at hb
      rw [List.getElem?_append_left (by rw [hlen]; exact e)]
      obtain ⟨i, g1, g2, g3, g4⟩ := h.at_ b M hb
      exact ⟨i, g1, g2, by omega, by rw [hc i g2 g3]; exact g4⟩
    · have hb2 := (List.getElem?_eq_some_iff.1 hb).1
      simp at hb2
      have : b = Ls.length := by omega
      subst this
      rw [List.getElem?_append_right (Nat.le_refl _), Nat.sub_self] at hb
      cases hb
      rw [List.getElem?_append_right (by omega), hlen, Nat.sub_self]
      exact ⟨id, rfl, hlo, hn', hl⟩
  · have key : ∀ c m, ((es ++ [(SV.sc (.int .i64 (Ls.length : Nat)), SV.sl id 0 L.length 1)])[c]?).map Prod.snd = some (.sl i 0 m 1) → (c < es.length ∧ (es[c]?).map Prod.snd = some (.sl i 0 m 1)) ∨ (c = es.length ∧ i = id) := by
      intro c m hc'
      by_cases e : c < es.length
      · rw [List.getElem?_append_left e] at hc'; exact .inl ⟨e, hc'⟩
      · rw [List.getElem?_append_right (by omega)] at hc'
        by_cases e2 : c - es.length = 0
        · rw [e2] at hc'
          simp at hc'
          exact .inr ⟨by omega, hc'.1.symm⟩
        · rw [List.getElem?_eq_none (by simp; omega)] at hc'; cases hc'
    rcases key b n h1 with ⟨e1, g1⟩ | ⟨e1, g1⟩ <;> rcases key b' n' h2 with ⟨e2, g2⟩ | ⟨e2, g2⟩
    · exact h.inj _ _ _ _ _ g1 g2
    · have := h.old g1; omega
    · have := h.old g2; omega
    · omega
/-- A row is put in place of another one. -/
theorem RowsM.put {σ σ' : St} {lo : Nat} {es : List (SV × SV)} {Ls : List (List Int)} (h : RowsM σ lo es Ls) {id b : Nat} {L : List Int} (hb : b < Ls.length) (hn : σ.next ≤ id) (hlo : lo ≤ id) (hn' : id < σ'.next) (hl : cellsOf σ' id = some (L.map SV.int))
    (hc : ∀ i, lo ≤ i → i < σ.next → (∀ n, (es[b]?).map Prod.snd ≠ some (.sl i 0 n 1)) → cellsOf σ' i = cellsOf σ i) :
    RowsM σ' lo (es.set b (.sc (.int .i64 (b : Nat)), .sl id 0 L.length 1)) (Ls.set b L) := by
  have hlen := h.len
  have hb' : b < es.length := by rw [hlen]; exact hb
  refine ⟨keyed_put h.key (Nat.zero_le _), by simp [hlen], fun c M hcM => ?_, fun c c' i n n' h1 h2 => ?_⟩
  · rw [List.getElem?_set] at hcM ⊢
    by_cases e : b = c
    · subst e
      rw [if_pos rfl, if_pos hb] at hcM
      cases hcM
      rw [if_pos rfl, if_pos hb']
      exact ⟨id, rfl, hlo, hn', hl⟩
    · rw [if_neg e] at hcM ⊢
      obtain ⟨i, g1, g2, g3, g4⟩ := h.at_ c M hcM
      exact ⟨i, g1, g2, by omega, by rw [hc i g2 g3 (fun n hn => e (h.inj _ _ _ _ _ hn g1))]; exact g4⟩
  · have key : ∀ d m, ((es.set b (SV.sc (.int .i64 (b : Nat)), SV.sl id 0 L.length 1))[d]?).map Prod.snd = some (.sl i 0 m 1) → (d ≠ b ∧ (es[d]?).map Prod.snd = some (.sl i 0 m 1)) ∨ (d = b ∧ i = id) := by
      intro d m hd
      rw [List.getElem?_set] at hd
      by_cases e : b = d
      · subst e
        rw [if_pos rfl, if_pos hb'] at hd
        simp at hd
        exact .inr ⟨rfl, hd.1.symm⟩
      · rw [if_neg e] at hd; exact .inl ⟨fun e' => e e'.symm, hd⟩
    rcases key c n h1 with ⟨e1, g1⟩ | ⟨e1, g1⟩ <;> rcases key c' n' h2 with ⟨e2, g2⟩ | ⟨e2, g2⟩
    · exact h.inj _ _ _ _ _ g1 g2
    · have := h.old g1; omega
    · have := h.old g2; omega
    · omega
end Go.Proofs.Ytojjhcgbbmknmaa.Sh

/- A function's tiles: whose own each block is, which tiles it lies in. -/
namespace Go.Proofs.Ytojjhcgbbmknmaa.Sh
set_option linter.unusedSimpArgs false
set_option linter.unusedVariables false
open Go Go.Proofs

def chainsTo (l : List TileD) (out : List Int) (b : Nat) : List (List Int) := (out.take b).map (chainI l)
def aroundV (o : Option (List TileD)) (out : List Int) (M : Nat) : SV := .agg [tilesV o, intsV (some out), .mp M]
/-- What edge.over lays: the tiles, whose own, a map of chains. -/
def Around (σ : St) (lo M : Nat) (o : Option (List TileD)) (out : List Int) : Prop := ∃ es, σ.get M = some (.map es) ∧ RowsM σ lo es (out.map (chainI (ol o)))

set_option maxHeartbeats 8000000 in
theorem c_over {m : Nat} (hm : 10 < m) (f : FuncD) (o : Option (List TileD)) (hl : f.bl.length ≤ 2 ^ 47) (ht : tilesWithin (2 ^ 30) (ol o)) (htot : (blocksOf (ol o)).length ≤ 2 ^ 34) {σ : St} :
    WPF (EV m) 63 [f.sv, tilesV o] σ (fun v σ' => Keeps σ σ' ∧
      ((¬ f.fits ∧ v = .tup [.agg [.sc .nilsl, .sc .nilsl, .sc .nilmap], .sc (.int .i64 2)]) ∨ (f.fits ∧ ¬ RightP f (ol o) ∧ v = .tup [.agg [.sc .nilsl, .sc .nilsl, .sc .nilmap], .sc (.int .i64 12)]) ∨
        (RightP f (ol o) ∧ ∃ out M, v = .tup [aroundV o out M, .sc (.int .i64 0)] ∧ σ.next ≤ M ∧ M < σ'.next ∧ OwnIs f.bl.length (ol o) (some out) ∧ Around σ' (M + 1) M o out))) := by
  refine inline_fn rfl rfl rfl rfl ?_
  rw [show f.sv = .agg [intsV f.params, blksV f.blocks] from rfl] at *
  have hfit := t_Fits f hl
  have ht47 : tilesWithin (2 ^ 47) (ol o) := ⟨by have := ht.1; omega, fun t h => by have := ht.2 t h; omega⟩
  obtain ⟨r, hR1, hR2⟩ := t_Right f o hl ht htot
  obtain ⟨ro, e, hO1, hO2, _⟩ := t_Own f o hl ht47
  rw [show f.sv = .agg [intsV f.params, blksV f.blocks] from rfl] at *
  have k2 : ∀ cs ds, Keeps σ ((σ.push cs).push ds) := fun cs ds => ((Keeps.refl σ).push _).push _
  by_cases hf : f.fits
  rotate_left
  · have hB := FuncD.fitsB_no hf
    repeat (first | (with_reducible refine Nx.go ?_) | ((with_reducible refine Ny.go ?_); (conv => arg 1; simp only [ev, sop, bounds, loI, hiI, fillParts, binSV, intBin, unSV, simprocAttr, ev2, ev4, cellsOf_pushm, recheck, wantedS, SV.same_self, Bool.and_self]); (first | (with_reducible refine Nz.go ?_) | refine Hold_some ?_)))
    refine st_tellp (hfit) ⟨_, rfl, by first | omega | decide⟩ wantedS_none (by simp only [ev, sop, bounds, loI, hiI, fillParts, binSV, intBin, unSV, simprocAttr, ev2, ev4, cellsOf_pushm] <;> rfl) (by first | rfl | simp [pures, SV.pure, *, pure_func, pure_ints, pure_blks, pure_insV, pure_rows, pure_tiles, pure_set, pures_set, pures_tiles]) (by first | with_reducible exact recheck_nil | (simp only [recheck, wantedS]; simp only [ev, sop, bounds, loI, hiI, fillParts, binSV, intBin, unSV, simprocAttr, ev2, ev4, cellsOf_pushm]; simp only [SV.same_self, Bool.and_self, beq_self_eq_true])) ?_
    repeat (first | (with_reducible refine Nx.go ?_) | ((with_reducible refine Ny.go ?_); (conv => arg 1; simp only [ev, sop, bounds, loI, hiI, fillParts, binSV, intBin, unSV, simprocAttr, ev2, ev4, cellsOf_pushm, hB, recheck, wantedS, SV.same_self, Bool.and_self]); (first | (with_reducible refine Nz.go ?_) | refine Hold_some ?_)))
    (refine Hold1_of ?_; (conv => arg 1; simp only [ev, sop, bounds, loI, hiI, fillParts, binSV, intBin, unSV, simprocAttr, ev2, ev4, cellsOf_pushm, resultsSV, resMany, resOne]); refine Hold1_some ?_)
    exact ⟨(k2 _ _).set _ (by omega), .inl ⟨hf, rfl⟩⟩
  have hB := FuncD.fitsB_iff.2 hf
  cases r with
  | false =>
    have hnR : ¬ RightP f (ol o) := fun h => by have := hR2.2 h; cases this
    repeat (first | (with_reducible refine Nx.go ?_) | ((with_reducible refine Ny.go ?_); (conv => arg 1; simp only [ev, sop, bounds, loI, hiI, fillParts, binSV, intBin, unSV, simprocAttr, ev2, ev4, cellsOf_pushm, recheck, wantedS, SV.same_self, Bool.and_self]); (first | (with_reducible refine Nz.go ?_) | refine Hold_some ?_)))
    refine st_tellp (hfit) ⟨_, rfl, by first | omega | decide⟩ wantedS_none (by simp only [ev, sop, bounds, loI, hiI, fillParts, binSV, intBin, unSV, simprocAttr, ev2, ev4, cellsOf_pushm] <;> rfl) (by first | rfl | simp [pures, SV.pure, *, pure_func, pure_ints, pure_blks, pure_insV, pure_rows, pure_tiles, pure_set, pures_set, pures_tiles]) (by first | with_reducible exact recheck_nil | (simp only [recheck, wantedS]; simp only [ev, sop, bounds, loI, hiI, fillParts, binSV, intBin, unSV, simprocAttr, ev2, ev4, cellsOf_pushm]; simp only [SV.same_self, Bool.and_self, beq_self_eq_true])) ?_
    repeat (first | (with_reducible refine Nx.go ?_) | ((with_reducible refine Ny.go ?_); (conv => arg 1; simp only [ev, sop, bounds, loI, hiI, fillParts, binSV, intBin, unSV, simprocAttr, ev2, ev4, cellsOf_pushm, hB, recheck, wantedS, SV.same_self, Bool.and_self]); (first | (with_reducible refine Nz.go ?_) | refine Hold_some ?_)))
    refine st_tellp (hR1) ⟨_, rfl, by first | omega | decide⟩ wantedS_none (by simp only [ev, sop, bounds, loI, hiI, fillParts, binSV, intBin, unSV, simprocAttr, ev2, ev4, cellsOf_pushm] <;> rfl) (by first | rfl | simp [pures, SV.pure, *, pure_func, pure_ints, pure_blks, pure_insV, pure_rows, pure_tiles, pure_set, pures_set, pures_tiles]) (by first | with_reducible exact recheck_nil | (simp only [recheck, wantedS]; simp only [ev, sop, bounds, loI, hiI, fillParts, binSV, intBin, unSV, simprocAttr, ev2, ev4, cellsOf_pushm]; simp only [SV.same_self, Bool.and_self, beq_self_eq_true])) ?_
    repeat (first | (with_reducible refine Nx.go ?_) | ((with_reducible refine Ny.go ?_); (conv => arg 1; simp only [ev, sop, bounds, loI, hiI, fillParts, binSV, intBin, unSV, simprocAttr, ev2, ev4, cellsOf_pushm, recheck, wantedS, SV.same_self, Bool.and_self]); (first | (with_reducible refine Nz.go ?_) | refine Hold_some ?_)))
    (refine Hold1_of ?_; (conv => arg 1; simp only [ev, sop, bounds, loI, hiI, fillParts, binSV, intBin, unSV, simprocAttr, ev2, ev4, cellsOf_pushm, resultsSV, resMany, resOne]); refine Hold1_some ?_)
    exact ⟨(k2 _ _).set _ (by omega), .inr (.inl ⟨hf, hnR, rfl⟩)⟩
  | true =>
  have hR := hR2.1 rfl
  obtain ⟨hO3, hO4⟩ := hO2 hf
  cases ro with
  | none => exact absurd hR.parts (hO3.no rfl)
  | some out =>
  obtain ⟨_, hol, hoat⟩ := hO3.yes out rfl
  have he : e = 0 := by rw [hO4]; rfl
  subst he
  have hio : intsV (some out) = .lst out.length 1 (out.map SV.int) := rfl
  repeat (first | (with_reducible refine Nx.go ?_) | ((with_reducible refine Ny.go ?_); (conv => arg 1; simp only [ev, sop, bounds, loI, hiI, fillParts, binSV, intBin, unSV, simprocAttr, ev2, ev4, cellsOf_pushm, recheck, wantedS, SV.same_self, Bool.and_self]); (first | (with_reducible refine Nz.go ?_) | refine Hold_some ?_)))
  refine st_tellp (hfit) ⟨_, rfl, by first | omega | decide⟩ wantedS_none (by simp only [ev, sop, bounds, loI, hiI, fillParts, binSV, intBin, unSV, simprocAttr, ev2, ev4, cellsOf_pushm] <;> rfl) (by first | rfl | simp [pures, SV.pure, *, pure_func, pure_ints, pure_blks, pure_insV, pure_rows, pure_tiles, pure_set, pures_set, pures_tiles]) (by first | with_reducible exact recheck_nil | (simp only [recheck, wantedS]; simp only [ev, sop, bounds, loI, hiI, fillParts, binSV, intBin, unSV, simprocAttr, ev2, ev4, cellsOf_pushm]; simp only [SV.same_self, Bool.and_self, beq_self_eq_true])) ?_
  repeat (first | (with_reducible refine Nx.go ?_) | ((with_reducible refine Ny.go ?_); (conv => arg 1; simp only [ev, sop, bounds, loI, hiI, fillParts, binSV, intBin, unSV, simprocAttr, ev2, ev4, cellsOf_pushm, hB, recheck, wantedS, SV.same_self, Bool.and_self]); (first | (with_reducible refine Nz.go ?_) | refine Hold_some ?_)))
  refine st_tellp (hR1) ⟨_, rfl, by first | omega | decide⟩ wantedS_none (by simp only [ev, sop, bounds, loI, hiI, fillParts, binSV, intBin, unSV, simprocAttr, ev2, ev4, cellsOf_pushm] <;> rfl) (by first | rfl | simp [pures, SV.pure, *, pure_func, pure_ints, pure_blks, pure_insV, pure_rows, pure_tiles, pure_set, pures_set, pures_tiles]) (by first | with_reducible exact recheck_nil | (simp only [recheck, wantedS]; simp only [ev, sop, bounds, loI, hiI, fillParts, binSV, intBin, unSV, simprocAttr, ev2, ev4, cellsOf_pushm]; simp only [SV.same_self, Bool.and_self, beq_self_eq_true])) ?_
  repeat (first | (with_reducible refine Nx.go ?_) | ((with_reducible refine Ny.go ?_); (conv => arg 1; simp only [ev, sop, bounds, loI, hiI, fillParts, binSV, intBin, unSV, simprocAttr, ev2, ev4, cellsOf_pushm, recheck, wantedS, SV.same_self, Bool.and_self]); (first | (with_reducible refine Nz.go ?_) | refine Hold_some ?_)))
  refine st_tellp (hO1) ⟨_, rfl, by first | omega | decide⟩ wantedS_none (by simp only [ev, sop, bounds, loI, hiI, fillParts, binSV, intBin, unSV, simprocAttr, ev2, ev4, cellsOf_pushm] <;> rfl) (by first | rfl | simp [pures, SV.pure, *, pure_func, pure_ints, pure_blks, pure_insV, pure_rows, pure_tiles, pure_set, pures_set, pures_tiles]) (by first | with_reducible exact recheck_nil | (simp only [recheck, wantedS]; simp only [ev, sop, bounds, loI, hiI, fillParts, binSV, intBin, unSV, simprocAttr, ev2, ev4, cellsOf_pushm]; simp only [SV.same_self, Bool.and_self, beq_self_eq_true])) ?_
  repeat (first | (with_reducible refine Nx.go ?_) | ((with_reducible refine Ny.go ?_); (conv => arg 1; simp only [ev, sop, bounds, loI, hiI, fillParts, binSV, intBin, unSV, simprocAttr, ev2, ev4, cellsOf_pushm, recheck, wantedS, SV.same_self, Bool.and_self]); (first | (with_reducible refine Nz.go ?_) | refine Hold_some ?_)))
  repeat (first | (with_reducible refine Nx.go ?_) | ((with_reducible refine Ny.go ?_); (conv => arg 1; simp only [ev, sop, bounds, loI, hiI, fillParts, binSV, intBin, unSV, simprocAttr, ev2, ev4, cellsOf_pushm, hio, recheck, wantedS, SV.same_self, Bool.and_self]); (first | (with_reducible refine Nz.go ?_) | refine Hold_some ?_)))
  have hpar := hR.par
  have hll := hR.len
  have hout : ∀ b : Nat, b < out.length → ∃ (k : Nat) (x : TileD), out[b]? = some (k : Int) ∧ (ol o)[k]? = some x := fun b hb => by
    obtain ⟨k, x, h1, _, h2⟩ := hoat b (by omega)
    exact ⟨k, x, h2, h1⟩
  refine WP_range (N := out.length) (fun b t σ2 => getT t 1 = tilesV o ∧ getT t 4 = .ptr (σ.next + 1) 0 ∧ getT t 5 = .sc (.int .i64 0) ∧ getT t 28 = intsV (some out) ∧ Keeps σ σ2 ∧ σ.next + 3 ≤ σ2.next ∧ cellsOf σ2 (σ.next + 1) = some [tilesV o, intsV (some out), .mp (σ.next + 2)] ∧
      ∃ es, σ2.get (σ.next + 2) = some (.map es) ∧ RowsM σ2 (σ.next + 3) es (chainsTo (ol o) out b)) (by have := hf.1.2.1; omega) (by simp only [ev, sop, bounds, loI, hiI, fillParts, binSV, intBin, unSV, simprocAttr, ev2, ev4, cellsOf_pushm]; rfl) (by simp only [ev, sop, bounds, loI, hiI, fillParts, binSV, intBin, unSV, simprocAttr, ev2, ev4, cellsOf_pushm]) (by decide)
    ⟨by simp only [ev, sop, bounds, loI, hiI, fillParts, binSV, intBin, unSV, simprocAttr, ev2, ev4, cellsOf_pushm], by simp only [ev, sop, bounds, loI, hiI, fillParts, binSV, intBin, unSV, simprocAttr, ev2, ev4, cellsOf_pushm], by simp only [ev, sop, bounds, loI, hiI, fillParts, binSV, intBin, unSV, simprocAttr, ev2, ev4, cellsOf_pushm], by simp only [ev, sop, bounds, loI, hiI, fillParts, binSV, intBin, unSV, simprocAttr, ev2, ev4, cellsOf_pushm], ?_, by simp [next_push, next_set], by simp only [ev, sop, bounds, loI, hiI, fillParts, binSV, intBin, unSV, simprocAttr, ev2, ev4, cellsOf_pushm, hio], [], ?_, by simpa [chainsTo] using RowsM.start _ _⟩ ?_ ?_
  · exact ((((((Keeps.refl σ).push _).push _).push _).set _ (by omega)).set _ (by omega))
  · rw [get_set_ne (by omega), get_set_ne (by omega)]; exact get_push_eq
  · rintro b t σ2 hb h29 h30 ⟨g1, g4, g5, g28, hK, hnx, hc, es, hM, hI⟩
    obtain ⟨k0, x0, hk0, hx0⟩ := hout b hb
    have hck := cut_intsN hk0
    rw [hio] at g28
    have hchb : chainsTo (ol o) out (b + 1) = chainsTo (ol o) out b ++ [chainI (ol o) (k0 : Int)] := by
      unfold chainsTo
      rw [List.take_add_one, hk0, List.map_append]; rfl
    have hcl : (chainsTo (ol o) out b).length = b := by unfold chainsTo; simp; omega
    repeat (first | (with_reducible refine Nx.go ?_) | ((with_reducible refine Ny.go ?_); (conv => arg 1; simp only [ev, sop, bounds, loI, hiI, fillParts, binSV, intBin, unSV, simprocAttr, ev2, ev4, cellsOf_pushm, g1, g4, g28, h29, h30, hb, hck, recheck, wantedS, SV.same_self, Bool.and_self]); (first | (with_reducible refine Nz.go ?_) | refine Hold_some ?_)))
    refine WP_blockloop (fun q t σ2 => ∃ (cur : Int) (dn : List Int) (es : List (SV × SV)), q = (cur + 1).toNat ∧ -1 ≤ cur ∧ cur < ((ol o).length : Int) ∧ getT t 1 = tilesV o ∧ getT t 4 = .ptr (σ.next + 1) 0 ∧ getT t 5 = .sc (.int .i64 0) ∧ getT t 6 = .sc (.int .i64 (b : Int)) ∧ getT t 7 = .sc (.int .i64 cur) ∧ getT t 28 = intsV (some out) ∧ getT t 29 = .sc (.int .i64 (out.length : Int)) ∧ getT t 30 = .sc (.int .i64 (b : Int)) ∧
        Keeps σ σ2 ∧ σ.next + 3 ≤ σ2.next ∧ cellsOf σ2 (σ.next + 1) = some [tilesV o, intsV (some out), .mp (σ.next + 2)] ∧ σ2.get (σ.next + 2) = some (.map es) ∧ dn ++ chainI (ol o) cur = chainI (ol o) (k0 : Int) ∧
        RowsM σ2 (σ.next + 3) es (chainsTo (ol o) out b ++ (if dn = [] then [] else [dn]))) (k0 := k0 + 1)
      ⟨(k0 : Int), [], es, by omega, by omega, by have := (List.getElem?_eq_some_iff.1 hx0).1; omega, by simp only [ev, sop, bounds, loI, hiI, fillParts, binSV, intBin, unSV, simprocAttr, ev2, ev4, cellsOf_pushm, g1], by simp only [ev, sop, bounds, loI, hiI, fillParts, binSV, intBin, unSV, simprocAttr, ev2, ev4, cellsOf_pushm, g4], by simp only [ev, sop, bounds, loI, hiI, fillParts, binSV, intBin, unSV, simprocAttr, ev2, ev4, cellsOf_pushm, g5], by simp only [ev, sop, bounds, loI, hiI, fillParts, binSV, intBin, unSV, simprocAttr, ev2, ev4, cellsOf_pushm], by simp only [ev, sop, bounds, loI, hiI, fillParts, binSV, intBin, unSV, simprocAttr, ev2, ev4, cellsOf_pushm], by simp only [ev, sop, bounds, loI, hiI, fillParts, binSV, intBin, unSV, simprocAttr, ev2, ev4, cellsOf_pushm, g28]; rfl, by simp only [ev, sop, bounds, loI, hiI, fillParts, binSV, intBin, unSV, simprocAttr, ev2, ev4, cellsOf_pushm, h29], by simp only [ev, sop, bounds, loI, hiI, fillParts, binSV, intBin, unSV, simprocAttr, ev2, ev4, cellsOf_pushm, h30], hK, hnx, hc, hM, by simp, by simpa using hI⟩ ?_
    clear g1 g4 g5 g28 h29 h30 hK hnx hc hM hI es
    rintro q t σ2 ⟨cur, dn, es, rfl, hcur, hcurl, g1, g4, g5, g6, g7, g28, g29, g30, hK, hnx, hc, hM, hch, hI⟩
    generalize hBB : σ.next = B at *
    by_cases h0 : cur ≥ 0
    rotate_left
    · have hc1 : cur = -1 := by omega
      subst hc1
      have hdn : dn = chainI (ol o) (k0 : Int) := by
        have : chainI (ol o) (-1) = [] := rfl
        rw [this, List.append_nil] at hch; exact hch
      have hne : dn ≠ [] := by rw [hdn, chainI_eq hpar hx0]; simp
      rw [if_neg hne, hdn, ← hchb] at hI
      repeat (first | (with_reducible refine Nx.go ?_) | ((with_reducible refine Ny.go ?_); (conv => arg 1; simp only [ev, sop, bounds, loI, hiI, fillParts, binSV, intBin, unSV, simprocAttr, ev2, ev4, cellsOf_pushm, g7, h0, recheck, wantedS, SV.same_self, Bool.and_self]); (first | (with_reducible refine Nz.go ?_) | refine Hold_some ?_)))
      exact ⟨by simp only [ev, sop, bounds, loI, hiI, fillParts, binSV, intBin, unSV, simprocAttr, ev2, ev4, cellsOf_pushm, g29], by simp only [ev, sop, bounds, loI, hiI, fillParts, binSV, intBin, unSV, simprocAttr, ev2, ev4, cellsOf_pushm, g30], fun _ _ => ⟨by simp only [ev, sop, bounds, loI, hiI, fillParts, binSV, intBin, unSV, simprocAttr, ev2, ev4, cellsOf_pushm, g1], by simp only [ev, sop, bounds, loI, hiI, fillParts, binSV, intBin, unSV, simprocAttr, ev2, ev4, cellsOf_pushm, g4], by simp only [ev, sop, bounds, loI, hiI, fillParts, binSV, intBin, unSV, simprocAttr, ev2, ev4, cellsOf_pushm, g5], by simp only [ev, sop, bounds, loI, hiI, fillParts, binSV, intBin, unSV, simprocAttr, ev2, ev4, cellsOf_pushm, g28], hK, hnx, hc, es, hM, hI⟩⟩
    obtain ⟨k, rfl⟩ := Int.eq_ofNat_of_zero_le h0
    have hkl : k < (ol o).length := by omega
    have hkl' : (k : Int) < ((ol o).length : Int) := by omega
    obtain ⟨x, hx⟩ := get_of_lt hkl
    have hxp := hpar k x hx
    have hv := tiles_of_lt hkl
    have hcp : cut ((ol o).flatMap TileD.cells) (k * 3 + 1) 1 = some [.sc (.int .i64 x.parent)] := cut_flat (enc := TileD.cells) (sz := 3) (fun _ => rfl) hx 1 1 (by omega)
    have hk0' : 0 ≤ (k : Int) := by omega
    have hch2 : (dn ++ [(k : Int)]) ++ chainI (ol o) x.parent = chainI (ol o) (k0 : Int) := by rw [← hch, chainI_eq hpar hx]; simp
    have hdl : dn.length ≤ k0 + 1 := by
      have h1 := chainI_len (ol o) (k0 : Int)
      have h2 := congrArg List.length hch
      rw [List.length_append] at h2; omega
    have hk0l : k0 < (ol o).length := (List.getElem?_eq_some_iff.1 hx0).1
    have hak := keyed_all hI.key
    have hlen := hI.len
    have m1 : (B + 2 = σ2.next) = False := by simp; omega
    have m2 : (B + 2 = σ2.next + 1) = False := by simp; omega
    have m3 : (B + 1 = σ2.next) = False := by simp; omega
    have m4 : (B + 1 = σ2.next + 1) = False := by simp; omega
    rw [hv] at g1
    by_cases hdn : dn = []
    · subst hdn
      rw [if_pos rfl, List.append_nil] at hI hlen
      rw [hcl] at hlen
      have hfk := keyed_find (b := b) hI.key (Nat.zero_le _)
      rw [List.getElem?_eq_none (by omega)] at hfk
      have hset := fun v => keyed_end (b := b) v hI.key (by omega)
      simp only [Option.map_none] at hfk
      repeat (first | (with_reducible refine Nx.go ?_) | ((with_reducible refine Ny.go ?_); (conv => arg 1; simp only [ev, sop, bounds, loI, hiI, fillParts, binSV, intBin, unSV, simprocAttr, ev2, ev4, cellsOf_pushm, g1, g4, g6, g7, h0, hk0', hkl, hkl', hcp, hc, hM, hak, hfk, hset, St.get_push, St.get_set, m1, m2, m3, m4, recheck, wantedS, SV.same_self, Bool.and_self]); (first | (with_reducible refine Nz.go ?_) | refine Hold_some ?_)))
      refine ⟨(x.parent + 1).toNat, by omega, x.parent, [(k : Int)], _, rfl, by omega, by omega, by simp only [ev, sop, bounds, loI, hiI, fillParts, binSV, intBin, unSV, simprocAttr, ev2, ev4, cellsOf_pushm, g1]; exact hv.symm, by simp only [ev, sop, bounds, loI, hiI, fillParts, binSV, intBin, unSV, simprocAttr, ev2, ev4, cellsOf_pushm, g4], by simp only [ev, sop, bounds, loI, hiI, fillParts, binSV, intBin, unSV, simprocAttr, ev2, ev4, cellsOf_pushm, g5], by simp only [ev, sop, bounds, loI, hiI, fillParts, binSV, intBin, unSV, simprocAttr, ev2, ev4, cellsOf_pushm, g6], by simp only [ev, sop, bounds, loI, hiI, fillParts, binSV, intBin, unSV, simprocAttr, ev2, ev4, cellsOf_pushm], by simp only [ev, sop, bounds, loI, hiI, fillParts, binSV, intBin, unSV, simprocAttr, ev2, ev4, cellsOf_pushm, g28], by simp only [ev, sop, bounds, loI, hiI, fillParts, binSV, intBin, unSV, simprocAttr, ev2, ev4, cellsOf_pushm, g29], by simp only [ev, sop, bounds, loI, hiI, fillParts, binSV, intBin, unSV, simprocAttr, ev2, ev4, cellsOf_pushm, g30],
        ((hK.push _).push _).set _ (by omega), by simp [next_push, next_set]; omega, by simp (disch := first | omega | (simp only [nx_push, nx_set]; done) | (simp only [nx_push, nx_set]; omega)) only [cells_push_ne, cells_push_eq, cells_set_ne, cells_set_eq, hc], get_set_eq, hch2, ?_⟩
      have h := hI.add (σ' := ((σ2.push (.cells [.sc (.int .i64 (k : Int))])).push (.cells [.sc (.int .i64 (k : Int))])).set (B + 2) (.map (es ++ [(.sc (.int .i64 (b : Int)), .sl (σ2.next + 1) 0 1 1)]))) (id := σ2.next + 1) (L := [(k : Int)]) (by omega) (by omega) (by simp [next_push, next_set]) (by simp (disch := first | omega | (simp only [nx_push, nx_set]; done) | (simp only [nx_push, nx_set]; omega)) only [cells_push_ne, cells_push_eq, cells_set_ne, cells_set_eq]; rfl) (fun i h1 h2 => by simp (disch := first | omega | (simp only [nx_push, nx_set]; done) | (simp only [nx_push, nx_set]; omega)) only [cells_push_ne, cells_push_eq, cells_set_ne, cells_set_eq])
      rw [hcl] at h
      rw [if_neg (by simp)]
      exact h
    · rw [if_neg hdn] at hI hlen
      have hlen2 : es.length = b + 1 := by rw [hlen, List.length_append, hcl]; rfl
      obtain ⟨id, h1, h2, h3, h4⟩ := hI.at_ b dn (by rw [List.getElem?_append_right (by omega), hcl, Nat.sub_self]; rfl)
      have hfk := keyed_find (b := b) hI.key (Nat.zero_le _)
      rw [Nat.sub_zero, h1] at hfk
      have hset := fun v => keyed_set (b := b) v hI.key (Nat.zero_le _) (by omega)
      simp only [Nat.sub_zero] at hset
      have n1 : (B + 2 = id) = False := by simp; omega
      have n2 : (B + 1 = id) = False := by simp; omega
      have n3 : (id = σ2.next) = False := by simp; omega
      have hcw : cut (dn.map SV.int) 0 dn.length = some (dn.map SV.int) := cut_whole (by simp)
      have hmb : (dn.length + 1) * 8 ≤ 1099511627776 ∧ dn.length + 1 ≤ 1099511627776 := by omega
      repeat (first | (with_reducible refine Nx.go ?_) | ((with_reducible refine Ny.go ?_); (conv => arg 1; simp only [ev, sop, bounds, loI, hiI, fillParts, binSV, intBin, unSV, simprocAttr, ev2, ev4, cellsOf_pushm, g1, g4, g6, g7, h0, hk0', hkl, hkl', hcp, hc, hM, hak, hfk, hset, St.get_push, St.get_set, m1, m2, m3, m4, n1, n2, n3, h4, hcw, hmb, recheck, wantedS, SV.same_self, Bool.and_self]); (first | (with_reducible refine Nz.go ?_) | refine Hold_some ?_)))
      refine ⟨(x.parent + 1).toNat, by omega, x.parent, dn ++ [(k : Int)], _, rfl, by omega, by omega, by simp only [ev, sop, bounds, loI, hiI, fillParts, binSV, intBin, unSV, simprocAttr, ev2, ev4, cellsOf_pushm, g1]; exact hv.symm, by simp only [ev, sop, bounds, loI, hiI, fillParts, binSV, intBin, unSV, simprocAttr, ev2, ev4, cellsOf_pushm, g4], by simp only [ev, sop, bounds, loI, hiI, fillParts, binSV, intBin, unSV, simprocAttr, ev2, ev4, cellsOf_pushm, g5], by simp only [ev, sop, bounds, loI, hiI, fillParts, binSV, intBin, unSV, simprocAttr, ev2, ev4, cellsOf_pushm, g6], by simp only [ev, sop, bounds, loI, hiI, fillParts, binSV, intBin, unSV, simprocAttr, ev2, ev4, cellsOf_pushm], by simp only [ev, sop, bounds, loI, hiI, fillParts, binSV, intBin, unSV, simprocAttr, ev2, ev4, cellsOf_pushm, g28], by simp only [ev, sop, bounds, loI, hiI, fillParts, binSV, intBin, unSV, simprocAttr, ev2, ev4, cellsOf_pushm, g29], by simp only [ev, sop, bounds, loI, hiI, fillParts, binSV, intBin, unSV, simprocAttr, ev2, ev4, cellsOf_pushm, g30],
        (((hK.push _).set _ (by omega)).push _).set _ (by omega), by simp [next_push, next_set]; omega, by simp (disch := first | omega | (simp only [nx_push, nx_set]; done) | (simp only [nx_push, nx_set]; omega)) only [cells_push_ne, cells_push_eq, cells_set_ne, cells_set_eq, hc], get_set_eq, hch2, ?_⟩
      have h := hI.put (σ' := (((σ2.push (.cells [.sc (.int .i64 (k : Int))])).set id .dead).push (.cells (dn.map SV.int ++ [.sc (.int .i64 (k : Int))]))).set (B + 2) (.map (es.set b (.sc (.int .i64 (b : Int)), .sl (σ2.next + 1) 0 (dn.length + 1) 1)))) (id := σ2.next + 1) (b := b) (L := dn ++ [(k : Int)]) (by rw [List.length_append, hcl]; simp) (by omega) (by omega) (by simp [next_push, next_set]) (by simp (disch := first | omega | (simp only [nx_push, nx_set]; done) | (simp only [nx_push, nx_set]; omega)) only [cells_push_ne, cells_push_eq, cells_set_ne, cells_set_eq]; simp [SV.int])
        (fun i g1 g2 g3 => by
          have : i ≠ id := fun e => g3 _ (by rw [e]; exact h1)
          simp (disch := first | omega | (simp only [nx_push, nx_set]; done) | (simp only [nx_push, nx_set]; omega)) only [cells_push_ne, cells_push_eq, cells_set_ne, cells_set_eq])
      rw [if_neg (by simp)]
      have e1 : (chainsTo (ol o) out b ++ [dn]).set b (dn ++ [(k : Int)]) = chainsTo (ol o) out b ++ [dn ++ [(k : Int)]] := by
        rw [List.set_append_right _ _ (by omega), hcl, Nat.sub_self]; rfl
      rw [e1, show (dn ++ [(k : Int)]).length = dn.length + 1 by simp] at h
      exact h
  · rintro t σ2 ⟨g1, g4, g5, g28, hK, hnx, hc, es, hM, hI⟩
    rw [show chainsTo (ol o) out out.length = out.map (chainI (ol o)) by unfold chainsTo; rw [List.take_length]] at hI
    repeat (first | (with_reducible refine Nx.go ?_) | ((with_reducible refine Ny.go ?_); (conv => arg 1; simp only [ev, sop, bounds, loI, hiI, fillParts, binSV, intBin, unSV, simprocAttr, ev2, ev4, cellsOf_pushm, g4, hc, recheck, wantedS, SV.same_self, Bool.and_self]); (first | (with_reducible refine Nz.go ?_) | refine Hold_some ?_)))
    (refine Hold1_of ?_; (conv => arg 1; simp only [ev, sop, bounds, loI, hiI, fillParts, binSV, intBin, unSV, simprocAttr, ev2, ev4, cellsOf_pushm, g4, hc, resultsSV, resMany, resOne]); refine Hold1_some ?_)
    refine ⟨hK.set _ (by omega), .inr (.inr ⟨hR, out, σ.next + 2, rfl, by omega, by simp [next_push, next_set]; omega, hO3, es, by rw [get_set_ne (by omega)]; exact hM, hI.same (by simp [next_push, next_set]) (fun i h1 h2 => by simp (disch := first | omega | (simp only [nx_push, nx_set]; done) | (simp only [nx_push, nx_set]; omega)) only [cells_push_ne, cells_push_eq, cells_set_ne, cells_set_eq])⟩)⟩
end Go.Proofs.Ytojjhcgbbmknmaa.Sh

/- What one block lies in and another one does not; rows of edges. -/
namespace Go.Proofs.Ytojjhcgbbmknmaa.Sh
set_option linter.unusedSimpArgs false
set_option linter.unusedVariables false
open Go Go.Proofs

/-- A row of numbers as a value: nil just where there are none. -/
def RowN (σ : St) (v : SV) (lo : Nat) (L : List Int) : Prop := (v = .sc .nilsl ∧ L = []) ∨ ∃ id, L ≠ [] ∧ v = .sl id 0 L.length 1 ∧ lo ≤ id ∧ id < σ.next ∧ cellsOf σ id = some (L.map SV.int)
theorem RowN.keeps {σ σ' : St} {v : SV} {lo : Nat} {L : List Int} (h : RowN σ v lo L) (k : Keeps σ σ') : RowN σ' v lo L := by
  rcases h with h | ⟨id, h0, h1, h2, h3, h4⟩
  · exact .inl h
  · exact .inr ⟨id, h0, h1, h2, Nat.lt_of_lt_of_le h3 k.1, by rw [k.cells h3]; exact h4⟩
def lessL (A B : List Int) : List Int := A.filter fun k => !decide (k ∈ B)
theorem lessL_take {A B : List Int} {i : Nat} {x : Int} (h : A[i]? = some x) : lessL (A.take (i + 1)) B = lessL (A.take i) B ++ (if x ∈ B then [] else [x]) := by
  unfold lessL
  rw [List.take_add_one, h, List.filter_append]
  by_cases e : x ∈ B <;> simp [e]
theorem lessL_len (A B : List Int) : (lessL A B).length ≤ A.length := List.length_filter_le _ _

set_option maxHeartbeats 8000000 in
theorem c_besides {m : Nat} (hm : 2 < m) {o : Option (List TileD)} {out : List Int} {M b c lo : Nat} {Lb Lc : List Int} {es : List (SV × SV)} {σ : St} (hM : σ.get M = some (.map es)) (hMl : M < σ.next) (hI : RowsM σ lo es (out.map (chainI (ol o))))
    (hb : (out.map (chainI (ol o)))[b]? = some Lb) (hc : (out.map (chainI (ol o)))[c]? = some Lc) (hlb : Lb.length ≤ 2 ^ 20) (hlc : Lc.length ≤ 2 ^ 20) :
    WPF (EV m) 64 [aroundV o out M, .sc (.int .i64 (b : Int)), .sc (.int .i64 (c : Int))] σ (fun v σ' => Keeps σ σ' ∧ RowN σ' v σ.next (lessL Lb Lc)) := by
  refine inline_fn rfl rfl rfl rfl ?_
  unfold aroundV
  obtain ⟨ib, hb1, hb2, hb3, hb4⟩ := hI.at_ b Lb hb
  obtain ⟨ic, hc1, hc2, hc3, hc4⟩ := hI.at_ c Lc hc
  have hak := keyed_all hI.key
  have hfb := keyed_find (b := b) hI.key (Nat.zero_le _)
  rw [Nat.sub_zero, hb1] at hfb
  have hfc := keyed_find (b := c) hI.key (Nat.zero_le _)
  rw [Nat.sub_zero, hc1] at hfc
  have m0 : (M = σ.next) = False := by simp; omega
  repeat (first | (with_reducible refine Nx.go ?_) | ((with_reducible refine Ny.go ?_); (conv => arg 1; simp only [ev, sop, bounds, loI, hiI, fillParts, binSV, intBin, unSV, simprocAttr, ev2, ev4, cellsOf_pushm, St.get_push, St.get_set, m0, hM, hak, hfb, recheck, wantedS, SV.same_self, Bool.and_self]); (first | (with_reducible refine Nz.go ?_) | refine Hold_some ?_)))
  refine WP_range (N := Lb.length) (fun i t σ2 => getT t 2 = .sc (.int .i64 (c : Int)) ∧ getT t 3 = .ptr σ.next 0 ∧ getT t 12 = .sl ib 0 Lb.length 1 ∧ Keeps σ σ2 ∧ σ.next < σ2.next ∧ cellsOf σ2 σ.next = some [tilesV o, intsV (some out), .mp M] ∧ ∃ v, getT t 6 = v ∧ RowN σ2 v (σ.next + 1) (lessL (Lb.take i) Lc)) (by omega) (by simp only [ev, sop, bounds, loI, hiI, fillParts, binSV, intBin, unSV, simprocAttr, ev2, ev4, cellsOf_pushm]) (by simp only [ev, sop, bounds, loI, hiI, fillParts, binSV, intBin, unSV, simprocAttr, ev2, ev4, cellsOf_pushm]) (by decide)
    ⟨by simp only [ev, sop, bounds, loI, hiI, fillParts, binSV, intBin, unSV, simprocAttr, ev2, ev4, cellsOf_pushm], by simp only [ev, sop, bounds, loI, hiI, fillParts, binSV, intBin, unSV, simprocAttr, ev2, ev4, cellsOf_pushm], by simp only [ev, sop, bounds, loI, hiI, fillParts, binSV, intBin, unSV, simprocAttr, ev2, ev4, cellsOf_pushm], (Keeps.refl _).push _, by simp [next_push], by simp only [ev, sop, bounds, loI, hiI, fillParts, binSV, intBin, unSV, simprocAttr, ev2, ev4, cellsOf_pushm], .sc .nilsl, by simp only [ev, sop, bounds, loI, hiI, fillParts, binSV, intBin, unSV, simprocAttr, ev2, ev4, cellsOf_pushm], .inl ⟨rfl, rfl⟩⟩ ?_ ?_
  · rintro i t σ2 hi g13 g14 ⟨g2, g3, g12, hK, hnx, hcell, v, g6, hrow⟩
    obtain ⟨x, hx⟩ := get_of_lt hi
    have hcx := cut_intsN hx
    have hi' : (i : Int) < (Lb.length : Int) := by omega
    have hi0 : 0 ≤ (i : Int) := by omega
    have hib2 : cellsOf σ2 ib = some (Lb.map SV.int) := by rw [hK.cells hb3]; exact hb4
    have hic2 : cellsOf σ2 ic = some (Lc.map SV.int) := by rw [hK.cells hc3]; exact hc4
    have hM2 : σ2.get M = some (.map es) := by rw [hK.2 M hMl]; exact hM
    have hcon := t_containsI (some Lc) x (by show Lc.length ≤ 2 ^ 62; omega)
    have hzc : frz σ2 20 (.sl ic 0 Lc.length 1) = some (intsV (some Lc)) := frz_sl hic2 (cut_whole (by simp)) (pures_ints Lc)
    have hz : mapO (frz σ2 20) [.sl ic 0 Lc.length 1, .sc (.int .i64 x)] = some [intsV (some Lc), .sc (.int .i64 x)] := by
      simp only [mapO, hzc, frz_pure (show (SV.sc (.int .i64 x)).pure = true from rfl), Option.map_some]
    have ht := lessL_take (B := Lc) hx
    repeat (first | (with_reducible refine Nx.go ?_) | ((with_reducible refine Ny.go ?_); (conv => arg 1; simp only [ev, sop, bounds, loI, hiI, fillParts, binSV, intBin, unSV, simprocAttr, ev2, ev4, cellsOf_pushm, g2, g3, g6, g12, g14, hi, hi', hi0, hib2, hcx, hcell, hM2, hak, hfc, recheck, wantedS, SV.same_self, Bool.and_self]); (first | (with_reducible refine Nz.go ?_) | refine Hold_some ?_)))
    refine st_tellz (hcon) ⟨_, rfl, by first | omega | decide⟩ wantedS_none (by simp only [ev, sop, bounds, loI, hiI, fillParts, binSV, intBin, unSV, simprocAttr, ev2, ev4, cellsOf_pushm, g2, g3, g6, g12, g14, hi, hi', hi0, hib2, hcx, hcell, hM2, hak, hfc] <;> rfl) (hz) (by first | with_reducible exact flat_set _ | rfl) (by first | with_reducible exact recheck_nil | (simp only [recheck, wantedS]; simp only [ev, sop, bounds, loI, hiI, fillParts, binSV, intBin, unSV, simprocAttr, ev2, ev4, cellsOf_pushm, g2, g3, g6, g12, g14, hi, hi', hi0, hib2, hcx, hcell, hM2, hak, hfc]; simp only [SV.same_self, Bool.and_self, beq_self_eq_true])) ?_
    by_cases hin : x ∈ Lc
    · have hd : decide (x ∈ ol (some Lc)) = true := decide_eq_true hin
      rw [if_pos hin, List.append_nil] at ht
      repeat (first | (with_reducible refine Nx.go ?_) | ((with_reducible refine Ny.go ?_); (conv => arg 1; simp only [ev, sop, bounds, loI, hiI, fillParts, binSV, intBin, unSV, simprocAttr, ev2, ev4, cellsOf_pushm, hd, recheck, wantedS, SV.same_self, Bool.and_self]); (first | (with_reducible refine Nz.go ?_) | refine Hold_some ?_)))
      refine ⟨by simp only [ev, sop, bounds, loI, hiI, fillParts, binSV, intBin, unSV, simprocAttr, ev2, ev4, cellsOf_pushm, g13], by simp only [ev, sop, bounds, loI, hiI, fillParts, binSV, intBin, unSV, simprocAttr, ev2, ev4, cellsOf_pushm, g14], fun _ _ => ⟨by simp only [ev, sop, bounds, loI, hiI, fillParts, binSV, intBin, unSV, simprocAttr, ev2, ev4, cellsOf_pushm, g2], by simp only [ev, sop, bounds, loI, hiI, fillParts, binSV, intBin, unSV, simprocAttr, ev2, ev4, cellsOf_pushm, g3], by simp only [ev, sop, bounds, loI, hiI, fillParts, binSV, intBin, unSV, simprocAttr, ev2, ev4, cellsOf_pushm, g12], hK, hnx, hcell, v, by simp only [ev, sop, bounds, loI, hiI, fillParts, binSV, intBin, unSV, simprocAttr, ev2, ev4, cellsOf_pushm, g6], by rw [ht]; exact hrow⟩⟩
    · have hd : decide (x ∈ ol (some Lc)) = false := decide_eq_false hin
      rw [if_neg hin] at ht
      have m1 : (σ.next = σ2.next) = False := by simp; omega
      have hll := lessL_len (Lb.take i) Lc
      rw [List.length_take] at hll
      rcases hrow with ⟨rfl, hnil⟩ | ⟨id, hne, rfl, h2, h3, h4⟩
      · rw [hnil, List.nil_append] at ht
        repeat (first | (with_reducible refine Nx.go ?_) | ((with_reducible refine Ny.go ?_); (conv => arg 1; simp only [ev, sop, bounds, loI, hiI, fillParts, binSV, intBin, unSV, simprocAttr, ev2, ev4, cellsOf_pushm, hd, g6, recheck, wantedS, SV.same_self, Bool.and_self]); (first | (with_reducible refine Nz.go ?_) | refine Hold_some ?_)))
        refine ⟨by simp only [ev, sop, bounds, loI, hiI, fillParts, binSV, intBin, unSV, simprocAttr, ev2, ev4, cellsOf_pushm, g13], by simp only [ev, sop, bounds, loI, hiI, fillParts, binSV, intBin, unSV, simprocAttr, ev2, ev4, cellsOf_pushm, g14], fun _ _ => ⟨by simp only [ev, sop, bounds, loI, hiI, fillParts, binSV, intBin, unSV, simprocAttr, ev2, ev4, cellsOf_pushm, g2], by simp only [ev, sop, bounds, loI, hiI, fillParts, binSV, intBin, unSV, simprocAttr, ev2, ev4, cellsOf_pushm, g3], by simp only [ev, sop, bounds, loI, hiI, fillParts, binSV, intBin, unSV, simprocAttr, ev2, ev4, cellsOf_pushm, g12], (hK.push _).push _, by simp [next_push]; omega, by simp (disch := first | omega | (simp only [nx_push, nx_set]; done) | (simp only [nx_push, nx_set]; omega)) only [cells_push_ne, cells_push_eq, cells_set_ne, cells_set_eq, hcell], .sl (σ2.next + 1) 0 1 1, by simp only [ev, sop, bounds, loI, hiI, fillParts, binSV, intBin, unSV, simprocAttr, ev2, ev4, cellsOf_pushm], .inr ⟨σ2.next + 1, by rw [ht]; simp, by rw [ht]; rfl, by omega, by simp [next_push], by rw [ht]; simp (disch := first | omega | (simp only [nx_push, nx_set]; done) | (simp only [nx_push, nx_set]; omega)) only [cells_push_ne, cells_push_eq, cells_set_ne, cells_set_eq]; rfl⟩⟩⟩
      · have n1 : (id = σ2.next) = False := by simp; omega
        have hcw : cut ((lessL (Lb.take i) Lc).map SV.int) 0 (lessL (Lb.take i) Lc).length = some ((lessL (Lb.take i) Lc).map SV.int) := cut_whole (by simp)
        have hmb : ((lessL (Lb.take i) Lc).length + 1) * 8 ≤ 1099511627776 ∧ (lessL (Lb.take i) Lc).length + 1 ≤ 1099511627776 := by omega
        repeat (first | (with_reducible refine Nx.go ?_) | ((with_reducible refine Ny.go ?_); (conv => arg 1; simp only [ev, sop, bounds, loI, hiI, fillParts, binSV, intBin, unSV, simprocAttr, ev2, ev4, cellsOf_pushm, hd, g6, h4, n1, hcw, hmb, recheck, wantedS, SV.same_self, Bool.and_self]); (first | (with_reducible refine Nz.go ?_) | refine Hold_some ?_)))
        refine ⟨by simp only [ev, sop, bounds, loI, hiI, fillParts, binSV, intBin, unSV, simprocAttr, ev2, ev4, cellsOf_pushm, g13], by simp only [ev, sop, bounds, loI, hiI, fillParts, binSV, intBin, unSV, simprocAttr, ev2, ev4, cellsOf_pushm, g14], fun _ _ => ⟨by simp only [ev, sop, bounds, loI, hiI, fillParts, binSV, intBin, unSV, simprocAttr, ev2, ev4, cellsOf_pushm, g2], by simp only [ev, sop, bounds, loI, hiI, fillParts, binSV, intBin, unSV, simprocAttr, ev2, ev4, cellsOf_pushm, g3], by simp only [ev, sop, bounds, loI, hiI, fillParts, binSV, intBin, unSV, simprocAttr, ev2, ev4, cellsOf_pushm, g12], (((hK.push _).set _ (by omega)).push _), by simp [next_push, next_set]; omega, by simp (disch := first | omega | (simp only [nx_push, nx_set]; done) | (simp only [nx_push, nx_set]; omega)) only [cells_push_ne, cells_push_eq, cells_set_ne, cells_set_eq, hcell], .sl (σ2.next + 1) 0 ((lessL (Lb.take i) Lc).length + 1) 1, by simp only [ev, sop, bounds, loI, hiI, fillParts, binSV, intBin, unSV, simprocAttr, ev2, ev4, cellsOf_pushm], .inr ⟨σ2.next + 1, by rw [ht]; simp, by rw [ht]; simp, by omega, by simp [next_push, next_set], by rw [ht]; simp (disch := first | omega | (simp only [nx_push, nx_set]; done) | (simp only [nx_push, nx_set]; omega)) only [cells_push_ne, cells_push_eq, cells_set_ne, cells_set_eq]; simp [SV.int]⟩⟩⟩
  · rintro t σ2 ⟨g2, g3, g12, hK, hnx, hcell, v, g6, hrow⟩
    rw [List.take_length] at hrow
    repeat (first | (with_reducible refine Nx.go ?_) | ((with_reducible refine Ny.go ?_); (conv => arg 1; simp only [ev, sop, bounds, loI, hiI, fillParts, binSV, intBin, unSV, simprocAttr, ev2, ev4, cellsOf_pushm, g6, recheck, wantedS, SV.same_self, Bool.and_self]); (first | (with_reducible refine Nz.go ?_) | refine Hold_some ?_)))
    (refine Hold1_of ?_; (conv => arg 1; simp only [ev, sop, bounds, loI, hiI, fillParts, binSV, intBin, unSV, simprocAttr, ev2, ev4, cellsOf_pushm, resultsSV, resMany, resOne]); refine Hold1_some ?_)
    refine ⟨hK, ?_⟩
    rcases hrow with h | ⟨id, h0, h1, h2, h3, h4⟩
    · exact .inl h
    · exact .inr ⟨id, h0, h1, by omega, h3, h4⟩
end Go.Proofs.Ytojjhcgbbmknmaa.Sh

/- Rows of edges between tiles. -/
namespace Go.Proofs.Ytojjhcgbbmknmaa.Sh
set_option linter.unusedSimpArgs false
set_option linter.unusedVariables false
open Go Go.Proofs

theorem frz_slE {σ : St} {d id off n sz : Nat} {cs ds : List SV} (h : cellsOf σ id = some cs) (hc : cut cs off (n * sz) = some ds) (hp : pures ds = true) : frz σ (d + 2) (.sl id off n sz) = some (.lst n sz ds) := by
  unfold frz
  rw [if_neg (by simp [SV.pure])]
  simp only [h, Option.bind_some, hc]
  rw [mapO_pures hp]
  rfl
structure RowD where
  e : EdgeD
  lv : Option (List Int)
  en : Option (List Int)
def RowD.cells (r : RowD) : List SV := [.sc (.int .i64 r.e.f), .sc (.int .i64 r.e.a), .sc (.int .i64 r.e.t), intsV r.lv, intsV r.en]
theorem pures_row (r : RowD) : pures r.cells = true := by simp [RowD.cells, pures, SV.pure, pure_ints]
def rowsR : Option (List RowD) → SV := recV 5 RowD.cells
/-- A row of numbers, as a value: nil, or one in a block of its own, not g. -/
def FrzV (σ : St) (lo g : Nat) (v : SV) (o : Option (List Int)) : Prop := (v = .sc .nilsl ∧ o = none) ∨ ∃ id L, o = some L ∧ v = .sl id 0 L.length 1 ∧ lo ≤ id ∧ id < σ.next ∧ id ≠ g ∧ cellsOf σ id = some (L.map SV.int)
def RowsR (σ : St) (lo g : Nat) : List SV → List RowD → Prop
  | C, [] => C = []
  | C, r :: rs => ∃ v1 v2 C', C = [.sc (.int .i64 r.e.f), .sc (.int .i64 r.e.a), .sc (.int .i64 r.e.t), v1, v2] ++ C' ∧ FrzV σ lo g v1 r.lv ∧ FrzV σ lo g v2 r.en ∧ RowsR σ lo g C' rs
theorem FrzV.move {σ σ' : St} {lo g g' : Nat} {v : SV} {o : Option (List Int)} (h : FrzV σ lo g v o) (hn : σ.next ≤ σ'.next) (hc : ∀ i, lo ≤ i → i < σ.next → i ≠ g → cellsOf σ' i = cellsOf σ i) (hg : g' = g ∨ σ.next ≤ g') : FrzV σ' lo g' v o := by
  rcases h with h | ⟨id, L, h1, h2, h3, h4, h5, h6⟩
  · exact .inl h
  · exact .inr ⟨id, L, h1, h2, h3, by omega, by omega, by rw [hc id h3 h4 h5]; exact h6⟩
theorem RowsR.move {σ σ' : St} {lo g g' : Nat} (hn : σ.next ≤ σ'.next) (hc : ∀ i, lo ≤ i → i < σ.next → i ≠ g → cellsOf σ' i = cellsOf σ i) (hg : g' = g ∨ σ.next ≤ g') : ∀ {rs : List RowD} {C : List SV}, RowsR σ lo g C rs → RowsR σ' lo g' C rs
  | [], C, h => h
  | r :: rs, C, ⟨v1, v2, C', h1, h2, h3, h4⟩ => ⟨v1, v2, C', h1, h2.move hn hc hg, h3.move hn hc hg, RowsR.move hn hc hg h4⟩
theorem RowsR.add {σ : St} {lo g : Nat} {r : RowD} {v1 v2 : SV} (h2 : FrzV σ lo g v1 r.lv) (h3 : FrzV σ lo g v2 r.en) : ∀ {rs : List RowD} {C : List SV}, RowsR σ lo g C rs → RowsR σ lo g (C ++ [.sc (.int .i64 r.e.f), .sc (.int .i64 r.e.a), .sc (.int .i64 r.e.t), v1, v2]) (rs ++ [r])
  | [], C, h => by
    have h : C = [] := h
    subst h
    exact ⟨v1, v2, [], rfl, h2, h3, rfl⟩
  | r0 :: rs, C, ⟨w1, w2, C', g1, g2, g3, g4⟩ => ⟨w1, w2, _, by rw [g1, List.append_assoc], g2, g3, RowsR.add h2 h3 g4⟩
theorem RowsR.len {σ : St} {lo g : Nat} : ∀ {rs : List RowD} {C : List SV}, RowsR σ lo g C rs → C.length = rs.length * 5
  | [], C, h => by have h : C = [] := h; subst h; rfl
  | r :: rs, C, ⟨v1, v2, C', h1, _, _, h4⟩ => by
    have := RowsR.len h4
    rw [h1, List.length_append, this]; simp; omega
theorem FrzV.frz {σ : St} {lo g : Nat} {v : SV} {o : Option (List Int)} (h : FrzV σ lo g v o) (d : Nat) : Sh.frz σ (d + 2) v = some (intsV o) := by
  rcases h with ⟨rfl, rfl⟩ | ⟨id, L, rfl, rfl, _, _, _, h6⟩
  · exact frz_pure rfl
  · exact frz_slE h6 (cut_whole (by simp)) (pures_ints L)
theorem RowsR.frz {σ : St} {lo g : Nat} (d : Nat) : ∀ {rs : List RowD} {C : List SV}, RowsR σ lo g C rs → mapO (Sh.frz σ (d + 2)) C = some (rs.flatMap RowD.cells)
  | [], C, h => by have h : C = [] := h; subst h; rfl
  | r :: rs, C, ⟨v1, v2, C', h1, h2, h3, h4⟩ => by
    have ih := RowsR.frz d h4
    have p : ∀ n : Int, Sh.frz σ (d + 2) (.sc (.int .i64 n)) = some (.sc (.int .i64 n)) := fun n => frz_pure rfl
    subst h1
    simp only [List.cons_append, List.nil_append, mapO, p, h2.frz d, h3.frz d, ih, Option.map_some]
    rfl
/-- A cell that holds rows. -/
def OutAt (σ : St) (r lo : Nat) (rs : List RowD) : Prop := (rs = [] ∧ cellsOf σ r = some [.sc .nilsl]) ∨ ∃ g C, rs ≠ [] ∧ cellsOf σ r = some [.sl g 0 rs.length 5] ∧ lo ≤ g ∧ g < σ.next ∧ cellsOf σ g = some C ∧ RowsR σ lo g C rs
theorem OutAt.move {σ σ' : St} {r lo : Nat} {rs : List RowD} (h : OutAt σ r lo rs) (hn : σ.next ≤ σ'.next) (hr : cellsOf σ' r = cellsOf σ r) (hc : ∀ i, lo ≤ i → i < σ.next → cellsOf σ' i = cellsOf σ i) : OutAt σ' r lo rs := by
  rcases h with ⟨h1, h2⟩ | ⟨g, C, h1, h2, h3, h4, h5, h6⟩
  · exact .inl ⟨h1, by rw [hr]; exact h2⟩
  · exact .inr ⟨g, C, h1, by rw [hr]; exact h2, h3, by omega, by rw [hc g h3 h4]; exact h5, RowsR.move hn (fun i a b _ => hc i a b) (.inl rfl) h6⟩

theorem c_reverseN {m lo : Nat} {v : SV} {L : List Int} {σ : St} (h : RowN σ v lo L) (hl : L.length ≤ 2 ^ 40) :
    WPF (EV m) 65 [v] σ (fun _ σ' => σ'.next = σ.next ∧ RowN σ' v lo L.reverse ∧ ∀ i, i < lo → σ'.get i = σ.get i) := by
  rcases h with ⟨rfl, rfl⟩ | ⟨id, h0, rfl, h2, h3, h4⟩
  · refine c_reverseNil.mono ?_
    rintro _ σ' rfl
    exact ⟨rfl, .inl ⟨rfl, rfl⟩, fun _ _ => rfl⟩
  · refine (c_reverse hl h4).mono ?_
    rintro _ σ' ⟨hO, hc⟩
    exact ⟨hO.1, .inr ⟨id, by simpa using h0, by rw [List.length_reverse], h2, by rw [hO.1]; exact h3, hc⟩, fun i hi => hO.2 i (by omega)⟩
theorem RowN.frzV {σ : St} {v : SV} {lo lo' g : Nat} {L : List Int} (h : RowN σ v lo L) (hl : lo' ≤ lo) (hg : σ.next ≤ g) : FrzV σ lo' g v (nilRow L) := by
  rcases h with ⟨rfl, rfl⟩ | ⟨id, h0, rfl, h2, h3, h4⟩
  · exact .inl ⟨rfl, rfl⟩
  · exact .inr ⟨id, L, by unfold nilRow; rw [if_neg h0], rfl, by omega, h3, by omega, h4⟩
theorem RowN.shape {σ : St} {v : SV} {lo : Nat} {L : List Int} (h : RowN σ v lo L) : v.flat = [v] ∧ v.lay = true ∧ v.one = true := by
  rcases h with ⟨rfl, rfl⟩ | ⟨id, h0, rfl, h2, h3, h4⟩ <;> exact ⟨rfl, rfl, rfl⟩

/-- What is told of an edge, if it is between tiles and is asked for. -/
def rowOf (l : List TileD) (out : List Int) (asked : EdgeD → Bool) (e : EdgeD) : Option RowD :=
  if out.getD e.f.toNat 0 = out.getD e.t.toNat 0 ∨ asked e = false then none
  else some ⟨e, nilRow (lessL (chainI l (out.getD e.f.toNat 0)) (chainI l (out.getD e.t.toNat 0))), nilRow ((lessL (chainI l (out.getD e.t.toNat 0)) (chainI l (out.getD e.f.toNat 0))).reverse)⟩
def rowsOf (l : List TileD) (out : List Int) (asked : EdgeD → Bool) (es : List EdgeD) : List RowD := es.filterMap (rowOf l out asked)
theorem rowsOf_add (l : List TileD) (out : List Int) (asked : EdgeD → Bool) (p : List EdgeD) (e : EdgeD) : rowsOf l out asked (p ++ [e]) = rowsOf l out asked p ++ (rowOf l out asked e).toList := by
  unfold rowsOf
  rw [List.filterMap_append]
  cases h : rowOf l out asked e <;> simp [h]
theorem rowsOf_len (l : List TileD) (out : List Int) (asked : EdgeD → Bool) (p : List EdgeD) : (rowsOf l out asked p).length ≤ p.length := List.length_filterMap_le _ _
end Go.Proofs.Ytojjhcgbbmknmaa.Sh
