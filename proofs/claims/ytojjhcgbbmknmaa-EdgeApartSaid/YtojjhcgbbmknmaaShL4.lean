/- EdgeApart: the law. -/
import Derived.Test.YtojjhcgbbmknmaaShT9
import Derived.Test.YtojjhcgbbmknmaaShAw
namespace Go.Proofs.Ytojjhcgbbmknmaa.Sh
set_option linter.unusedSimpArgs false
set_option linter.unusedVariables false
open Go Go.Proofs

/-! ### Truths in a row -/
def boolCells (n : Nat) (g : Nat → Bool) : List SV := (List.range n).map fun i => .sc (.bool (g i))
theorem boolCells_len (n : Nat) (g : Nat → Bool) : (boolCells n g).length = n := by simp [boolCells]
theorem boolCells_get {n : Nat} {g : Nat → Bool} {i : Nat} (h : i < n) : (boolCells n g)[i]? = some (.sc (.bool (g i))) := by simp [boolCells, h]
theorem boolCells_none (n : Nat) : List.replicate n (.sc (.bool false)) = boolCells n (fun _ => false) := by
  apply List.ext_getElem?
  intro i
  by_cases h : i < n
  · rw [boolCells_get h, List.getElem?_replicate, if_pos h]
  · rw [List.getElem?_replicate, if_neg h, List.getElem?_eq_none (by rw [boolCells_len]; omega)]
theorem boolCells_set {n : Nat} {g : Nat → Bool} {i : Nat} (h : i < n) : paste (boolCells n g) i [.sc (.bool true)] = boolCells n (upd g i) := by
  rw [paste_one (by rw [boolCells_len]; exact h)]
  apply List.ext_getElem?
  intro j
  rw [List.getElem?_set]
  by_cases hj : j < n
  · rw [boolCells_get hj]
    by_cases e : i = j
    · subst e; rw [if_pos rfl, if_pos (by rw [boolCells_len]; exact h), boolCells, List.getElem?_map, List.getElem?_range hj]; simp [upd]
    · rw [if_neg e, boolCells_get hj, upd_ne (fun e' => e e'.symm)]
  · have : ¬ i = j := by omega
    rw [if_neg this, List.getElem?_eq_none (by rw [boolCells_len]; omega), List.getElem?_eq_none (by rw [boolCells_len]; omega)]
theorem cut_bool {n : Nat} {g : Nat → Bool} {i : Nat} (h : i < n) : cut (boolCells n g) i 1 = some [.sc (.bool (g i))] := cut_one (boolCells_get h)
theorem eq_bools (a b : Bool) : eqSV 1 1 (.sc (.bool a)) (.sc (.bool b)) = some (a == b) := rfl

/-! ### What is so of edges -/
theorem filter_pos {α : Type} {p : α → Bool} {l : List α} {i : Nat} {x : α} (h : l[i]? = some x) (hp : p x = true) : 1 ≤ (l.filter p).length := by
  have : x ∈ l.filter p := List.mem_filter.2 ⟨List.mem_of_getElem? h, hp⟩
  exact List.length_pos_of_mem this
theorem filter_only {α : Type} {p : α → Bool} : ∀ {l : List α} {i j : Nat} {x y : α}, (l.filter p).length ≤ 1 → l[i]? = some x → l[j]? = some y → p x = true → p y = true → i = j
  | [], i, j, x, y, _, h, _, _, _ => by simp at h
  | a :: l, 0, 0, x, y, _, _, _, _, _ => rfl
  | a :: l, 0, j + 1, x, y, hl, hx, hy, px, py => by
    simp at hx hy; subst hx
    rw [List.filter_cons, if_pos px, List.length_cons] at hl
    have := filter_pos hy py; omega
  | a :: l, i + 1, 0, x, y, hl, hx, hy, px, py => by
    simp at hx hy; subst hy
    rw [List.filter_cons, if_pos py, List.length_cons] at hl
    have := filter_pos hx px; omega
  | a :: l, i + 1, j + 1, x, y, hl, hx, hy, px, py => by
    have hl' : (l.filter p).length ≤ 1 := by
      rw [List.filter_cons] at hl
      split at hl
      · rw [List.length_cons] at hl; omega
      · exact hl
    exact congrArg (· + 1) (filter_only hl' (by simpa using hx) (by simpa using hy) px py)
theorem edgesTo_mem {f : FuncD} {e : EdgeD} : ∀ {n : Nat}, e ∈ f.edgesTo n → ∃ k r, k < n ∧ f.to[k]? = some r ∧ e.f = (k : Int) ∧ e.t ∈ ol r
  | 0, h => by simp [FuncD.edgesTo] at h
  | n + 1, h => by
    have e' : f.edgesTo (n + 1) = f.edgesTo n ++ edgesB n (ol (f.to.getD n none)) := by
      unfold FuncD.edgesTo; rw [List.range_succ, List.flatMap_append]; simp
    rw [e'] at h
    rcases List.mem_append.1 h with h | h
    · obtain ⟨k, r, h1, h2⟩ := edgesTo_mem h
      exact ⟨k, r, by omega, h2⟩
    · unfold edgesB at h
      obtain ⟨j, hj, rfl⟩ := List.mem_map.1 h
      have hj := List.mem_range.1 hj
      cases hr : f.to[n]? with
      | none => rw [List.getD_eq_getElem?_getD, hr] at hj; simp [ol] at hj
      | some r =>
        have e2 : ol (f.to.getD n none) = ol r := by rw [List.getD_eq_getElem?_getD, hr]; rfl
        rw [e2] at hj
        refine ⟨n, r, by omega, hr, rfl, ?_⟩
        simp only [e2]
        rw [List.getD_eq_getElem?_getD, List.getElem?_eq_getElem hj]
        exact List.getElem_mem hj
theorem FuncD.fits.edge {f : FuncD} (h : f.fits) {e : EdgeD} (he : e ∈ f.edges) : (0 ≤ e.f ∧ e.f < (f.bl.length : Int)) ∧ 1 ≤ e.t ∧ e.t < (f.bl.length : Int) := by
  obtain ⟨k, r, h1, h2, h3, h4⟩ := edgesTo_mem he
  obtain ⟨b, hb, rfl⟩ := List.mem_map.1 (List.mem_of_getElem? h2)
  have := (h.1.2.2 b hb).2 _ h4
  refine ⟨by omega, this⟩
/-- Where an edge's spot is marked. -/
def spotKey (x : EdgeD) (e : Bool) : Nat := if e = true then 2 * x.f.toNat + 1 else 2 * x.t.toNat

set_option maxHeartbeats 8000000 in
theorem t_edgeApart (f : FuncD) (hw : f.within (2 ^ 47)) : Tells 4 [f.sv] (.sc (.bool true)) := by
  have hl : f.bl.length ≤ 2 ^ 47 := hw.2.1
  obtain ⟨g, hg1, hg2⟩ := t_great18 f none hw ⟨by simp [ol], by simp [ol]⟩
  have h400 := allE_len f
  have hblen : lenSV (blksV f.blocks) = some f.bl.length := lenSV_rec _
  refine tells_fn rfl rfl rfl ?_
  rw [show f.sv = .agg [intsV f.params, blksV f.blocks] from rfl]
  repeat (first | (with_reducible refine Nx.go ?_) | ((with_reducible refine Ny.go ?_); (conv => arg 1; simp only [ev, sop, bounds, loI, hiI, fillParts, binSV, intBin, unSV, simprocAttr, ev2, ev3, ev4, recheck, wantedS, SV.same_self, Bool.and_self]); (first | (with_reducible refine Nz.go ?_) | refine Hold_some ?_)))
  refine st_tellp (awake18) ⟨_, rfl, by first | omega | decide⟩ (by first | with_reducible exact wantedS_none | (refine wantedS_some ?_; simp only [ev, sop, bounds, loI, hiI, fillParts, binSV, intBin, unSV, simprocAttr, ev2, ev3, ev4]; done)) (by simp only [ev, sop, bounds, loI, hiI, fillParts, binSV, intBin, unSV, simprocAttr, ev2, ev3, ev4] <;> rfl) (by first | rfl | simp [pures, SV.pure, *, pure_func, pure_ints, pure_blks, pure_insV, pure_rows, pure_edges, pure_edge, pure_tiles]) (by first | with_reducible exact recheck_nil | (simp only [recheck, wantedS]; simp only [ev, sop, bounds, loI, hiI, fillParts, binSV, intBin, unSV, simprocAttr, ev2, ev3, ev4]; simp only [SV.same_self, Bool.and_self])) ?_
  repeat (first | (with_reducible refine Nx.go ?_) | ((with_reducible refine Ny.go ?_); (conv => arg 1; simp only [ev, sop, bounds, loI, hiI, fillParts, binSV, intBin, unSV, simprocAttr, ev2, ev3, ev4, recheck, wantedS, SV.same_self, Bool.and_self]); (first | (with_reducible refine Nz.go ?_) | refine Hold_some ?_)))
  refine st_tellp (hg1) ⟨_, rfl, by first | omega | decide⟩ (by first | with_reducible exact wantedS_none | (refine wantedS_some ?_; simp only [ev, sop, bounds, loI, hiI, fillParts, binSV, intBin, unSV, simprocAttr, ev2, ev3, ev4]; done)) (by simp only [ev, sop, bounds, loI, hiI, fillParts, binSV, intBin, unSV, simprocAttr, ev2, ev3, ev4] <;> rfl) (by first | rfl | simp [pures, SV.pure, *, pure_func, pure_ints, pure_blks, pure_insV, pure_rows, pure_edges, pure_edge, pure_tiles]) (by first | with_reducible exact recheck_nil | (simp only [recheck, wantedS]; simp only [ev, sop, bounds, loI, hiI, fillParts, binSV, intBin, unSV, simprocAttr, ev2, ev3, ev4]; simp only [SV.same_self, Bool.and_self])) ?_
  cases g with
  | true =>
    repeat (first | (with_reducible refine Nx.go ?_) | ((with_reducible refine Ny.go ?_); (conv => arg 1; simp only [ev, sop, bounds, loI, hiI, fillParts, binSV, intBin, unSV, simprocAttr, ev2, ev3, ev4, recheck, wantedS, SV.same_self, Bool.and_self]); (first | (with_reducible refine Nz.go ?_) | refine Hold_some ?_)))
    (refine Hold1_of ?_; (conv => arg 1; simp only [ev, sop, bounds, loI, hiI, fillParts, binSV, intBin, unSV, simprocAttr, ev2, ev3, ev4, resultsSV, resMany, resOne]); refine Hold1_some ?_)
    exact frz_of_pure rfl
  | false =>
  repeat (first | (with_reducible refine Nx.go ?_) | ((with_reducible refine Ny.go ?_); (conv => arg 1; simp only [ev, sop, bounds, loI, hiI, fillParts, binSV, intBin, unSV, simprocAttr, ev2, ev3, ev4, recheck, wantedS, SV.same_self, Bool.and_self]); (first | (with_reducible refine Nz.go ?_) | refine Hold_some ?_)))
  refine st_tellp (t_All f hl) ⟨_, rfl, by first | omega | decide⟩ (by first | with_reducible exact wantedS_none | (refine wantedS_some ?_; simp only [ev, sop, bounds, loI, hiI, fillParts, binSV, intBin, unSV, simprocAttr, ev2, ev3, ev4]; done)) (by simp only [ev, sop, bounds, loI, hiI, fillParts, binSV, intBin, unSV, simprocAttr, ev2, ev3, ev4] <;> rfl) (by first | rfl | simp [pures, SV.pure, *, pure_func, pure_ints, pure_blks, pure_insV, pure_rows, pure_edges, pure_edge, pure_tiles]) (by first | with_reducible exact recheck_nil | (simp only [recheck, wantedS]; simp only [ev, sop, bounds, loI, hiI, fillParts, binSV, intBin, unSV, simprocAttr, ev2, ev3, ev4]; simp only [SV.same_self, Bool.and_self])) ?_
  repeat (first | (with_reducible refine Nx.go ?_) | ((with_reducible refine Ny.go ?_); (conv => arg 1; simp only [ev, sop, bounds, loI, hiI, fillParts, binSV, intBin, unSV, simprocAttr, ev2, ev3, ev4, recheck, wantedS, SV.same_self, Bool.and_self]); (first | (with_reducible refine Nz.go ?_) | refine Hold_some ?_)))
  refine st_tellp (t_Fits f hl) ⟨_, rfl, by first | omega | decide⟩ (by first | with_reducible exact wantedS_none | (refine wantedS_some ?_; simp only [ev, sop, bounds, loI, hiI, fillParts, binSV, intBin, unSV, simprocAttr, ev2, ev3, ev4]; done)) (by simp only [ev, sop, bounds, loI, hiI, fillParts, binSV, intBin, unSV, simprocAttr, ev2, ev3, ev4] <;> rfl) (by first | rfl | simp [pures, SV.pure, *, pure_func, pure_ints, pure_blks, pure_insV, pure_rows, pure_edges, pure_edge, pure_tiles]) (by first | with_reducible exact recheck_nil | (simp only [recheck, wantedS]; simp only [ev, sop, bounds, loI, hiI, fillParts, binSV, intBin, unSV, simprocAttr, ev2, ev3, ev4]; simp only [SV.same_self, Bool.and_self])) ?_
  have hal : lenSV (edgesV f.allE) = some (ol f.allE).length := lenSV_rec _
  cases hf : f.fitsB with
  | false =>
    have h0 : ((((ol f.allE).length : Nat) : Int) == 0) = true := by simp [FuncD.allE, hf, ol]
    repeat (first | (with_reducible refine Nx.go ?_) | ((with_reducible refine Ny.go ?_); (conv => arg 1; simp only [ev, sop, bounds, loI, hiI, fillParts, binSV, intBin, unSV, simprocAttr, ev2, ev3, ev4, hal, h0, recheck, wantedS, SV.same_self, Bool.and_self]); (first | (with_reducible refine Nz.go ?_) | refine Hold_some ?_)))
    (refine Hold1_of ?_; (conv => arg 1; simp only [ev, sop, bounds, loI, hiI, fillParts, binSV, intBin, unSV, simprocAttr, ev2, ev3, ev4, resultsSV, resMany, resOne]); refine Hold1_some ?_)
    exact frz_of_pure rfl
  | true =>
  have hfit := FuncD.fitsB_iff.1 hf
  have hn200 := hfit.1.2.1
  have hw1 : IntKind.i64.wrap (2 * (f.bl.length : Int)) = ((2 * f.bl.length : Nat) : Int) := by rw [i64_in _ (by omega) (by omega)]; omega
  have hmk : ((2 * f.bl.length : Nat) : Int) ≤ 1099511627776 := by omega
  have hes : ol f.allE = f.edges := by unfold FuncD.allE; rw [if_pos hf, ol_nilE]
  have hbl : (ol f.blocks).length = f.bl.length := rfl
  repeat (first | (with_reducible refine Nx.go ?_) | ((with_reducible refine Ny.go ?_); (conv => arg 1; simp only [ev, sop, bounds, loI, hiI, fillParts, binSV, intBin, unSV, simprocAttr, ev2, ev3, ev4, hal, hw1, hmk, flat_rep, boolCells_none, hbl, Int.mul_one, Int.natCast_one, recheck, wantedS, SV.same_self, Bool.and_self]); (first | (with_reducible refine Nz.go ?_) | refine Hold_some ?_)))
  rw [hes] at hal h400
  have hev : edgesV f.allE = edgesV (nilE f.edges) := by unfold FuncD.allE; rw [if_pos hf]
  -- an edge of these goes out, comes in
  have hone : ∀ (i : Nat) (x : EdgeD), f.edges[i]? = some x → f.outE x = outs f.edges x ∧ f.inE x = ins f.edges x ∧ 1 ≤ f.outE x ∧ 1 ≤ f.inE x := by
    intro i x hx
    have hm : x ∈ ol f.allE := by rw [hes]; exact List.mem_of_getElem? hx
    have e1 : f.outE x = outs f.edges x := by unfold FuncD.outE; rw [if_pos hm, hes]
    have e2 : f.inE x = ins f.edges x := by unfold FuncD.inE; rw [if_pos hm, hes]
    refine ⟨e1, e2, by rw [e1]; exact filter_pos hx (by simp), by rw [e2]; exact filter_pos hx (by simp)⟩
  refine WP_blockloop (fun m t σ => ∃ (i : Nat) (T : Nat → Bool), m = f.edges.length - i ∧ i ≤ f.edges.length ∧ getT t 1 = .ptr 0 0 ∧ getT t 3 = edgesV f.allE ∧ getT t 4 = .sl 1 0 (2 * f.bl.length) 1 ∧ getT t 5 = .sc (.int .i64 (i : Nat)) ∧
      cellsOf σ 0 = some [intsV f.params, blksV f.blocks] ∧ cellsOf σ 1 = some (boolCells (2 * f.bl.length) T) ∧
      ∀ q, T q = true → ∃ (j : Nat) (x : EdgeD), j < i ∧ f.edges[j]? = some x ∧ ((f.outE x = 1 ∧ q = spotKey x true) ∨ (f.outE x ≠ 1 ∧ f.inE x = 1 ∧ q = spotKey x false))) (k0 := f.edges.length)
    ⟨0, fun _ => false, by simp, by omega, by simp only [ev, sop, bounds, loI, hiI, fillParts, binSV, intBin, unSV, simprocAttr, ev2, ev3, ev4], by simp only [ev, sop, bounds, loI, hiI, fillParts, binSV, intBin, unSV, simprocAttr, ev2, ev3, ev4], by simp only [ev, sop, bounds, loI, hiI, fillParts, binSV, intBin, unSV, simprocAttr, ev2, ev3, ev4], by simp only [ev, sop, bounds, loI, hiI, fillParts, binSV, intBin, unSV, simprocAttr, ev2, ev3, ev4] <;> rfl, by simp only [ev, sop, bounds, loI, hiI, fillParts, binSV, intBin, unSV, simprocAttr, ev2, ev3, ev4], by simp only [ev, sop, bounds, loI, hiI, fillParts, binSV, intBin, unSV, simprocAttr, ev2, ev3, ev4], by simp⟩ ?_
  rintro m t σ ⟨i, T, rfl, hi, h1, h3, h4, h5, hc0, hc1, hT⟩
  by_cases hlt : i < f.edges.length
  rotate_left
  · have hlt' : ¬ i < f.edges.length := hlt
    have hsp : f.spot ⟨f.bl.length, 0, 0⟩ = (0, false, 2) := by
      have : f.outE ⟨f.bl.length, 0, 0⟩ = 0 := by
        unfold FuncD.outE
        rw [if_neg]
        intro hm
        rw [hes] at hm
        have := (hfit.edge hm).1.2
        simp at this
      unfold FuncD.spot; rw [if_pos this]
    have hts := t_spot f ⟨f.bl.length, 0, 0⟩ hl
    rw [hsp] at hts
    repeat (first | (with_reducible refine Nx.go ?_) | ((with_reducible refine Ny.go ?_); (conv => arg 1; simp only [ev, sop, bounds, loI, hiI, fillParts, binSV, intBin, unSV, simprocAttr, ev2, ev3, ev4, h1, h3, h4, h5, hes, hlt', hc0, hbl, recheck, wantedS, SV.same_self, Bool.and_self]); (first | (with_reducible refine Nz.go ?_) | refine Hold_some ?_)))
    refine st_tellp (hts) ⟨_, rfl, by first | omega | decide⟩ (by first | with_reducible exact wantedS_none | (refine wantedS_some ?_; simp only [ev, sop, bounds, loI, hiI, fillParts, binSV, intBin, unSV, simprocAttr, ev2, ev3, ev4, h1, hc0, hbl]; done)) (by simp only [ev, sop, bounds, loI, hiI, fillParts, binSV, intBin, unSV, simprocAttr, ev2, ev3, ev4, h1, hc0, hbl] <;> rfl) (by first | rfl | simp [pures, SV.pure, *, pure_func, pure_ints, pure_blks, pure_insV, pure_rows, pure_edges, pure_edge, pure_tiles]) (by first | with_reducible exact recheck_nil | (simp only [recheck, wantedS]; simp only [ev, sop, bounds, loI, hiI, fillParts, binSV, intBin, unSV, simprocAttr, ev2, ev3, ev4, h1, hc0, hbl]; simp only [SV.same_self, Bool.and_self])) ?_
    repeat (first | (with_reducible refine Nx.go ?_) | ((with_reducible refine Ny.go ?_); (conv => arg 1; simp only [ev, sop, bounds, loI, hiI, fillParts, binSV, intBin, unSV, simprocAttr, ev2, ev3, ev4, h1, h3, h4, h5, hes, hlt', hc0, hbl, List.getElem?_cons_zero, List.getElem?_cons_succ, beq_self_eq_true, recheck, wantedS, SV.same_self, Bool.and_self]); (first | (with_reducible refine Nz.go ?_) | refine Hold_some ?_)))
    refine st_tellp (t_All f hl) ⟨_, rfl, by first | omega | decide⟩ (by first | with_reducible exact wantedS_none | (refine wantedS_some ?_; simp only [ev, sop, bounds, loI, hiI, fillParts, binSV, intBin, unSV, simprocAttr, ev2, ev3, ev4, h1, hc0, hbl, beq_self_eq_true]; done)) (by simp only [ev, sop, bounds, loI, hiI, fillParts, binSV, intBin, unSV, simprocAttr, ev2, ev3, ev4, h1, hc0, hbl, beq_self_eq_true] <;> rfl) (by first | rfl | simp [pures, SV.pure, *, pure_func, pure_ints, pure_blks, pure_insV, pure_rows, pure_edges, pure_edge, pure_tiles]) (by first | with_reducible exact recheck_nil | (simp only [recheck, wantedS]; simp only [ev, sop, bounds, loI, hiI, fillParts, binSV, intBin, unSV, simprocAttr, ev2, ev3, ev4, h1, hc0, hbl, beq_self_eq_true]; simp only [SV.same_self, Bool.and_self])) ?_
    refine st_tellp (t_sameEdges f.allE f.allE (by rw [hes]; omega) (by rw [hes]; omega)) ⟨_, rfl, by first | omega | decide⟩ (by first | with_reducible exact wantedS_none | (refine wantedS_some ?_; simp only [ev, sop, bounds, loI, hiI, fillParts, binSV, intBin, unSV, simprocAttr, ev2, ev3, ev4, h1, h3, hc0, hbl, beq_self_eq_true]; done)) (by simp only [ev, sop, bounds, loI, hiI, fillParts, binSV, intBin, unSV, simprocAttr, ev2, ev3, ev4, h1, h3, hc0, hbl, beq_self_eq_true] <;> rfl) (by first | rfl | simp [pures, SV.pure, *, pure_func, pure_ints, pure_blks, pure_insV, pure_rows, pure_edges, pure_edge, pure_tiles]) (by first | with_reducible exact recheck_nil | (simp only [recheck, wantedS]; simp only [ev, sop, bounds, loI, hiI, fillParts, binSV, intBin, unSV, simprocAttr, ev2, ev3, ev4, h1, h3, hc0, hbl, beq_self_eq_true]; simp only [SV.same_self, Bool.and_self])) ?_
    repeat (first | (with_reducible refine Nx.go ?_) | ((with_reducible refine Ny.go ?_); (conv => arg 1; simp only [ev, sop, bounds, loI, hiI, fillParts, binSV, intBin, unSV, simprocAttr, ev2, ev3, ev4, h1, hc0, hbl, beq_self_eq_true, recheck, wantedS, SV.same_self, Bool.and_self]); (first | (with_reducible refine Nz.go ?_) | refine Hold_some ?_)))
    (refine Hold1_of ?_; (conv => arg 1; simp only [ev, sop, bounds, loI, hiI, fillParts, binSV, intBin, unSV, simprocAttr, ev2, ev3, ev4, resultsSV, resMany, resOne]); refine Hold1_some ?_)
    simp [frz, SV.pure]
  obtain ⟨x, hx⟩ := get_of_lt hlt
  obtain ⟨ho, hin, ho1, hi1⟩ := hone i x hx
  obtain ⟨⟨hf0, hfn⟩, ht1, htn⟩ := hfit.edge (List.mem_of_getElem? hx)
  have hes2 : i < (ol f.allE).length := by rw [hes]; exact hlt
  have hv3 := edges_of_lt hes2
  rw [hes] at hv3
  have hcx := cut_edge hx
  have hw5 : IntKind.i64.wrap ((i : Int) + 1) = ((i + 1 : Nat) : Int) := by rw [i64_in _ (by omega) (by omega)]; rfl
  have hts := t_spot f x hl
  have htc := t_critical f x hl
  obtain ⟨b, hb⟩ := Int.eq_ofNat_of_zero_le hf0
  obtain ⟨c, hc⟩ := Int.eq_ofNat_of_zero_le (show 0 ≤ x.t by omega)
  by_cases hcrit : f.outE x ≠ 1 ∧ f.inE x ≠ 1
  · have hsp : f.spot x = (0, false, 5) := by unfold FuncD.spot; rw [if_neg (by omega), if_neg hcrit.1, if_neg hcrit.2]
    rw [hsp] at hts
    rw [decide_eq_true (show 1 < f.outE x ∧ 1 < f.inE x by omega)] at htc
    have k1 : ((5 : Int) != 0) = true := by decide
    have k2 : ((5 : Int) != 5) = false := by decide
    have k3 : (!(true == true)) = false := rfl
    repeat (first | (with_reducible refine Nx.go ?_) | ((with_reducible refine Ny.go ?_); (conv => arg 1; simp only [ev, sop, bounds, loI, hiI, fillParts, binSV, intBin, unSV, simprocAttr, ev2, ev3, ev4, h1, h3, h4, h5, hes, hv3, hlt, hcx, hc0, recheck, wantedS, SV.same_self, Bool.and_self]); (first | (with_reducible refine Nz.go ?_) | refine Hold_some ?_)))
    refine st_tellp (hts) ⟨_, rfl, by first | omega | decide⟩ (by first | with_reducible exact wantedS_none | (refine wantedS_some ?_; simp only [ev, sop, bounds, loI, hiI, fillParts, binSV, intBin, unSV, simprocAttr, ev2, ev3, ev4, h1, hc0]; done)) (by simp only [ev, sop, bounds, loI, hiI, fillParts, binSV, intBin, unSV, simprocAttr, ev2, ev3, ev4, h1, hc0] <;> rfl) (by first | rfl | simp [pures, SV.pure, *, pure_func, pure_ints, pure_blks, pure_insV, pure_rows, pure_edges, pure_edge, pure_tiles]) (by first | with_reducible exact recheck_nil | (simp only [recheck, wantedS]; simp only [ev, sop, bounds, loI, hiI, fillParts, binSV, intBin, unSV, simprocAttr, ev2, ev3, ev4, h1, hc0]; simp only [SV.same_self, Bool.and_self])) ?_
    repeat (first | (with_reducible refine Nx.go ?_) | ((with_reducible refine Ny.go ?_); (conv => arg 1; simp only [ev, sop, bounds, loI, hiI, fillParts, binSV, intBin, unSV, simprocAttr, ev2, ev3, ev4, h1, h3, h4, h5, hes, hv3, hlt, hcx, hc0, List.getElem?_cons_zero, List.getElem?_cons_succ, k1, recheck, wantedS, SV.same_self, Bool.and_self]); (first | (with_reducible refine Nz.go ?_) | refine Hold_some ?_)))
    refine st_tellp (htc) ⟨_, rfl, by first | omega | decide⟩ (by first | with_reducible exact wantedS_none | (refine wantedS_some ?_; simp only [ev, sop, bounds, loI, hiI, fillParts, binSV, intBin, unSV, simprocAttr, ev2, ev3, ev4, h1, hc0]; done)) (by simp only [ev, sop, bounds, loI, hiI, fillParts, binSV, intBin, unSV, simprocAttr, ev2, ev3, ev4, h1, hc0] <;> rfl) (by first | rfl | simp [pures, SV.pure, *, pure_func, pure_ints, pure_blks, pure_insV, pure_rows, pure_edges, pure_edge, pure_tiles]) (by first | with_reducible exact recheck_nil | (simp only [recheck, wantedS]; simp only [ev, sop, bounds, loI, hiI, fillParts, binSV, intBin, unSV, simprocAttr, ev2, ev3, ev4, h1, hc0]; simp only [SV.same_self, Bool.and_self])) ?_
    repeat (first | (with_reducible refine Nx.go ?_) | ((with_reducible refine Ny.go ?_); (conv => arg 1; simp only [ev, sop, bounds, loI, hiI, fillParts, binSV, intBin, unSV, simprocAttr, ev2, ev3, ev4, h1, h3, h4, h5, hes, hv3, hlt, hcx, hc0, List.getElem?_cons_zero, List.getElem?_cons_succ, k1, k2, k3, eq_bools, hw5, recheck, wantedS, SV.same_self, Bool.and_self]); (first | (with_reducible refine Nz.go ?_) | refine Hold_some ?_)))
    refine ⟨_, by omega, i + 1, T, rfl, by omega, by simp only [ev, sop, bounds, loI, hiI, fillParts, binSV, intBin, unSV, simprocAttr, ev2, ev3, ev4, h1], by simp only [ev, sop, bounds, loI, hiI, fillParts, binSV, intBin, unSV, simprocAttr, ev2, ev3, ev4, h3], by simp only [ev, sop, bounds, loI, hiI, fillParts, binSV, intBin, unSV, simprocAttr, ev2, ev3, ev4, h4], by simp only [ev, sop, bounds, loI, hiI, fillParts, binSV, intBin, unSV, simprocAttr, ev2, ev3, ev4], hc0, hc1, fun q hq => ?_⟩
    obtain ⟨j, y, g1, g2⟩ := hT q hq
    exact ⟨j, y, by omega, g2⟩
  by_cases h1e : f.outE x = 1
  · have hsp : f.spot x = (x.f, true, 0) := by unfold FuncD.spot; rw [if_neg (by omega), if_pos h1e]
    rw [hsp] at hts
    rw [decide_eq_false (show ¬ (1 < f.outE x ∧ 1 < f.inE x) by omega)] at htc
    have k1 : ((0 : Int) != 0) = false := by decide
    have k3 : (!(false == false)) = false := rfl
    have k4 : (x.f != x.f) = false := by simp
    have hK : spotKey x true = (2 * b + 1) := by simp [spotKey, hb]
    have hkey : (2 * b + 1) < 2 * f.bl.length := by omega
    have k5 : IntKind.i64.wrap (2 * x.f) = ((2 * b : Nat) : Int) := by rw [i64_in _ (by omega) (by omega)]; omega
    have k6 : IntKind.i64.wrap (((2 * b : Nat) : Int) + 1) = ((2 * b + 1 : Nat) : Int) := by rw [i64_in _ (by omega) (by omega)]; rfl
    have hc2x := cut_edge2 hx
    have hc0x := cut_edge0 hx
    have kc := cut_bool (g := T) hkey
    have kT : T (2 * b + 1) = false := by
      cases hTk : T (2 * b + 1) with
      | false => rfl
      | true =>
        obtain ⟨j, y, g1, g2, g3⟩ := hT _ hTk
        exfalso
        obtain ⟨⟨gf0, gfn⟩, gt1, gtn⟩ := hfit.edge (List.mem_of_getElem? g2)
        rcases g3 with ⟨g3, g4⟩ | ⟨g3, g5, g4⟩
        · simp only [spotKey, if_true] at g4
          have e : y.f = x.f := by omega
          have := filter_only (p := fun z => decide (z.f = x.f)) (by rw [h1e] at ho; unfold outs at ho; omega) g2 hx (by simp [e]) (by simp)
          omega
        · simp only [spotKey, Bool.false_eq_true, if_false] at g4
          omega
    rw [kT] at kc
    have hkey' : (2 * b + 1) + 1 ≤ 2 * f.bl.length := hkey
    repeat (first | (with_reducible refine Nx.go ?_) | ((with_reducible refine Ny.go ?_); (conv => arg 1; simp only [ev, sop, bounds, loI, hiI, fillParts, binSV, intBin, unSV, simprocAttr, ev2, ev3, ev4, h1, h3, h4, h5, hes, hv3, hlt, hcx, hc0, recheck, wantedS, SV.same_self, Bool.and_self]); (first | (with_reducible refine Nz.go ?_) | refine Hold_some ?_)))
    refine st_tellp (hts) ⟨_, rfl, by first | omega | decide⟩ (by first | with_reducible exact wantedS_none | (refine wantedS_some ?_; simp only [ev, sop, bounds, loI, hiI, fillParts, binSV, intBin, unSV, simprocAttr, ev2, ev3, ev4, h1, hc0]; done)) (by simp only [ev, sop, bounds, loI, hiI, fillParts, binSV, intBin, unSV, simprocAttr, ev2, ev3, ev4, h1, hc0] <;> rfl) (by first | rfl | simp [pures, SV.pure, *, pure_func, pure_ints, pure_blks, pure_insV, pure_rows, pure_edges, pure_edge, pure_tiles]) (by first | with_reducible exact recheck_nil | (simp only [recheck, wantedS]; simp only [ev, sop, bounds, loI, hiI, fillParts, binSV, intBin, unSV, simprocAttr, ev2, ev3, ev4, h1, hc0]; simp only [SV.same_self, Bool.and_self])) ?_
    repeat (first | (with_reducible refine Nx.go ?_) | ((with_reducible refine Ny.go ?_); (conv => arg 1; simp only [ev, sop, bounds, loI, hiI, fillParts, binSV, intBin, unSV, simprocAttr, ev2, ev3, ev4, h1, h3, h4, h5, hes, hv3, hlt, hcx, hc0, List.getElem?_cons_zero, List.getElem?_cons_succ, k1, recheck, wantedS, SV.same_self, Bool.and_self]); (first | (with_reducible refine Nz.go ?_) | refine Hold_some ?_)))
    refine st_tellp (htc) ⟨_, rfl, by first | omega | decide⟩ (by first | with_reducible exact wantedS_none | (refine wantedS_some ?_; simp only [ev, sop, bounds, loI, hiI, fillParts, binSV, intBin, unSV, simprocAttr, ev2, ev3, ev4, h1, hc0]; done)) (by simp only [ev, sop, bounds, loI, hiI, fillParts, binSV, intBin, unSV, simprocAttr, ev2, ev3, ev4, h1, hc0] <;> rfl) (by first | rfl | simp [pures, SV.pure, *, pure_func, pure_ints, pure_blks, pure_insV, pure_rows, pure_edges, pure_edge, pure_tiles]) (by first | with_reducible exact recheck_nil | (simp only [recheck, wantedS]; simp only [ev, sop, bounds, loI, hiI, fillParts, binSV, intBin, unSV, simprocAttr, ev2, ev3, ev4, h1, hc0]; simp only [SV.same_self, Bool.and_self])) ?_
    repeat (first | (with_reducible refine Nx.go ?_) | ((with_reducible refine Ny.go ?_); (conv => arg 1; simp only [ev, sop, bounds, loI, hiI, fillParts, binSV, intBin, unSV, simprocAttr, ev2, ev3, ev4, h1, h3, h4, h5, hes, hv3, hlt, hcx, hc0, hc1, List.getElem?_cons_zero, List.getElem?_cons_succ, k1, k3, k4, k5, k6, eq_bools, hc0x, hc2x, kc, hkey, hkey', boolCells_len, boolCells_set hkey, recheck, wantedS, SV.same_self, Bool.and_self]); (first | (with_reducible refine Nz.go ?_) | refine Hold_some ?_)))
    refine WP_blockloop (fun m t σ' => ∃ j : Nat, m = f.edges.length - j ∧ j ≤ f.edges.length ∧ getT t 1 = .ptr 0 0 ∧ getT t 3 = edgesV f.allE ∧ getT t 4 = .sl 1 0 (2 * f.bl.length) 1 ∧ getT t 5 = .sc (.int .i64 (i : Nat)) ∧ getT t 6 = .sc (.int .i64 x.f) ∧ getT t 7 = .sc (.bool true) ∧ getT t 10 = .sc (.int .i64 (j : Nat)) ∧
      cellsOf σ' 0 = some [intsV f.params, blksV f.blocks] ∧ cellsOf σ' 1 = some (boolCells (2 * f.bl.length) (upd T (2 * b + 1)))) (k0 := f.edges.length) ⟨0, by simp, by omega, by simp only [ev, sop, bounds, loI, hiI, fillParts, binSV, intBin, unSV, simprocAttr, ev2, ev3, ev4, h1], by simp only [ev, sop, bounds, loI, hiI, fillParts, binSV, intBin, unSV, simprocAttr, ev2, ev3, ev4, h3], by simp only [ev, sop, bounds, loI, hiI, fillParts, binSV, intBin, unSV, simprocAttr, ev2, ev3, ev4, h4], by simp only [ev, sop, bounds, loI, hiI, fillParts, binSV, intBin, unSV, simprocAttr, ev2, ev3, ev4, h5], by simp only [ev, sop, bounds, loI, hiI, fillParts, binSV, intBin, unSV, simprocAttr, ev2, ev3, ev4], by simp only [ev, sop, bounds, loI, hiI, fillParts, binSV, intBin, unSV, simprocAttr, ev2, ev3, ev4], by simp only [ev, sop, bounds, loI, hiI, fillParts, binSV, intBin, unSV, simprocAttr, ev2, ev3, ev4] <;> rfl, by simp (disch := first | omega | (simp only [nx_push, nx_set]; done) | (simp only [nx_push, nx_set]; omega)) only [cells_push_ne, cells_push_eq, cells_set_ne, cells_set_eq, hc0], by simp (disch := first | omega | (simp only [nx_push, nx_set]; done) | (simp only [nx_push, nx_set]; omega)) only [cells_push_ne, cells_push_eq, cells_set_ne, cells_set_eq]⟩ ?_
    clear h1 h3 h4 h5 hc0 hc1
    rintro m t σ' ⟨j, rfl, hj, h1, h3, h4, h5, h6, h7, h10, hc0, hc1⟩
    have hw6 : IntKind.i64.wrap ((j : Int) + 1) = ((j + 1 : Nat) : Int) := by rw [i64_in _ (by omega) (by omega)]; rfl
    by_cases hjl : j < f.edges.length
    rotate_left
    · repeat (first | (with_reducible refine Nx.go ?_) | ((with_reducible refine Ny.go ?_); (conv => arg 1; simp only [ev, sop, bounds, loI, hiI, fillParts, binSV, intBin, unSV, simprocAttr, ev2, ev3, ev4, h1, h3, h4, h5, h10, hes, hjl, hw5, recheck, wantedS, SV.same_self, Bool.and_self]); (first | (with_reducible refine Nz.go ?_) | refine Hold_some ?_)))
      refine ⟨_, by omega, i + 1, upd T (2 * b + 1), rfl, by omega, by simp only [ev, sop, bounds, loI, hiI, fillParts, binSV, intBin, unSV, simprocAttr, ev2, ev3, ev4, h1], by simp only [ev, sop, bounds, loI, hiI, fillParts, binSV, intBin, unSV, simprocAttr, ev2, ev3, ev4, h3], by simp only [ev, sop, bounds, loI, hiI, fillParts, binSV, intBin, unSV, simprocAttr, ev2, ev3, ev4, h4], by simp only [ev, sop, bounds, loI, hiI, fillParts, binSV, intBin, unSV, simprocAttr, ev2, ev3, ev4], hc0, hc1, fun q hq => ?_⟩
      by_cases hq2 : q = (2 * b + 1)
      · exact ⟨i, x, by omega, hx, .inl ⟨h1e, by rw [hK]; exact hq2⟩⟩
      · rw [upd_ne hq2] at hq
        obtain ⟨j, y, g1, g2⟩ := hT q hq
        exact ⟨j, y, by omega, g2⟩
    obtain ⟨y, hy⟩ := get_of_lt hjl
    have hcy := cut_edge0 hy
    rw [hv3] at h3
    by_cases hji : j = i
    · have k7 : ((j : Int) != (i : Int)) = false := by simp [hji]
      repeat (first | (with_reducible refine Nx.go ?_) | ((with_reducible refine Ny.go ?_); (conv => arg 1; simp only [ev, sop, bounds, loI, hiI, fillParts, binSV, intBin, unSV, simprocAttr, ev2, ev3, ev4, h1, h3, h4, h5, h6, h7, h10, hjl, hcy, k7, hw6, recheck, wantedS, SV.same_self, Bool.and_self]); (first | (with_reducible refine Nz.go ?_) | refine Hold_some ?_)))
      refine ⟨_, by omega, j + 1, rfl, by omega, by simp only [ev, sop, bounds, loI, hiI, fillParts, binSV, intBin, unSV, simprocAttr, ev2, ev3, ev4, h1], by simp only [ev, sop, bounds, loI, hiI, fillParts, binSV, intBin, unSV, simprocAttr, ev2, ev3, ev4, h3]; rw [hv3], by simp only [ev, sop, bounds, loI, hiI, fillParts, binSV, intBin, unSV, simprocAttr, ev2, ev3, ev4, h4], by simp only [ev, sop, bounds, loI, hiI, fillParts, binSV, intBin, unSV, simprocAttr, ev2, ev3, ev4, h5], by simp only [ev, sop, bounds, loI, hiI, fillParts, binSV, intBin, unSV, simprocAttr, ev2, ev3, ev4, h6], by simp only [ev, sop, bounds, loI, hiI, fillParts, binSV, intBin, unSV, simprocAttr, ev2, ev3, ev4, h7], by simp only [ev, sop, bounds, loI, hiI, fillParts, binSV, intBin, unSV, simprocAttr, ev2, ev3, ev4], hc0, hc1⟩
    · have k7 : ((j : Int) != (i : Int)) = true := by simp; omega
      have k8 : (y.f == x.f) = false := by
        rw [beq_eq_false_iff_ne]
        intro e
        exact hji (filter_only (p := fun z => decide (z.f = x.f)) (by rw [h1e] at ho; unfold outs at ho; omega) hy hx (by simp [e]) (by simp))
      repeat (first | (with_reducible refine Nx.go ?_) | ((with_reducible refine Ny.go ?_); (conv => arg 1; simp only [ev, sop, bounds, loI, hiI, fillParts, binSV, intBin, unSV, simprocAttr, ev2, ev3, ev4, h1, h3, h4, h5, h6, h7, h10, hjl, hcy, k7, k8, hw6, recheck, wantedS, SV.same_self, Bool.and_self]); (first | (with_reducible refine Nz.go ?_) | refine Hold_some ?_)))
      refine ⟨_, by omega, j + 1, rfl, by omega, by simp only [ev, sop, bounds, loI, hiI, fillParts, binSV, intBin, unSV, simprocAttr, ev2, ev3, ev4, h1], by simp only [ev, sop, bounds, loI, hiI, fillParts, binSV, intBin, unSV, simprocAttr, ev2, ev3, ev4, h3]; rw [hv3], by simp only [ev, sop, bounds, loI, hiI, fillParts, binSV, intBin, unSV, simprocAttr, ev2, ev3, ev4, h4], by simp only [ev, sop, bounds, loI, hiI, fillParts, binSV, intBin, unSV, simprocAttr, ev2, ev3, ev4, h5], by simp only [ev, sop, bounds, loI, hiI, fillParts, binSV, intBin, unSV, simprocAttr, ev2, ev3, ev4, h6], by simp only [ev, sop, bounds, loI, hiI, fillParts, binSV, intBin, unSV, simprocAttr, ev2, ev3, ev4, h7], by simp only [ev, sop, bounds, loI, hiI, fillParts, binSV, intBin, unSV, simprocAttr, ev2, ev3, ev4], hc0, hc1⟩
  · have h2e : f.inE x = 1 := by omega
    have hsp : f.spot x = (x.t, false, 0) := by unfold FuncD.spot; rw [if_neg (by omega), if_neg h1e, if_pos h2e]
    rw [hsp] at hts
    rw [decide_eq_false (show ¬ (1 < f.outE x ∧ 1 < f.inE x) by omega)] at htc
    have k1 : ((0 : Int) != 0) = false := by decide
    have k3 : (!(false == false)) = false := rfl
    have k4 : (x.t != x.t) = false := by simp
    have hK : spotKey x false = (2 * c) := by simp [spotKey, hc]
    have hkey : (2 * c) < 2 * f.bl.length := by omega
    have k5 : IntKind.i64.wrap (2 * x.t) = ((2 * c : Nat) : Int) := by rw [i64_in _ (by omega) (by omega)]; omega
    have k6 : IntKind.i64.wrap (((2 * c : Nat) : Int) + 1) = ((2 * c + 1 : Nat) : Int) := by rw [i64_in _ (by omega) (by omega)]; rfl
    have hc2x := cut_edge2 hx
    have hc0x := cut_edge0 hx
    have kc := cut_bool (g := T) hkey
    have kT : T (2 * c) = false := by
      cases hTk : T (2 * c) with
      | false => rfl
      | true =>
        obtain ⟨j, y, g1, g2, g3⟩ := hT _ hTk
        exfalso
        obtain ⟨⟨gf0, gfn⟩, gt1, gtn⟩ := hfit.edge (List.mem_of_getElem? g2)
        rcases g3 with ⟨g3, g4⟩ | ⟨g3, g5, g4⟩
        · simp only [spotKey, if_true] at g4
          omega
        · simp only [spotKey, Bool.false_eq_true, if_false] at g4
          have e : y.t = x.t := by omega
          have := filter_only (p := fun z => decide (z.t = x.t)) (by rw [h2e] at hin; unfold ins at hin; omega) g2 hx (by simp [e]) (by simp)
          omega
    rw [kT] at kc
    have hkey' : (2 * c) + 1 ≤ 2 * f.bl.length := hkey
    repeat (first | (with_reducible refine Nx.go ?_) | ((with_reducible refine Ny.go ?_); (conv => arg 1; simp only [ev, sop, bounds, loI, hiI, fillParts, binSV, intBin, unSV, simprocAttr, ev2, ev3, ev4, h1, h3, h4, h5, hes, hv3, hlt, hcx, hc0, recheck, wantedS, SV.same_self, Bool.and_self]); (first | (with_reducible refine Nz.go ?_) | refine Hold_some ?_)))
    refine st_tellp (hts) ⟨_, rfl, by first | omega | decide⟩ (by first | with_reducible exact wantedS_none | (refine wantedS_some ?_; simp only [ev, sop, bounds, loI, hiI, fillParts, binSV, intBin, unSV, simprocAttr, ev2, ev3, ev4, h1, hc0]; done)) (by simp only [ev, sop, bounds, loI, hiI, fillParts, binSV, intBin, unSV, simprocAttr, ev2, ev3, ev4, h1, hc0] <;> rfl) (by first | rfl | simp [pures, SV.pure, *, pure_func, pure_ints, pure_blks, pure_insV, pure_rows, pure_edges, pure_edge, pure_tiles]) (by first | with_reducible exact recheck_nil | (simp only [recheck, wantedS]; simp only [ev, sop, bounds, loI, hiI, fillParts, binSV, intBin, unSV, simprocAttr, ev2, ev3, ev4, h1, hc0]; simp only [SV.same_self, Bool.and_self])) ?_
    repeat (first | (with_reducible refine Nx.go ?_) | ((with_reducible refine Ny.go ?_); (conv => arg 1; simp only [ev, sop, bounds, loI, hiI, fillParts, binSV, intBin, unSV, simprocAttr, ev2, ev3, ev4, h1, h3, h4, h5, hes, hv3, hlt, hcx, hc0, List.getElem?_cons_zero, List.getElem?_cons_succ, k1, recheck, wantedS, SV.same_self, Bool.and_self]); (first | (with_reducible refine Nz.go ?_) | refine Hold_some ?_)))
    refine st_tellp (htc) ⟨_, rfl, by first | omega | decide⟩ (by first | with_reducible exact wantedS_none | (refine wantedS_some ?_; simp only [ev, sop, bounds, loI, hiI, fillParts, binSV, intBin, unSV, simprocAttr, ev2, ev3, ev4, h1, hc0]; done)) (by simp only [ev, sop, bounds, loI, hiI, fillParts, binSV, intBin, unSV, simprocAttr, ev2, ev3, ev4, h1, hc0] <;> rfl) (by first | rfl | simp [pures, SV.pure, *, pure_func, pure_ints, pure_blks, pure_insV, pure_rows, pure_edges, pure_edge, pure_tiles]) (by first | with_reducible exact recheck_nil | (simp only [recheck, wantedS]; simp only [ev, sop, bounds, loI, hiI, fillParts, binSV, intBin, unSV, simprocAttr, ev2, ev3, ev4, h1, hc0]; simp only [SV.same_self, Bool.and_self])) ?_
    repeat (first | (with_reducible refine Nx.go ?_) | ((with_reducible refine Ny.go ?_); (conv => arg 1; simp only [ev, sop, bounds, loI, hiI, fillParts, binSV, intBin, unSV, simprocAttr, ev2, ev3, ev4, h1, h3, h4, h5, hes, hv3, hlt, hcx, hc0, hc1, List.getElem?_cons_zero, List.getElem?_cons_succ, k1, k3, k4, k5, k6, eq_bools, hc0x, hc2x, kc, hkey, hkey', boolCells_len, boolCells_set hkey, recheck, wantedS, SV.same_self, Bool.and_self]); (first | (with_reducible refine Nz.go ?_) | refine Hold_some ?_)))
    refine WP_blockloop (fun m t σ' => ∃ j : Nat, m = f.edges.length - j ∧ j ≤ f.edges.length ∧ getT t 1 = .ptr 0 0 ∧ getT t 3 = edgesV f.allE ∧ getT t 4 = .sl 1 0 (2 * f.bl.length) 1 ∧ getT t 5 = .sc (.int .i64 (i : Nat)) ∧ getT t 6 = .sc (.int .i64 x.t) ∧ getT t 7 = .sc (.bool false) ∧ getT t 10 = .sc (.int .i64 (j : Nat)) ∧
      cellsOf σ' 0 = some [intsV f.params, blksV f.blocks] ∧ cellsOf σ' 1 = some (boolCells (2 * f.bl.length) (upd T (2 * c)))) (k0 := f.edges.length) ⟨0, by simp, by omega, by simp only [ev, sop, bounds, loI, hiI, fillParts, binSV, intBin, unSV, simprocAttr, ev2, ev3, ev4, h1], by simp only [ev, sop, bounds, loI, hiI, fillParts, binSV, intBin, unSV, simprocAttr, ev2, ev3, ev4, h3], by simp only [ev, sop, bounds, loI, hiI, fillParts, binSV, intBin, unSV, simprocAttr, ev2, ev3, ev4, h4], by simp only [ev, sop, bounds, loI, hiI, fillParts, binSV, intBin, unSV, simprocAttr, ev2, ev3, ev4, h5], by simp only [ev, sop, bounds, loI, hiI, fillParts, binSV, intBin, unSV, simprocAttr, ev2, ev3, ev4], by simp only [ev, sop, bounds, loI, hiI, fillParts, binSV, intBin, unSV, simprocAttr, ev2, ev3, ev4], by simp only [ev, sop, bounds, loI, hiI, fillParts, binSV, intBin, unSV, simprocAttr, ev2, ev3, ev4] <;> rfl, by simp (disch := first | omega | (simp only [nx_push, nx_set]; done) | (simp only [nx_push, nx_set]; omega)) only [cells_push_ne, cells_push_eq, cells_set_ne, cells_set_eq, hc0], by simp (disch := first | omega | (simp only [nx_push, nx_set]; done) | (simp only [nx_push, nx_set]; omega)) only [cells_push_ne, cells_push_eq, cells_set_ne, cells_set_eq]⟩ ?_
    clear h1 h3 h4 h5 hc0 hc1
    rintro m t σ' ⟨j, rfl, hj, h1, h3, h4, h5, h6, h7, h10, hc0, hc1⟩
    have hw6 : IntKind.i64.wrap ((j : Int) + 1) = ((j + 1 : Nat) : Int) := by rw [i64_in _ (by omega) (by omega)]; rfl
    by_cases hjl : j < f.edges.length
    rotate_left
    · repeat (first | (with_reducible refine Nx.go ?_) | ((with_reducible refine Ny.go ?_); (conv => arg 1; simp only [ev, sop, bounds, loI, hiI, fillParts, binSV, intBin, unSV, simprocAttr, ev2, ev3, ev4, h1, h3, h4, h5, h10, hes, hjl, hw5, recheck, wantedS, SV.same_self, Bool.and_self]); (first | (with_reducible refine Nz.go ?_) | refine Hold_some ?_)))
      refine ⟨_, by omega, i + 1, upd T (2 * c), rfl, by omega, by simp only [ev, sop, bounds, loI, hiI, fillParts, binSV, intBin, unSV, simprocAttr, ev2, ev3, ev4, h1], by simp only [ev, sop, bounds, loI, hiI, fillParts, binSV, intBin, unSV, simprocAttr, ev2, ev3, ev4, h3], by simp only [ev, sop, bounds, loI, hiI, fillParts, binSV, intBin, unSV, simprocAttr, ev2, ev3, ev4, h4], by simp only [ev, sop, bounds, loI, hiI, fillParts, binSV, intBin, unSV, simprocAttr, ev2, ev3, ev4], hc0, hc1, fun q hq => ?_⟩
      by_cases hq2 : q = (2 * c)
      · exact ⟨i, x, by omega, hx, .inr ⟨h1e, h2e, by rw [hK]; exact hq2⟩⟩
      · rw [upd_ne hq2] at hq
        obtain ⟨j, y, g1, g2⟩ := hT q hq
        exact ⟨j, y, by omega, g2⟩
    obtain ⟨y, hy⟩ := get_of_lt hjl
    have hcy := cut_edge2 hy
    rw [hv3] at h3
    by_cases hji : j = i
    · have k7 : ((j : Int) != (i : Int)) = false := by simp [hji]
      repeat (first | (with_reducible refine Nx.go ?_) | ((with_reducible refine Ny.go ?_); (conv => arg 1; simp only [ev, sop, bounds, loI, hiI, fillParts, binSV, intBin, unSV, simprocAttr, ev2, ev3, ev4, h1, h3, h4, h5, h6, h7, h10, hjl, hcy, k7, hw6, recheck, wantedS, SV.same_self, Bool.and_self]); (first | (with_reducible refine Nz.go ?_) | refine Hold_some ?_)))
      refine ⟨_, by omega, j + 1, rfl, by omega, by simp only [ev, sop, bounds, loI, hiI, fillParts, binSV, intBin, unSV, simprocAttr, ev2, ev3, ev4, h1], by simp only [ev, sop, bounds, loI, hiI, fillParts, binSV, intBin, unSV, simprocAttr, ev2, ev3, ev4, h3]; rw [hv3], by simp only [ev, sop, bounds, loI, hiI, fillParts, binSV, intBin, unSV, simprocAttr, ev2, ev3, ev4, h4], by simp only [ev, sop, bounds, loI, hiI, fillParts, binSV, intBin, unSV, simprocAttr, ev2, ev3, ev4, h5], by simp only [ev, sop, bounds, loI, hiI, fillParts, binSV, intBin, unSV, simprocAttr, ev2, ev3, ev4, h6], by simp only [ev, sop, bounds, loI, hiI, fillParts, binSV, intBin, unSV, simprocAttr, ev2, ev3, ev4, h7], by simp only [ev, sop, bounds, loI, hiI, fillParts, binSV, intBin, unSV, simprocAttr, ev2, ev3, ev4], hc0, hc1⟩
    · have k7 : ((j : Int) != (i : Int)) = true := by simp; omega
      have k8 : (y.t == x.t) = false := by
        rw [beq_eq_false_iff_ne]
        intro e
        exact hji (filter_only (p := fun z => decide (z.t = x.t)) (by rw [h2e] at hin; unfold ins at hin; omega) hy hx (by simp [e]) (by simp))
      repeat (first | (with_reducible refine Nx.go ?_) | ((with_reducible refine Ny.go ?_); (conv => arg 1; simp only [ev, sop, bounds, loI, hiI, fillParts, binSV, intBin, unSV, simprocAttr, ev2, ev3, ev4, h1, h3, h4, h5, h6, h7, h10, hjl, hcy, k7, k8, hw6, recheck, wantedS, SV.same_self, Bool.and_self]); (first | (with_reducible refine Nz.go ?_) | refine Hold_some ?_)))
      refine ⟨_, by omega, j + 1, rfl, by omega, by simp only [ev, sop, bounds, loI, hiI, fillParts, binSV, intBin, unSV, simprocAttr, ev2, ev3, ev4, h1], by simp only [ev, sop, bounds, loI, hiI, fillParts, binSV, intBin, unSV, simprocAttr, ev2, ev3, ev4, h3]; rw [hv3], by simp only [ev, sop, bounds, loI, hiI, fillParts, binSV, intBin, unSV, simprocAttr, ev2, ev3, ev4, h4], by simp only [ev, sop, bounds, loI, hiI, fillParts, binSV, intBin, unSV, simprocAttr, ev2, ev3, ev4, h5], by simp only [ev, sop, bounds, loI, hiI, fillParts, binSV, intBin, unSV, simprocAttr, ev2, ev3, ev4, h6], by simp only [ev, sop, bounds, loI, hiI, fillParts, binSV, intBin, unSV, simprocAttr, ev2, ev3, ev4, h7], by simp only [ev, sop, bounds, loI, hiI, fillParts, binSV, intBin, unSV, simprocAttr, ev2, ev3, ev4], hc0, hc1⟩
end Go.Proofs.Ytojjhcgbbmknmaa.Sh
