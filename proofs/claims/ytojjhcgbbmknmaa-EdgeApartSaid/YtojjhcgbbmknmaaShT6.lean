/- All edges of a function, gone through. -/
import Derived.Test.YtojjhcgbbmknmaaShIt
namespace Go.Proofs.Ytojjhcgbbmknmaa.Sh
set_option linter.unusedSimpArgs false
set_option linter.unusedVariables false
open Go Go.Proofs

structure EdgeD where
  f : Int
  a : Int
  t : Int
  deriving DecidableEq
def EdgeD.cells (e : EdgeD) : List SV := [.sc (.int .i64 e.f), .sc (.int .i64 e.a), .sc (.int .i64 e.t)]
def EdgeD.sv (e : EdgeD) : SV := .agg e.cells
/-- The edges out of a block. -/
def edgesB (k : Nat) (l : List Int) : List EdgeD := (List.range l.length).map fun j : Nat => ⟨(k : Int), (j : Int), l.getD j 0⟩
def FuncD.edgesTo (f : FuncD) (n : Nat) : List EdgeD := (List.range n).flatMap fun k => edgesB k (ol (f.to.getD k none))
def FuncD.edges (f : FuncD) : List EdgeD := f.edgesTo f.bl.length
theorem edgesB_len (k : Nat) (l : List Int) : (edgesB k l).length = l.length := by simp [edgesB]
theorem edgesB_get {k : Nat} {l : List Int} {j : Nat} {y : Int} (h : l[j]? = some y) : (edgesB k l)[j]? = some ⟨k, j, y⟩ := by
  have hj : j < l.length := (List.getElem?_eq_some_iff.1 h).1
  simp only [edgesB, List.getElem?_map, List.getElem?_range hj, Option.map_some, List.getD_eq_getElem?_getD, h, Option.getD_some]
theorem FuncD.edgesTo_succ (f : FuncD) {k : Nat} {b : BlkD} (h : f.bl[k]? = some b) : f.edgesTo (k + 1) = f.edgesTo k ++ edgesB k (ol b.term.to) := by
  unfold FuncD.edgesTo
  rw [List.range_succ, List.flatMap_append]
  simp [FuncD.to, h]
theorem FuncD.edgesTo_prefix (f : FuncD) {k n : Nat} (h : k ≤ n) : f.edgesTo k <+: f.edgesTo n := by
  induction n with
  | zero => rw [Nat.le_zero.1 h]; exact List.prefix_rfl
  | succ n ih =>
    by_cases e : k = n + 1
    · subst e; exact List.prefix_rfl
    · refine (ih (by omega)).trans ?_
      unfold FuncD.edgesTo
      rw [List.range_succ, List.flatMap_append]
      exact List.prefix_append _ _

set_option maxHeartbeats 2000000 in
theorem it_each (f : FuncD) (hl : f.bl.length ≤ 2 ^ 47) {m box : Nat} (hm : 5 < m) : Iter m 75 [] [.ptr box 0] (f.edges.map EdgeD.sv) (fun σ => cellsOf σ box = some f.cells) := by
  intro y J Stop σ hmono hdom hy hJ
  refine inline_fn rfl rfl rfl ?_
  have hc0 : cellsOf σ box = some [intsV f.params, blksV f.blocks] := hdom _ _ hJ
  simp only [List.nil_append, List.cons_append]
  repeat (first | (with_reducible refine Nx.go ?_) | ((with_reducible refine Ny.go ?_); (conv => arg 1; simp only [ev, sop, bounds, loI, hiI, fillParts, binSV, intBin, unSV, simprocAttr, ev2, hc0, recheck, wantedS, SV.same_self, Bool.and_self]); (first | (with_reducible refine Nz.go ?_) | refine Hold_some ?_)))
  refine WP_range (N := f.bl.length) (fun k t σ1 => getT t 0 = y ∧ getT t 8 = blksV f.blocks ∧ J ((f.edgesTo k).map EdgeD.sv) σ1) (by omega) (by simp only [ev, sop, bounds, loI, hiI, fillParts, binSV, intBin, unSV, simprocAttr, ev2]; rfl) (by simp only [ev, sop, bounds, loI, hiI, fillParts, binSV, intBin, unSV, simprocAttr, ev2]) (by decide) ⟨by simp only [ev, sop, bounds, loI, hiI, fillParts, binSV, intBin, unSV, simprocAttr, ev2], by simp only [ev, sop, bounds, loI, hiI, fillParts, binSV, intBin, unSV, simprocAttr, ev2], by simpa [FuncD.edgesTo] using hJ⟩ ?_ ?_
  · rintro k t σ1 hk h9 h10 ⟨h0, h8, hJ⟩
    obtain ⟨b, hb⟩ := get_of_lt hk
    have hv : blksV f.blocks = .lst f.bl.length 5 (f.bl.flatMap BlkD.cells) := rec_of_lt hk
    rw [hv] at h8
    have hcb := cut_flat0 (enc := BlkD.cells) (sz := 5) (fun _ => rfl) hb 5 (by omega)
    rw [show (b.cells).take 5 = b.cells from rfl, BlkD.cells] at hcb
    repeat (first | (with_reducible refine Nx.go ?_) | ((with_reducible refine Ny.go ?_); (conv => arg 1; simp only [ev, sop, bounds, loI, hiI, fillParts, binSV, intBin, unSV, simprocAttr, ev2, h8, h10, hk, hcb, recheck, wantedS, SV.same_self, Bool.and_self]); (first | (with_reducible refine Nz.go ?_) | refine Hold_some ?_)))
    refine st_tellp (t_to b.term) ⟨_, rfl, by first | omega | decide⟩ (by first | with_reducible exact wantedS_none | (refine wantedS_some ?_; simp only [ev, sop, bounds, loI, hiI, fillParts, binSV, intBin, unSV, simprocAttr, ev2]; done)) (by simp only [ev, sop, bounds, loI, hiI, fillParts, binSV, intBin, unSV, simprocAttr, ev2] <;> rfl) (by first | rfl | simp [pures, SV.pure, *, pure_func, pure_ints, pure_blks, pure_insV, pure_rows]) (by first | with_reducible exact recheck_nil | (simp only [recheck, wantedS]; simp only [ev, sop, bounds, loI, hiI, fillParts, binSV, intBin, unSV, simprocAttr, ev2]; simp only [SV.same_self, Bool.and_self])) ?_
    repeat (first | (with_reducible refine Nx.go ?_) | ((with_reducible refine Ny.go ?_); (conv => arg 1; simp only [ev, sop, bounds, loI, hiI, fillParts, binSV, intBin, unSV, simprocAttr, ev2, recheck, wantedS, SV.same_self, Bool.and_self]); (first | (with_reducible refine Nz.go ?_) | refine Hold_some ?_)))
    refine WP_range (N := (ol b.term.to).length) (fun j t σ1 => getT t 0 = y ∧ getT t 3 = .sc (.int .i64 k) ∧ getT t 8 = blksV f.blocks ∧ getT t 9 = .sc (.int .i64 f.bl.length) ∧ getT t 10 = .sc (.int .i64 k) ∧ getT t 17 = intsV b.term.to ∧
        J ((f.edgesTo k ++ (edgesB k (ol b.term.to)).take j).map EdgeD.sv) σ1) (Nat.le_trans (term_to_len b.term) (by omega)) (by simp only [ev, sop, bounds, loI, hiI, fillParts, binSV, intBin, unSV, simprocAttr, ev2]) (by simp only [ev, sop, bounds, loI, hiI, fillParts, binSV, intBin, unSV, simprocAttr, ev2]) (by decide)
      ⟨by simp only [ev, sop, bounds, loI, hiI, fillParts, binSV, intBin, unSV, simprocAttr, ev2, h0], by simp only [ev, sop, bounds, loI, hiI, fillParts, binSV, intBin, unSV, simprocAttr, ev2], by simp only [ev, sop, bounds, loI, hiI, fillParts, binSV, intBin, unSV, simprocAttr, ev2, h8]; exact hv.symm, by simp only [ev, sop, bounds, loI, hiI, fillParts, binSV, intBin, unSV, simprocAttr, ev2, h9], by simp only [ev, sop, bounds, loI, hiI, fillParts, binSV, intBin, unSV, simprocAttr, ev2, h10], by simp only [ev, sop, bounds, loI, hiI, fillParts, binSV, intBin, unSV, simprocAttr, ev2], hmono _ _ _ (by simpa using hJ) (((Keeps.refl _).push _).set _ (Nat.le_refl _))⟩ ?_ ?_
    · clear h0 h8 h9 h10 hJ
      rintro j t σ1 hj h18 h19 ⟨h0, h3, h8, h9, h10, h17, hJ⟩
      obtain ⟨x, hx⟩ := get_of_lt hj
      rw [ints_of_lt hj] at h17
      have hcx := cut_ints hx
      repeat (first | (with_reducible refine Nx.go ?_) | ((with_reducible refine Ny.go ?_); (conv => arg 1; simp only [ev, sop, bounds, loI, hiI, fillParts, binSV, intBin, unSV, simprocAttr, ev2, h17, h19, hj, hcx, h0, h3, recheck, wantedS, SV.same_self, Bool.and_self]); (first | (with_reducible refine Nz.go ?_) | refine Hold_some ?_)))
      have hpre : (f.edgesTo k ++ (edgesB k (ol b.term.to)).take j).map EdgeD.sv ++ [EdgeD.sv ⟨k, j, x⟩] = (f.edgesTo k ++ (edgesB k (ol b.term.to)).take (j + 1)).map EdgeD.sv := by
        rw [List.take_add_one, edgesB_get hx]; simp
      have hpf : (f.edgesTo k ++ (edgesB k (ol b.term.to)).take (j + 1)).map EdgeD.sv <+: f.edges.map EdgeD.sv := by
        refine List.IsPrefix.map _ (List.IsPrefix.trans ?_ (f.edgesTo_prefix (k := k + 1) (by omega)))
        rw [f.edgesTo_succ hb]
        exact (List.prefix_append_right_inj _).2 (List.take_prefix _ _)
      refine st_callv (by first | with_reducible exact wantedS_none | (refine wantedS_some ?_; simp only [ev, sop, bounds, loI, hiI, fillParts, binSV, intBin, unSV, simprocAttr, ev2, h0]; done)) (by simp only [ev, sop, bounds, loI, hiI, fillParts, binSV, intBin, unSV, simprocAttr, ev2, h0] <;> rfl) (by simp only [ev, sop, bounds, loI, hiI, fillParts, binSV, intBin, unSV, simprocAttr, ev2, h0] <;> rfl) ?_
      refine (hy _ (EdgeD.sv ⟨k, j, x⟩) σ1 (by rw [hpre]; exact hpf) hJ).mono ?_
      rintro v σ2 (⟨rfl, hJ2⟩ | ⟨rfl, hs⟩)
      · refine ⟨recheck_nil, ?_⟩
        rw [hpre] at hJ2
        repeat (first | (with_reducible refine Nx.go ?_) | ((with_reducible refine Ny.go ?_); (conv => arg 1; simp only [ev, sop, bounds, loI, hiI, fillParts, binSV, intBin, unSV, simprocAttr, ev2, recheck, wantedS, SV.same_self, Bool.and_self]); (first | (with_reducible refine Nz.go ?_) | refine Hold_some ?_)))
        refine ⟨by simp only [ev, sop, bounds, loI, hiI, fillParts, binSV, intBin, unSV, simprocAttr, ev2, h18], by simp only [ev, sop, bounds, loI, hiI, fillParts, binSV, intBin, unSV, simprocAttr, ev2, h19], fun v w => ⟨by simp only [ev, sop, bounds, loI, hiI, fillParts, binSV, intBin, unSV, simprocAttr, ev2, h0], by simp only [ev, sop, bounds, loI, hiI, fillParts, binSV, intBin, unSV, simprocAttr, ev2, h3], by simp only [ev, sop, bounds, loI, hiI, fillParts, binSV, intBin, unSV, simprocAttr, ev2, h8], by simp only [ev, sop, bounds, loI, hiI, fillParts, binSV, intBin, unSV, simprocAttr, ev2, h9], by simp only [ev, sop, bounds, loI, hiI, fillParts, binSV, intBin, unSV, simprocAttr, ev2, h10], by simp only [ev, sop, bounds, loI, hiI, fillParts, binSV, intBin, unSV, simprocAttr, ev2, h17]; exact (ints_of_lt hj).symm, hJ2⟩⟩
      · refine ⟨recheck_nil, ?_⟩
        repeat (first | (with_reducible refine Nx.go ?_) | ((with_reducible refine Ny.go ?_); (conv => arg 1; simp only [ev, sop, bounds, loI, hiI, fillParts, binSV, intBin, unSV, simprocAttr, ev2, recheck, wantedS, SV.same_self, Bool.and_self]); (first | (with_reducible refine Nz.go ?_) | refine Hold_some ?_)))
        (refine Hold1_of ?_; (conv => arg 1; simp only [ev, sop, bounds, loI, hiI, fillParts, binSV, intBin, unSV, simprocAttr, ev2, resultsSV, resMany, resOne]); refine Hold1_some ?_)
        exact .inr hs
    · rintro t σ1 ⟨h0, h3, h8, h9, h10, h17, hJ⟩
      repeat (first | (with_reducible refine Nx.go ?_) | ((with_reducible refine Ny.go ?_); (conv => arg 1; simp only [ev, sop, bounds, loI, hiI, fillParts, binSV, intBin, unSV, simprocAttr, ev2, recheck, wantedS, SV.same_self, Bool.and_self]); (first | (with_reducible refine Nz.go ?_) | refine Hold_some ?_)))
      refine ⟨by simp only [ev, sop, bounds, loI, hiI, fillParts, binSV, intBin, unSV, simprocAttr, ev2, h9], by simp only [ev, sop, bounds, loI, hiI, fillParts, binSV, intBin, unSV, simprocAttr, ev2, h10], fun v w => ⟨by simp only [ev, sop, bounds, loI, hiI, fillParts, binSV, intBin, unSV, simprocAttr, ev2, h0], by simp only [ev, sop, bounds, loI, hiI, fillParts, binSV, intBin, unSV, simprocAttr, ev2, h8], ?_⟩⟩
      rw [f.edgesTo_succ hb, ← edgesB_len k] at *
      rw [List.take_length] at hJ
      exact hJ
  · rintro t σ1 ⟨h0, h8, hJ⟩
    repeat (first | (with_reducible refine Nx.go ?_) | ((with_reducible refine Ny.go ?_); (conv => arg 1; simp only [ev, sop, bounds, loI, hiI, fillParts, binSV, intBin, unSV, simprocAttr, ev2, recheck, wantedS, SV.same_self, Bool.and_self]); (first | (with_reducible refine Nz.go ?_) | refine Hold_some ?_)))
    (refine Hold1_of ?_; (conv => arg 1; simp only [ev, sop, bounds, loI, hiI, fillParts, binSV, intBin, unSV, simprocAttr, ev2, resultsSV, resMany, resOne]); refine Hold1_some ?_)
    exact .inl hJ

set_option maxHeartbeats 2000000 in
theorem c_appendSeqE {m : Nat} {g : Nat} {first cap : List SV} {es : List EdgeD} {dom : St → Prop} {σ : St} (hit : Iter m g first cap (es.map EdgeD.sv) dom) (hdom : ∀ σ', Keeps σ σ' → dom σ') (hlen : es.length ≤ 2 ^ 30) :
    WPF (EV m) 74 [.sc .nilsl, .fn g first cap] σ (fun v σ' => Keeps σ σ' ∧ ((es = [] ∧ v = .sc .nilsl) ∨ ∃ id, es ≠ [] ∧ v = .sl id 0 es.length 3 ∧ σ.next ≤ id ∧ id < σ'.next ∧ cellsOf σ' id = some (es.flatMap EdgeD.cells))) := by
  refine inline_fn rfl rfl rfl ?_
  repeat (first | (with_reducible refine Nx.go ?_) | ((with_reducible refine Ny.go ?_); (conv => arg 1; simp only [ev, sop, bounds, loI, hiI, fillParts, binSV, intBin, unSV, simprocAttr, ev2, recheck, wantedS, SV.same_self, Bool.and_self]); (first | (with_reducible refine Nz.go ?_) | refine Hold_some ?_)))
  refine WP_rng_it (fun pre σ' => Keeps σ σ' ∧ σ.next + 1 < σ'.next ∧ ∃ pe : List EdgeD, pre = pe.map EdgeD.sv ∧ ((pe = [] ∧ cellsOf σ' σ.next = some [.sc .nilsl]) ∨ ∃ id, pe ≠ [] ∧ σ.next + 1 < id ∧ id < σ'.next ∧ cellsOf σ' σ.next = some [.sl id 0 pe.length 3] ∧ cellsOf σ' id = some (pe.flatMap EdgeD.cells)))
    (by simp only [ev, sop, bounds, loI, hiI, fillParts, binSV, intBin, unSV, simprocAttr, ev2] <;> rfl) rfl hit ⟨((Keeps.refl σ).push _).push _, by simp [next_push], [], rfl, .inl ⟨rfl, by simp (disch := first | omega | (simp only [nx_push, nx_set]; done) | (simp only [nx_push, nx_set]; omega)) only [cells_push_ne, cells_push_eq, cells_set_ne, cells_set_eq]⟩⟩ ?_ ?_ ?_ ?_ ?_
  · rintro pre σ1 σ2 ⟨h1, h2, pe, rfl, h3⟩ hk
    refine ⟨h1.trans hk, Nat.lt_of_lt_of_le h2 hk.1, pe, rfl, ?_⟩
    rcases h3 with ⟨h3, h4⟩ | ⟨id, hne, h3, h4, h5, h6⟩
    · exact .inl ⟨h3, by rw [hk.cells (by omega)]; exact h4⟩
    · exact .inr ⟨id, hne, h3, Nat.lt_of_lt_of_le h4 hk.1, by rw [hk.cells (by omega)]; exact h5, by rw [hk.cells h4]; exact h6⟩
  · rintro pre σ1 o ⟨h1, h2, pe, rfl, h3⟩
    simp only [next_push]
    refine ⟨h1.set _ (by omega), h2, pe, rfl, ?_⟩
    rcases h3 with ⟨h3, h4⟩ | ⟨id, hne, h3, h4, h5, h6⟩
    · exact .inl ⟨h3, by simp (disch := first | omega | (simp only [nx_push, nx_set]; done) | (simp only [nx_push, nx_set]; omega)) only [cells_push_ne, cells_push_eq, cells_set_ne, cells_set_eq, h4]⟩
    · exact .inr ⟨id, hne, h3, h4, by simp (disch := first | omega | (simp only [nx_push, nx_set]; done) | (simp only [nx_push, nx_set]; omega)) only [cells_push_ne, cells_push_eq, cells_set_ne, cells_set_eq, h5], by simp (disch := first | omega | (simp only [nx_push, nx_set]; done) | (simp only [nx_push, nx_set]; omega)) only [cells_push_ne, cells_push_eq, cells_set_ne, cells_set_eq, h6]⟩
  · rintro pre σ1 ⟨h1, _⟩ _
    exact hdom _ h1
  · rintro pre v σ1 lr lb hpre hlt ⟨h1, h2, pe, rfl, h3⟩ hg
    simp only [next_push, setMany_one] at hlt hg ⊢
    obtain ⟨p, e, r, hes, hpp, rfl⟩ := prefix_map hpre
    have hpe : pe.map EdgeD.cells = p.map EdgeD.cells ∧ pe.length = p.length := by
      have := congrArg (List.map SV.flat) hpp
      simp only [List.map_map] at this
      exact ⟨this, by simpa using congrArg List.length hpp⟩
    have hpl : p.length < es.length := by rw [hes]; simp
    have hfm : pe.flatMap EdgeD.cells = p.flatMap EdgeD.cells := by rw [List.flatMap_def, List.flatMap_def, hpe.1]
    have hnew : pe.map EdgeD.sv ++ [e.sv] = (p ++ [e]).map EdgeD.sv := by rw [hpp]; simp
    rw [hnew]
    have n0 : (σ.next = σ1.next) = False := by simp; omega
    have n1 : (σ1.next = σ.next + 1) = False := by simp; omega
    have n2 : (σ.next = σ1.next + 1) = False := by simp; omega
    rw [show e.sv = .agg [.sc (.int .i64 e.f), .sc (.int .i64 e.a), .sc (.int .i64 e.t)] from rfl]
    repeat (first | (with_reducible refine Nx.go ?_) | ((with_reducible refine Ny.go ?_); (conv => arg 1; simp only [ev, sop, bounds, loI, hiI, fillParts, binSV, intBin, unSV, simprocAttr, ev2, recheck, wantedS, SV.same_self, Bool.and_self]); (first | (with_reducible refine Nz.go ?_) | refine Hold_some ?_)))
    refine ⟨by simp (disch := first | omega | (simp only [nx_push, nx_set]; done) | (simp only [nx_push, nx_set]; omega)) only [get_push_ne, get_set_ne, get_set_same, hg], ?_⟩
    rcases h3 with ⟨rfl, h4⟩ | ⟨id, hne, h3, h4, h5, h6⟩
    · have hp0 : p = [] := by simpa using hpe.2.symm
      subst hp0
      have n3 : (σ.next = σ1.next + 2) = False := by simp; omega
      repeat (first | (with_reducible refine Nx.go ?_) | ((with_reducible refine Ny.go ?_); (conv => arg 1; simp only [ev, sop, bounds, loI, hiI, fillParts, binSV, intBin, unSV, simprocAttr, ev2, h4, n0, n1, n2, n3, recheck, wantedS, SV.same_self, Bool.and_self]); (first | (with_reducible refine Nz.go ?_) | refine Hold_some ?_)))
      refine ⟨by simp (disch := first | omega | (simp only [nx_push, nx_set]; done) | (simp only [nx_push, nx_set]; omega)) only [get_push_ne, get_set_ne, get_set_same], by simp [next_push, next_set]; omega, ?_, by simp [next_push, next_set]; omega, [] ++ [e], rfl, .inr ⟨σ1.next + 2, by simp, by omega, by simp [next_push, next_set], by simp (disch := first | omega | (simp only [nx_push, nx_set]; done) | (simp only [nx_push, nx_set]; omega)) only [cells_push_ne, cells_push_eq, cells_set_ne, cells_set_eq]; rfl, by simp (disch := first | omega | (simp only [nx_push, nx_set]; done) | (simp only [nx_push, nx_set]; omega)) only [cells_push_ne, cells_push_eq, cells_set_ne, cells_set_eq]; rfl⟩⟩
      exact (((((h1.push _).set _ h1.1).set _ (by omega)).push _).push _).set _ (Nat.le_refl _)
    · have n3 : (σ.next = σ1.next + 2) = False := by simp; omega
      have n4 : (σ.next = id) = False := by simp; omega
      have n5 : (id = σ1.next) = False := by simp; omega
      have n6 : (id = σ1.next + 1) = False := by simp; omega
      have n7 : (id = σ.next + 1) = False := by simp; omega
      have hfl : (pe.flatMap EdgeD.cells).length = pe.length * 3 := flat_len (enc := EdgeD.cells) (sz := 3) (fun _ => rfl) _
      have hcw : cut (pe.flatMap EdgeD.cells) 0 (pe.length * 3) = some (pe.flatMap EdgeD.cells) := cut_whole hfl.symm
      have hb1 : (pe.length + 1) * 24 ≤ 2 ^ 40 ∧ pe.length + 1 ≤ 2 ^ 40 := by have := hpe.2; omega
      repeat (first | (with_reducible refine Nx.go ?_) | ((with_reducible refine Ny.go ?_); (conv => arg 1; simp only [ev, sop, bounds, loI, hiI, fillParts, binSV, intBin, unSV, simprocAttr, ev2, h5, h6, n0, n1, n2, n3, n4, n5, n6, n7, hcw, hb1, recheck, wantedS, SV.same_self, Bool.and_self]); (first | (with_reducible refine Nz.go ?_) | refine Hold_some ?_)))
      refine ⟨by simp (disch := first | omega | (simp only [nx_push, nx_set]; done) | (simp only [nx_push, nx_set]; omega)) only [get_push_ne, get_set_ne, get_set_same], by simp [next_push, next_set]; omega, ?_, by simp [next_push, next_set]; omega, p ++ [e], rfl, .inr ⟨σ1.next + 2, by simp, by omega, by simp [next_push, next_set], by simp (disch := first | omega | (simp only [nx_push, nx_set]; done) | (simp only [nx_push, nx_set]; omega)) only [cells_push_ne, cells_push_eq, cells_set_ne, cells_set_eq]; simp [hpe.2], by simp (disch := first | omega | (simp only [nx_push, nx_set]; done) | (simp only [nx_push, nx_set]; omega)) only [cells_push_ne, cells_push_eq, cells_set_ne, cells_set_eq]; simp [hfm, EdgeD.cells]⟩⟩
      exact ((((((h1.push _).set _ h1.1).set _ (by omega)).push _).set _ (by omega)).push _).set _ (Nat.le_refl _)
  · rintro σ1 ⟨h1, h2, pe, hpe, h3⟩
    have hpl : pe.map EdgeD.cells = es.map EdgeD.cells ∧ pe.length = es.length := by
      have := congrArg (List.map SV.flat) hpe.symm
      simp only [List.map_map] at this
      exact ⟨this, by simpa using congrArg List.length hpe.symm⟩
    have hfm : pe.flatMap EdgeD.cells = es.flatMap EdgeD.cells := by rw [List.flatMap_def, List.flatMap_def, hpl.1]
    simp only [next_push]
    have n0 : (σ.next = σ.next + 1) = False := by simp
    rcases h3 with ⟨rfl, h4⟩ | ⟨id, hne, h3, h4, h5, h6⟩
    · repeat (first | (with_reducible refine Nx.go ?_) | ((with_reducible refine Ny.go ?_); (conv => arg 1; simp only [ev, sop, bounds, loI, hiI, fillParts, binSV, intBin, unSV, simprocAttr, ev2, h4, n0, recheck, wantedS, SV.same_self, Bool.and_self]); (first | (with_reducible refine Nz.go ?_) | refine Hold_some ?_)))
      (refine Hold1_of ?_; (conv => arg 1; simp only [ev, sop, bounds, loI, hiI, fillParts, binSV, intBin, unSV, simprocAttr, ev2, resultsSV, resMany, resOne]); refine Hold1_some ?_)
      refine ⟨h1.set _ (by omega), .inl ⟨by simpa using hpl.2.symm, rfl⟩⟩
    · repeat (first | (with_reducible refine Nx.go ?_) | ((with_reducible refine Ny.go ?_); (conv => arg 1; simp only [ev, sop, bounds, loI, hiI, fillParts, binSV, intBin, unSV, simprocAttr, ev2, h5, n0, recheck, wantedS, SV.same_self, Bool.and_self]); (first | (with_reducible refine Nz.go ?_) | refine Hold_some ?_)))
      (refine Hold1_of ?_; (conv => arg 1; simp only [ev, sop, bounds, loI, hiI, fillParts, binSV, intBin, unSV, simprocAttr, ev2, resultsSV, resMany, resOne]); refine Hold1_some ?_)
      refine ⟨h1.set _ (by omega), .inr ⟨id, by rintro rfl; exact hne (by simpa using hpl.2), by rw [hpl.2], by omega, h4, by simp (disch := first | omega | (simp only [nx_push, nx_set]; done) | (simp only [nx_push, nx_set]; omega)) only [cells_push_ne, cells_push_eq, cells_set_ne, cells_set_eq, h6]; rw [hfm]⟩⟩
end Go.Proofs.Ytojjhcgbbmknmaa.Sh
