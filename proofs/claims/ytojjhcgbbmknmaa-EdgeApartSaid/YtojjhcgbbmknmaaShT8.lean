/- Critical edges; spots; the same edges. -/
import Derived.Test.YtojjhcgbbmknmaaShT7
namespace Go.Proofs.Ytojjhcgbbmknmaa.Sh
set_option linter.unusedSimpArgs false
set_option linter.unusedVariables false
open Go Go.Proofs

theorem outE_le (f : FuncD) (e : EdgeD) : f.outE e ≤ 400 := by
  unfold FuncD.outE outs
  split
  · exact Nat.le_trans (List.length_filter_le _ _) (allE_len f)
  · omega
theorem inE_le (f : FuncD) (e : EdgeD) : f.inE e ≤ 400 := by
  unfold FuncD.inE ins
  split
  · exact Nat.le_trans (List.length_filter_le _ _) (allE_len f)
  · omega
theorem t_critical (f : FuncD) (e : EdgeD) (hl : f.bl.length ≤ 2 ^ 47) : Tells 18 [f.sv, e.sv] (.sc (.bool (decide (1 < f.outE e ∧ 1 < f.inE e)))) := by
  refine tells_fn rfl rfl rfl ?_
  rw [show e.sv = .agg [.sc (.int .i64 e.f), .sc (.int .i64 e.a), .sc (.int .i64 e.t)] from rfl, show f.sv = .agg [intsV f.params, blksV f.blocks] from rfl]
  repeat (first | (with_reducible refine Nx.go ?_) | ((with_reducible refine Ny.go ?_); (conv => arg 1; simp only [ev, sop, bounds, loI, hiI, fillParts, binSV, intBin, unSV, simprocAttr, ev2, ev3, recheck, wantedS, SV.same_self, Bool.and_self]); (first | (with_reducible refine Nz.go ?_) | refine Hold_some ?_)))
  refine st_tellp (t_ends f e hl) ⟨_, rfl, by first | omega | decide⟩ (by first | with_reducible exact wantedS_none | (refine wantedS_some ?_; simp only [ev, sop, bounds, loI, hiI, fillParts, binSV, intBin, unSV, simprocAttr, ev2, ev3]; done)) (by simp only [ev, sop, bounds, loI, hiI, fillParts, binSV, intBin, unSV, simprocAttr, ev2, ev3] <;> rfl) (by first | rfl | simp [pures, SV.pure, *, pure_func, pure_ints, pure_blks, pure_insV, pure_rows, pure_edges, pure_edge]) (by first | with_reducible exact recheck_nil | (simp only [recheck, wantedS]; simp only [ev, sop, bounds, loI, hiI, fillParts, binSV, intBin, unSV, simprocAttr, ev2, ev3]; simp only [SV.same_self, Bool.and_self])) ?_
  repeat (first | (with_reducible refine Nx.go ?_) | ((with_reducible refine Ny.go ?_); (conv => arg 1; simp only [ev, sop, bounds, loI, hiI, fillParts, binSV, intBin, unSV, simprocAttr, ev2, ev3, List.getElem?_cons_zero, List.getElem?_cons_succ, recheck, wantedS, SV.same_self, Bool.and_self]); (first | (with_reducible refine Nz.go ?_) | refine Hold_some ?_)))
  (refine Hold1_of ?_; (conv => arg 1; simp only [ev, sop, bounds, loI, hiI, fillParts, binSV, intBin, unSV, simprocAttr, ev2, ev3, resultsSV, resMany, resOne]); refine Hold1_some ?_)
  rw [frz_of_pure rfl]
  split <;> simp only [Option.some.injEq, SV.sc.injEq, Sc.bool.injEq, gt_iff_lt, decide_eq_decide] <;> omega

/-- A spot: the block, its end?, the error. -/
noncomputable def FuncD.spot (f : FuncD) (e : EdgeD) : Int × Bool × Int := if f.outE e = 0 then (0, false, 2) else if f.outE e = 1 then (e.f, true, 0) else if f.inE e = 1 then (e.t, false, 0) else (0, false, 5)
theorem t_spot (f : FuncD) (e : EdgeD) (hl : f.bl.length ≤ 2 ^ 47) : Tells 17 [f.sv, e.sv] (.tup [.sc (.int .i64 (f.spot e).1), .sc (.bool (f.spot e).2.1), .sc (.int .i64 (f.spot e).2.2)]) := by
  refine tells_fn rfl rfl rfl ?_
  rw [show e.sv = .agg [.sc (.int .i64 e.f), .sc (.int .i64 e.a), .sc (.int .i64 e.t)] from rfl, show f.sv = .agg [intsV f.params, blksV f.blocks] from rfl]
  repeat (first | (with_reducible refine Nx.go ?_) | ((with_reducible refine Ny.go ?_); (conv => arg 1; simp only [ev, sop, bounds, loI, hiI, fillParts, binSV, intBin, unSV, simprocAttr, ev2, ev3, recheck, wantedS, SV.same_self, Bool.and_self]); (first | (with_reducible refine Nz.go ?_) | refine Hold_some ?_)))
  refine st_tellp (t_ends f e hl) ⟨_, rfl, by first | omega | decide⟩ (by first | with_reducible exact wantedS_none | (refine wantedS_some ?_; simp only [ev, sop, bounds, loI, hiI, fillParts, binSV, intBin, unSV, simprocAttr, ev2, ev3]; done)) (by simp only [ev, sop, bounds, loI, hiI, fillParts, binSV, intBin, unSV, simprocAttr, ev2, ev3] <;> rfl) (by first | rfl | simp [pures, SV.pure, *, pure_func, pure_ints, pure_blks, pure_insV, pure_rows, pure_edges, pure_edge]) (by first | with_reducible exact recheck_nil | (simp only [recheck, wantedS]; simp only [ev, sop, bounds, loI, hiI, fillParts, binSV, intBin, unSV, simprocAttr, ev2, ev3]; simp only [SV.same_self, Bool.and_self])) ?_
  by_cases h0 : f.outE e = 0
  · have b0 : (((f.outE e : Nat) : Int) == 0) = true := by simp [h0]
    repeat (first | (with_reducible refine Nx.go ?_) | ((with_reducible refine Ny.go ?_); (conv => arg 1; simp only [ev, sop, bounds, loI, hiI, fillParts, binSV, intBin, unSV, simprocAttr, ev2, ev3, List.getElem?_cons_zero, List.getElem?_cons_succ, b0, recheck, wantedS, SV.same_self, Bool.and_self]); (first | (with_reducible refine Nz.go ?_) | refine Hold_some ?_)))
    (refine Hold1_of ?_; (conv => arg 1; simp only [ev, sop, bounds, loI, hiI, fillParts, binSV, intBin, unSV, simprocAttr, ev2, ev3, resultsSV, resMany, resOne]); refine Hold1_some ?_)
    simp [frz, SV.pure, pures, FuncD.spot, h0]
  have b0 : (((f.outE e : Nat) : Int) == 0) = false := by simp [h0]
  by_cases h1 : f.outE e = 1
  · have b1 : (((f.outE e : Nat) : Int) == 1) = true := by simp [h1]
    repeat (first | (with_reducible refine Nx.go ?_) | ((with_reducible refine Ny.go ?_); (conv => arg 1; simp only [ev, sop, bounds, loI, hiI, fillParts, binSV, intBin, unSV, simprocAttr, ev2, ev3, List.getElem?_cons_zero, List.getElem?_cons_succ, b0, b1, recheck, wantedS, SV.same_self, Bool.and_self]); (first | (with_reducible refine Nz.go ?_) | refine Hold_some ?_)))
    (refine Hold1_of ?_; (conv => arg 1; simp only [ev, sop, bounds, loI, hiI, fillParts, binSV, intBin, unSV, simprocAttr, ev2, ev3, resultsSV, resMany, resOne]); refine Hold1_some ?_)
    simp [frz, SV.pure, pures, FuncD.spot, h1]
  have b1 : (((f.outE e : Nat) : Int) == 1) = false := by simp; omega
  by_cases h2 : f.inE e = 1
  · have b2 : (((f.inE e : Nat) : Int) == 1) = true := by simp [h2]
    repeat (first | (with_reducible refine Nx.go ?_) | ((with_reducible refine Ny.go ?_); (conv => arg 1; simp only [ev, sop, bounds, loI, hiI, fillParts, binSV, intBin, unSV, simprocAttr, ev2, ev3, List.getElem?_cons_zero, List.getElem?_cons_succ, b0, b1, b2, recheck, wantedS, SV.same_self, Bool.and_self]); (first | (with_reducible refine Nz.go ?_) | refine Hold_some ?_)))
    (refine Hold1_of ?_; (conv => arg 1; simp only [ev, sop, bounds, loI, hiI, fillParts, binSV, intBin, unSV, simprocAttr, ev2, ev3, resultsSV, resMany, resOne]); refine Hold1_some ?_)
    simp [frz, SV.pure, pures, FuncD.spot, h0, h1, h2]
  · have b2 : (((f.inE e : Nat) : Int) == 1) = false := by simp; omega
    repeat (first | (with_reducible refine Nx.go ?_) | ((with_reducible refine Ny.go ?_); (conv => arg 1; simp only [ev, sop, bounds, loI, hiI, fillParts, binSV, intBin, unSV, simprocAttr, ev2, ev3, List.getElem?_cons_zero, List.getElem?_cons_succ, b0, b1, b2, recheck, wantedS, SV.same_self, Bool.and_self]); (first | (with_reducible refine Nz.go ?_) | refine Hold_some ?_)))
    (refine Hold1_of ?_; (conv => arg 1; simp only [ev, sop, bounds, loI, hiI, fillParts, binSV, intBin, unSV, simprocAttr, ev2, ev3, resultsSV, resMany, resOne]); refine Hold1_some ?_)
    simp [frz, SV.pure, pures, FuncD.spot, h0, h1, h2]

theorem t_sameEdges (o o' : Option (List EdgeD)) (hl : (ol o).length ≤ 2 ^ 40) (hl' : (ol o').length ≤ 2 ^ 40) : Tells 19 [edgesV o, edgesV o'] (.sc (.bool (decide (ol o = ol o')))) := by
  refine tells_fn rfl rfl rfl ?_
  by_cases hn : (ol o).length = (ol o').length
  rotate_left
  · have hd : (((ol o).length : Int) != ((ol o').length : Int)) = true := by simp; omega
    repeat (first | (with_reducible refine Nx.go ?_) | ((with_reducible refine Ny.go ?_); (conv => arg 1; simp only [ev, sop, bounds, loI, hiI, fillParts, binSV, intBin, unSV, simprocAttr, ev2, ev3, hd, recheck, wantedS, SV.same_self, Bool.and_self]); (first | (with_reducible refine Nz.go ?_) | refine Hold_some ?_)))
    (refine Hold1_of ?_; (conv => arg 1; simp only [ev, sop, bounds, loI, hiI, fillParts, binSV, intBin, unSV, simprocAttr, ev2, ev3, resultsSV, resMany, resOne]); refine Hold1_some ?_)
    rw [frz_of_pure rfl, decide_eq_false (fun h => hn (by rw [h]))]
  have hd : (((ol o).length : Int) != ((ol o').length : Int)) = false := by simp; omega
  repeat (first | (with_reducible refine Nx.go ?_) | ((with_reducible refine Ny.go ?_); (conv => arg 1; simp only [ev, sop, bounds, loI, hiI, fillParts, binSV, intBin, unSV, simprocAttr, ev2, ev3, hd, recheck, wantedS, SV.same_self, Bool.and_self]); (first | (with_reducible refine Nz.go ?_) | refine Hold_some ?_)))
  refine WP_blockloop (fun m t σ1 => ∃ k, m = (ol o).length - k ∧ k ≤ (ol o).length ∧ getT t 0 = edgesV o ∧ getT t 1 = edgesV o' ∧ getT t 5 = .sc (.int .i64 (k : Nat)) ∧ (ol o).take k = (ol o').take k) (k0 := (ol o).length) ⟨0, by simp, by omega, by simp only [ev, sop, bounds, loI, hiI, fillParts, binSV, intBin, unSV, simprocAttr, ev2, ev3], by simp only [ev, sop, bounds, loI, hiI, fillParts, binSV, intBin, unSV, simprocAttr, ev2, ev3], by simp only [ev, sop, bounds, loI, hiI, fillParts, binSV, intBin, unSV, simprocAttr, ev2, ev3], by simp⟩ ?_
  rintro m t σ1 ⟨k, rfl, hk, h0, h1, h5, heq⟩
  by_cases hlt : k < (ol o).length
  · obtain ⟨x, hx⟩ := get_of_lt hlt
    obtain ⟨y, hy⟩ := get_of_lt (show k < (ol o').length by omega)
    rw [edges_of_lt hlt] at h0
    rw [edges_of_lt (show k < (ol o').length by omega)] at h1
    have hcx := cut_edge hx
    have hcy := cut_edge hy
    have hlt' : k < (ol o').length := by omega
    have hw : IntKind.i64.wrap ((k : Int) + 1) = ((k + 1 : Nat) : Int) := by rw [i64_in _ (by omega) (by omega)]; rfl
    by_cases hxy : x = y
    · have hd : decide (x = y) = true := by simp [hxy]
      repeat (first | (with_reducible refine Nx.go ?_) | ((with_reducible refine Ny.go ?_); (conv => arg 1; simp only [ev, sop, bounds, loI, hiI, fillParts, binSV, intBin, unSV, simprocAttr, ev2, ev3, h0, h1, h5, hlt, hlt', hcx, hcy, eq_edge, hd, hw, recheck, wantedS, SV.same_self, Bool.and_self]); (first | (with_reducible refine Nz.go ?_) | refine Hold_some ?_)))
      refine ⟨_, by omega, k + 1, rfl, by omega, by simp only [ev, sop, bounds, loI, hiI, fillParts, binSV, intBin, unSV, simprocAttr, ev2, ev3, h0]; exact (edges_of_lt hlt).symm, by simp only [ev, sop, bounds, loI, hiI, fillParts, binSV, intBin, unSV, simprocAttr, ev2, ev3, h1]; exact (edges_of_lt hlt').symm, by simp only [ev, sop, bounds, loI, hiI, fillParts, binSV, intBin, unSV, simprocAttr, ev2, ev3], ?_⟩
      rw [List.take_add_one, List.take_add_one, heq, hx, hy, hxy]
    · have hd : decide (x = y) = false := by simp [hxy]
      repeat (first | (with_reducible refine Nx.go ?_) | ((with_reducible refine Ny.go ?_); (conv => arg 1; simp only [ev, sop, bounds, loI, hiI, fillParts, binSV, intBin, unSV, simprocAttr, ev2, ev3, h0, h1, h5, hlt, hlt', hcx, hcy, eq_edge, hd, hw, recheck, wantedS, SV.same_self, Bool.and_self]); (first | (with_reducible refine Nz.go ?_) | refine Hold_some ?_)))
      (refine Hold1_of ?_; (conv => arg 1; simp only [ev, sop, bounds, loI, hiI, fillParts, binSV, intBin, unSV, simprocAttr, ev2, ev3, resultsSV, resMany, resOne]); refine Hold1_some ?_)
      rw [frz_of_pure rfl, decide_eq_false]
      intro h
      rw [h, hy] at hx
      cases hx
      exact hxy rfl
  · have : k = (ol o).length := by omega
    subst this
    have hlen : lenSV (edgesV o) = some (ol o).length := lenSV_rec o
    repeat (first | (with_reducible refine Nx.go ?_) | ((with_reducible refine Ny.go ?_); (conv => arg 1; simp only [ev, sop, bounds, loI, hiI, fillParts, binSV, intBin, unSV, simprocAttr, ev2, ev3, h0, h1, h5, hlt, hlen, Nat.lt_irrefl, recheck, wantedS, SV.same_self, Bool.and_self]); (first | (with_reducible refine Nz.go ?_) | refine Hold_some ?_)))
    (refine Hold1_of ?_; (conv => arg 1; simp only [ev, sop, bounds, loI, hiI, fillParts, binSV, intBin, unSV, simprocAttr, ev2, ev3, resultsSV, resMany, resOne]); refine Hold1_some ?_)
    rw [frz_of_pure rfl, decide_eq_true]
    rw [List.take_length, hn, List.take_length] at heq
    exact heq
end Go.Proofs.Ytojjhcgbbmknmaa.Sh
