/- Several texts, merged: Law 17: what is more than is gone through (written by genG17.py). And more. -/
import Derived.Test.YtojjhcgbbmknmaaXA

/- Law 17: what is more than is gone through (written by genG17.py). -/
namespace Go.Proofs.Ytojjhcgbbmknmaa.Sh
set_option linter.unusedSimpArgs false
set_option linter.unusedVariables false
open Go Go.Proofs
set_option maxHeartbeats 4000000 in
theorem t_great17 (f : FuncD) (o : Option (List TileD)) (hw : f.within (2 ^ 47)) (ht : tilesWithin (2 ^ 47) (ol o)) : ∃ g : Bool, Tells 21 [f.sv, tilesV o] (.sc (.bool g)) ∧ (g = false → f.within 2000 ∧ tilesWithin 120 (ol o) ∧ (f.bl.length ≤ 40 ∨ 200 < f.bl.length)) := by
  suffices h : WPF (EV 3) 21 [f.sv, tilesV o] St.empty (fun v σ => ∃ g : Bool, v = .sc (.bool g) ∧ (g = false → f.within 2000 ∧ tilesWithin 120 (ol o) ∧ (f.bl.length ≤ 40 ∨ 200 < f.bl.length))) by
    obtain ⟨q, v, σ, h1, g, rfl, h2⟩ := h
    exact ⟨g, ⟨_, rfl, q, _, σ, h1, frz_of_pure rfl⟩, h2⟩
  refine told_fn rfl rfl rfl rfl ?_
  rw [show f.sv = .agg [intsV f.params, blksV f.blocks] from rfl]
  obtain ⟨N, hN1, hN2⟩ := t_funcOf f 2000 (by omega) hw
  have hlen : lenSV (tilesV o) = some (ol o).length := lenSV_rec o
  repeat (first | (with_reducible refine Nx.go ?_) | ((with_reducible refine Ny.go ?_); (conv => arg 1; simp only [ev, sop, bounds, loI, hiI, fillParts, binSV, intBin, unSV, simprocAttr, ev2, hlen, recheck, wantedS, SV.same_self, Bool.and_self]); (first | (with_reducible refine Nz.go ?_) | refine Hold_some ?_)))
  refine WP_blockloop (fun m t σ => ∃ i n : Nat, m = (ol o).length - i ∧ i ≤ (ol o).length ∧ n ≤ (ol o).length + 2 ^ 48 ∧ (ol o).length ≤ n ∧ getT t 1 = tilesV o ∧ getT t 2 = .ptr 0 0 ∧ getT t 5 = .sc (.int .i64 (n : Nat)) ∧ getT t 6 = .sc (.int .i64 (i : Nat)) ∧ cellsOf σ 0 = some [intsV f.params, blksV f.blocks] ∧
      (n ≤ 120 → ∀ j b, j < i → (ol o)[j]? = some b → (ol b.blocks).length ≤ n)) (k0 := (ol o).length) ⟨0, (ol o).length, by simp, by omega, by omega, by omega, by simp only [ev, sop, bounds, loI, hiI, fillParts, binSV, intBin, unSV, simprocAttr, ev2], by simp only [ev, sop, bounds, loI, hiI, fillParts, binSV, intBin, unSV, simprocAttr, ev2], by simp only [ev, sop, bounds, loI, hiI, fillParts, binSV, intBin, unSV, simprocAttr, ev2] <;> rfl, by simp only [ev, sop, bounds, loI, hiI, fillParts, binSV, intBin, unSV, simprocAttr, ev2] <;> rfl, by simp only [ev, sop, bounds, loI, hiI, fillParts, binSV, intBin, unSV, simprocAttr, ev2], by simp⟩ ?_
  rintro m t σ ⟨i, n, rfl, hi, hn, hn2, h1, h2, h5, h6, hc, hseen⟩
  have hblen : lenSV (blksV f.blocks) = some f.bl.length := lenSV_rec _
  by_cases hlt : i < (ol o).length
  rotate_left
  · skip
    by_cases hA : f.bl.length > 40 ∧ f.bl.length ≤ 200
    · obtain ⟨hA1, hA2⟩ := hA
      have hA1' : (f.bl.length : Int) > 40 := by omega
      have hA2' : (f.bl.length : Int) ≤ 200 := by omega
      repeat (first | (with_reducible refine Nx.go ?_) | ((with_reducible refine Ny.go ?_); (conv => arg 1; simp only [ev, sop, bounds, loI, hiI, fillParts, binSV, intBin, unSV, simprocAttr, ev2, h1, h2, h5, h6, hlt, hc, hlen, hblen, hA1', hA2', recheck, wantedS, SV.same_self, Bool.and_self]); (first | (with_reducible refine Nz.go ?_) | refine Hold_some ?_)))
      (refine Hold1_of ?_; (conv => arg 1; simp only [ev, sop, bounds, loI, hiI, fillParts, binSV, intBin, unSV, simprocAttr, ev2, resultsSV, resMany, resOne]); refine Hold1_some ?_)
      exact ⟨true, rfl, fun h => by cases h⟩
    have hA' : f.bl.length ≤ 40 ∨ 200 < f.bl.length := by omega
    by_cases hB : f.bl.length > 40
    · have hB1 : (f.bl.length : Int) > 40 := by omega
      have hB2 : ¬ (f.bl.length : Int) ≤ 200 := by omega
      repeat (first | (with_reducible refine Nx.go ?_) | ((with_reducible refine Ny.go ?_); (conv => arg 1; simp only [ev, sop, bounds, loI, hiI, fillParts, binSV, intBin, unSV, simprocAttr, ev2, h1, h2, h5, h6, hlt, hc, hlen, hblen, hB1, hB2, recheck, wantedS, SV.same_self, Bool.and_self]); (first | (with_reducible refine Nz.go ?_) | refine Hold_some ?_)))
      refine st_tellp (hN1) ⟨_, rfl, by first | omega | decide⟩ (by first | with_reducible exact wantedS_none | (refine wantedS_some ?_; simp only [ev, sop, bounds, loI, hiI, fillParts, binSV, intBin, unSV, simprocAttr, ev2, h1, h2, h5, h6, hlt, hc, hblen, hB1, hB2]; done)) (by simp only [ev, sop, bounds, loI, hiI, fillParts, binSV, intBin, unSV, simprocAttr, ev2, h1, h2, h5, h6, hlt, hc, hblen, hB1, hB2] <;> rfl) (by first | rfl | simp [pures, SV.pure, *, pure_func, pure_ints, pure_blks, pure_insV, pure_rows]) (by first | with_reducible exact recheck_nil | (simp only [recheck, wantedS]; simp only [ev, sop, bounds, loI, hiI, fillParts, binSV, intBin, unSV, simprocAttr, ev2, h1, h2, h5, h6, hlt, hc, hblen, hB1, hB2]; simp only [SV.same_self, Bool.and_self, beq_self_eq_true])) ?_
      by_cases hC : N ≤ 2000
      · have hC' : ¬ (N : Int) > 2000 := by omega
        by_cases hD : n ≤ 120
        · have hD' : ¬ (n : Int) > 120 := by omega
          repeat (first | (with_reducible refine Nx.go ?_) | ((with_reducible refine Ny.go ?_); (conv => arg 1; simp only [ev, sop, bounds, loI, hiI, fillParts, binSV, intBin, unSV, simprocAttr, ev2, h1, h2, h5, h6, hlt, hc, hlen, hC', hD', recheck, wantedS, SV.same_self, Bool.and_self]); (first | (with_reducible refine Nz.go ?_) | refine Hold_some ?_)))
          (refine Hold1_of ?_; (conv => arg 1; simp only [ev, sop, bounds, loI, hiI, fillParts, binSV, intBin, unSV, simprocAttr, ev2, resultsSV, resMany, resOne]); refine Hold1_some ?_)
          refine ⟨false, rfl, fun _ => ⟨?_, ⟨by omega, fun t ht => ?_⟩, hA'⟩⟩
          · exact (hN2 hC).mono hC
          · obtain ⟨j, hj⟩ := List.mem_iff_getElem?.1 ht
            exact Nat.le_trans (hseen hD j t (by have := (List.getElem?_eq_some_iff.1 hj).1; omega) hj) hD
        · have hD' : (n : Int) > 120 := by omega
          repeat (first | (with_reducible refine Nx.go ?_) | ((with_reducible refine Ny.go ?_); (conv => arg 1; simp only [ev, sop, bounds, loI, hiI, fillParts, binSV, intBin, unSV, simprocAttr, ev2, h1, h2, h5, h6, hlt, hc, hlen, hC', hD', recheck, wantedS, SV.same_self, Bool.and_self]); (first | (with_reducible refine Nz.go ?_) | refine Hold_some ?_)))
          (refine Hold1_of ?_; (conv => arg 1; simp only [ev, sop, bounds, loI, hiI, fillParts, binSV, intBin, unSV, simprocAttr, ev2, resultsSV, resMany, resOne]); refine Hold1_some ?_)
          exact ⟨true, rfl, fun h => by cases h⟩
      · have hC' : (N : Int) > 2000 := by omega
        repeat (first | (with_reducible refine Nx.go ?_) | ((with_reducible refine Ny.go ?_); (conv => arg 1; simp only [ev, sop, bounds, loI, hiI, fillParts, binSV, intBin, unSV, simprocAttr, ev2, h1, h2, h5, h6, hlt, hc, hlen, hC', recheck, wantedS, SV.same_self, Bool.and_self]); (first | (with_reducible refine Nz.go ?_) | refine Hold_some ?_)))
        (refine Hold1_of ?_; (conv => arg 1; simp only [ev, sop, bounds, loI, hiI, fillParts, binSV, intBin, unSV, simprocAttr, ev2, resultsSV, resMany, resOne]); refine Hold1_some ?_)
        exact ⟨true, rfl, fun h => by cases h⟩
    · have hB1 : ¬ (f.bl.length : Int) > 40 := by omega
      repeat (first | (with_reducible refine Nx.go ?_) | ((with_reducible refine Ny.go ?_); (conv => arg 1; simp only [ev, sop, bounds, loI, hiI, fillParts, binSV, intBin, unSV, simprocAttr, ev2, h1, h2, h5, h6, hlt, hc, hlen, hblen, hB1, recheck, wantedS, SV.same_self, Bool.and_self]); (first | (with_reducible refine Nz.go ?_) | refine Hold_some ?_)))
      refine st_tellp (hN1) ⟨_, rfl, by first | omega | decide⟩ (by first | with_reducible exact wantedS_none | (refine wantedS_some ?_; simp only [ev, sop, bounds, loI, hiI, fillParts, binSV, intBin, unSV, simprocAttr, ev2, h1, h2, h5, h6, hlt, hc, hblen, hB1]; done)) (by simp only [ev, sop, bounds, loI, hiI, fillParts, binSV, intBin, unSV, simprocAttr, ev2, h1, h2, h5, h6, hlt, hc, hblen, hB1] <;> rfl) (by first | rfl | simp [pures, SV.pure, *, pure_func, pure_ints, pure_blks, pure_insV, pure_rows]) (by first | with_reducible exact recheck_nil | (simp only [recheck, wantedS]; simp only [ev, sop, bounds, loI, hiI, fillParts, binSV, intBin, unSV, simprocAttr, ev2, h1, h2, h5, h6, hlt, hc, hblen, hB1]; simp only [SV.same_self, Bool.and_self, beq_self_eq_true])) ?_
      by_cases hC : N ≤ 2000
      · have hC' : ¬ (N : Int) > 2000 := by omega
        by_cases hD : n ≤ 120
        · have hD' : ¬ (n : Int) > 120 := by omega
          repeat (first | (with_reducible refine Nx.go ?_) | ((with_reducible refine Ny.go ?_); (conv => arg 1; simp only [ev, sop, bounds, loI, hiI, fillParts, binSV, intBin, unSV, simprocAttr, ev2, h1, h2, h5, h6, hlt, hc, hlen, hC', hD', recheck, wantedS, SV.same_self, Bool.and_self]); (first | (with_reducible refine Nz.go ?_) | refine Hold_some ?_)))
          (refine Hold1_of ?_; (conv => arg 1; simp only [ev, sop, bounds, loI, hiI, fillParts, binSV, intBin, unSV, simprocAttr, ev2, resultsSV, resMany, resOne]); refine Hold1_some ?_)
          refine ⟨false, rfl, fun _ => ⟨?_, ⟨by omega, fun t ht => ?_⟩, hA'⟩⟩
          · exact (hN2 hC).mono hC
          · obtain ⟨j, hj⟩ := List.mem_iff_getElem?.1 ht
            exact Nat.le_trans (hseen hD j t (by have := (List.getElem?_eq_some_iff.1 hj).1; omega) hj) hD
        · have hD' : (n : Int) > 120 := by omega
          repeat (first | (with_reducible refine Nx.go ?_) | ((with_reducible refine Ny.go ?_); (conv => arg 1; simp only [ev, sop, bounds, loI, hiI, fillParts, binSV, intBin, unSV, simprocAttr, ev2, h1, h2, h5, h6, hlt, hc, hlen, hC', hD', recheck, wantedS, SV.same_self, Bool.and_self]); (first | (with_reducible refine Nz.go ?_) | refine Hold_some ?_)))
          (refine Hold1_of ?_; (conv => arg 1; simp only [ev, sop, bounds, loI, hiI, fillParts, binSV, intBin, unSV, simprocAttr, ev2, resultsSV, resMany, resOne]); refine Hold1_some ?_)
          exact ⟨true, rfl, fun h => by cases h⟩
      · have hC' : (N : Int) > 2000 := by omega
        repeat (first | (with_reducible refine Nx.go ?_) | ((with_reducible refine Ny.go ?_); (conv => arg 1; simp only [ev, sop, bounds, loI, hiI, fillParts, binSV, intBin, unSV, simprocAttr, ev2, h1, h2, h5, h6, hlt, hc, hlen, hC', recheck, wantedS, SV.same_self, Bool.and_self]); (first | (with_reducible refine Nz.go ?_) | refine Hold_some ?_)))
        (refine Hold1_of ?_; (conv => arg 1; simp only [ev, sop, bounds, loI, hiI, fillParts, binSV, intBin, unSV, simprocAttr, ev2, resultsSV, resMany, resOne]); refine Hold1_some ?_)
        exact ⟨true, rfl, fun h => by cases h⟩

  by_cases hle : n ≤ 120
  rotate_left
  · have hle' : ¬ (n : Int) ≤ 120 := by omega
    by_cases hA : f.bl.length > 40 ∧ f.bl.length ≤ 200
    · obtain ⟨hA1, hA2⟩ := hA
      have hA1' : (f.bl.length : Int) > 40 := by omega
      have hA2' : (f.bl.length : Int) ≤ 200 := by omega
      repeat (first | (with_reducible refine Nx.go ?_) | ((with_reducible refine Ny.go ?_); (conv => arg 1; simp only [ev, sop, bounds, loI, hiI, fillParts, binSV, intBin, unSV, simprocAttr, ev2, h1, h2, h5, h6, hlt, hle', hc, hlen, hblen, hA1', hA2', recheck, wantedS, SV.same_self, Bool.and_self]); (first | (with_reducible refine Nz.go ?_) | refine Hold_some ?_)))
      (refine Hold1_of ?_; (conv => arg 1; simp only [ev, sop, bounds, loI, hiI, fillParts, binSV, intBin, unSV, simprocAttr, ev2, resultsSV, resMany, resOne]); refine Hold1_some ?_)
      exact ⟨true, rfl, fun h => by cases h⟩
    have hA' : f.bl.length ≤ 40 ∨ 200 < f.bl.length := by omega
    by_cases hB : f.bl.length > 40
    · have hB1 : (f.bl.length : Int) > 40 := by omega
      have hB2 : ¬ (f.bl.length : Int) ≤ 200 := by omega
      repeat (first | (with_reducible refine Nx.go ?_) | ((with_reducible refine Ny.go ?_); (conv => arg 1; simp only [ev, sop, bounds, loI, hiI, fillParts, binSV, intBin, unSV, simprocAttr, ev2, h1, h2, h5, h6, hlt, hle', hc, hlen, hblen, hB1, hB2, recheck, wantedS, SV.same_self, Bool.and_self]); (first | (with_reducible refine Nz.go ?_) | refine Hold_some ?_)))
      refine st_tellp (hN1) ⟨_, rfl, by first | omega | decide⟩ (by first | with_reducible exact wantedS_none | (refine wantedS_some ?_; simp only [ev, sop, bounds, loI, hiI, fillParts, binSV, intBin, unSV, simprocAttr, ev2, h1, h2, h5, h6, hlt, hle', hc, hblen, hB1, hB2]; done)) (by simp only [ev, sop, bounds, loI, hiI, fillParts, binSV, intBin, unSV, simprocAttr, ev2, h1, h2, h5, h6, hlt, hle', hc, hblen, hB1, hB2] <;> rfl) (by first | rfl | simp [pures, SV.pure, *, pure_func, pure_ints, pure_blks, pure_insV, pure_rows]) (by first | with_reducible exact recheck_nil | (simp only [recheck, wantedS]; simp only [ev, sop, bounds, loI, hiI, fillParts, binSV, intBin, unSV, simprocAttr, ev2, h1, h2, h5, h6, hlt, hle', hc, hblen, hB1, hB2]; simp only [SV.same_self, Bool.and_self, beq_self_eq_true])) ?_
      by_cases hC : N ≤ 2000
      · have hC' : ¬ (N : Int) > 2000 := by omega
        by_cases hD : n ≤ 120
        · have hD' : ¬ (n : Int) > 120 := by omega
          repeat (first | (with_reducible refine Nx.go ?_) | ((with_reducible refine Ny.go ?_); (conv => arg 1; simp only [ev, sop, bounds, loI, hiI, fillParts, binSV, intBin, unSV, simprocAttr, ev2, h1, h2, h5, h6, hlt, hle', hc, hlen, hC', hD', recheck, wantedS, SV.same_self, Bool.and_self]); (first | (with_reducible refine Nz.go ?_) | refine Hold_some ?_)))
          (refine Hold1_of ?_; (conv => arg 1; simp only [ev, sop, bounds, loI, hiI, fillParts, binSV, intBin, unSV, simprocAttr, ev2, resultsSV, resMany, resOne]); refine Hold1_some ?_)
          refine ⟨false, rfl, fun _ => ⟨?_, ⟨by omega, fun t ht => ?_⟩, hA'⟩⟩
          · exact (hN2 hC).mono hC
          · obtain ⟨j, hj⟩ := List.mem_iff_getElem?.1 ht
            exact absurd hD hle
        · have hD' : (n : Int) > 120 := by omega
          repeat (first | (with_reducible refine Nx.go ?_) | ((with_reducible refine Ny.go ?_); (conv => arg 1; simp only [ev, sop, bounds, loI, hiI, fillParts, binSV, intBin, unSV, simprocAttr, ev2, h1, h2, h5, h6, hlt, hle', hc, hlen, hC', hD', recheck, wantedS, SV.same_self, Bool.and_self]); (first | (with_reducible refine Nz.go ?_) | refine Hold_some ?_)))
          (refine Hold1_of ?_; (conv => arg 1; simp only [ev, sop, bounds, loI, hiI, fillParts, binSV, intBin, unSV, simprocAttr, ev2, resultsSV, resMany, resOne]); refine Hold1_some ?_)
          exact ⟨true, rfl, fun h => by cases h⟩
      · have hC' : (N : Int) > 2000 := by omega
        repeat (first | (with_reducible refine Nx.go ?_) | ((with_reducible refine Ny.go ?_); (conv => arg 1; simp only [ev, sop, bounds, loI, hiI, fillParts, binSV, intBin, unSV, simprocAttr, ev2, h1, h2, h5, h6, hlt, hle', hc, hlen, hC', recheck, wantedS, SV.same_self, Bool.and_self]); (first | (with_reducible refine Nz.go ?_) | refine Hold_some ?_)))
        (refine Hold1_of ?_; (conv => arg 1; simp only [ev, sop, bounds, loI, hiI, fillParts, binSV, intBin, unSV, simprocAttr, ev2, resultsSV, resMany, resOne]); refine Hold1_some ?_)
        exact ⟨true, rfl, fun h => by cases h⟩
    · have hB1 : ¬ (f.bl.length : Int) > 40 := by omega
      repeat (first | (with_reducible refine Nx.go ?_) | ((with_reducible refine Ny.go ?_); (conv => arg 1; simp only [ev, sop, bounds, loI, hiI, fillParts, binSV, intBin, unSV, simprocAttr, ev2, h1, h2, h5, h6, hlt, hle', hc, hlen, hblen, hB1, recheck, wantedS, SV.same_self, Bool.and_self]); (first | (with_reducible refine Nz.go ?_) | refine Hold_some ?_)))
      refine st_tellp (hN1) ⟨_, rfl, by first | omega | decide⟩ (by first | with_reducible exact wantedS_none | (refine wantedS_some ?_; simp only [ev, sop, bounds, loI, hiI, fillParts, binSV, intBin, unSV, simprocAttr, ev2, h1, h2, h5, h6, hlt, hle', hc, hblen, hB1]; done)) (by simp only [ev, sop, bounds, loI, hiI, fillParts, binSV, intBin, unSV, simprocAttr, ev2, h1, h2, h5, h6, hlt, hle', hc, hblen, hB1] <;> rfl) (by first | rfl | simp [pures, SV.pure, *, pure_func, pure_ints, pure_blks, pure_insV, pure_rows]) (by first | with_reducible exact recheck_nil | (simp only [recheck, wantedS]; simp only [ev, sop, bounds, loI, hiI, fillParts, binSV, intBin, unSV, simprocAttr, ev2, h1, h2, h5, h6, hlt, hle', hc, hblen, hB1]; simp only [SV.same_self, Bool.and_self, beq_self_eq_true])) ?_
      by_cases hC : N ≤ 2000
      · have hC' : ¬ (N : Int) > 2000 := by omega
        by_cases hD : n ≤ 120
        · have hD' : ¬ (n : Int) > 120 := by omega
          repeat (first | (with_reducible refine Nx.go ?_) | ((with_reducible refine Ny.go ?_); (conv => arg 1; simp only [ev, sop, bounds, loI, hiI, fillParts, binSV, intBin, unSV, simprocAttr, ev2, h1, h2, h5, h6, hlt, hle', hc, hlen, hC', hD', recheck, wantedS, SV.same_self, Bool.and_self]); (first | (with_reducible refine Nz.go ?_) | refine Hold_some ?_)))
          (refine Hold1_of ?_; (conv => arg 1; simp only [ev, sop, bounds, loI, hiI, fillParts, binSV, intBin, unSV, simprocAttr, ev2, resultsSV, resMany, resOne]); refine Hold1_some ?_)
          refine ⟨false, rfl, fun _ => ⟨?_, ⟨by omega, fun t ht => ?_⟩, hA'⟩⟩
          · exact (hN2 hC).mono hC
          · obtain ⟨j, hj⟩ := List.mem_iff_getElem?.1 ht
            exact absurd hD hle
        · have hD' : (n : Int) > 120 := by omega
          repeat (first | (with_reducible refine Nx.go ?_) | ((with_reducible refine Ny.go ?_); (conv => arg 1; simp only [ev, sop, bounds, loI, hiI, fillParts, binSV, intBin, unSV, simprocAttr, ev2, h1, h2, h5, h6, hlt, hle', hc, hlen, hC', hD', recheck, wantedS, SV.same_self, Bool.and_self]); (first | (with_reducible refine Nz.go ?_) | refine Hold_some ?_)))
          (refine Hold1_of ?_; (conv => arg 1; simp only [ev, sop, bounds, loI, hiI, fillParts, binSV, intBin, unSV, simprocAttr, ev2, resultsSV, resMany, resOne]); refine Hold1_some ?_)
          exact ⟨true, rfl, fun h => by cases h⟩
      · have hC' : (N : Int) > 2000 := by omega
        repeat (first | (with_reducible refine Nx.go ?_) | ((with_reducible refine Ny.go ?_); (conv => arg 1; simp only [ev, sop, bounds, loI, hiI, fillParts, binSV, intBin, unSV, simprocAttr, ev2, h1, h2, h5, h6, hlt, hle', hc, hlen, hC', recheck, wantedS, SV.same_self, Bool.and_self]); (first | (with_reducible refine Nz.go ?_) | refine Hold_some ?_)))
        (refine Hold1_of ?_; (conv => arg 1; simp only [ev, sop, bounds, loI, hiI, fillParts, binSV, intBin, unSV, simprocAttr, ev2, resultsSV, resMany, resOne]); refine Hold1_some ?_)
        exact ⟨true, rfl, fun h => by cases h⟩

  have hle' : (n : Int) ≤ 120 := by omega
  obtain ⟨x, hx⟩ := get_of_lt hlt
  have hv := tiles_of_lt hlt
  rw [hv] at h1
  have hcx := cut_tile2 hx
  have hbx := ht.2 x (List.mem_of_getElem? hx)
  have hw4 : IntKind.i64.wrap ((n : Int) + ((ol x.blocks).length : Int)) = ((n + (ol x.blocks).length : Nat) : Int) := by rw [i64_in _ (by omega) (by omega)]; rfl
  have hw5 : IntKind.i64.wrap ((i : Int) + 1) = ((i + 1 : Nat) : Int) := by have := ht.1; rw [i64_in _ (by omega) (by omega)]; rfl
  repeat (first | (with_reducible refine Nx.go ?_) | ((with_reducible refine Ny.go ?_); (conv => arg 1; simp only [ev, sop, bounds, loI, hiI, fillParts, binSV, intBin, unSV, simprocAttr, ev2, h1, h2, h5, h6, hlt, hle', hcx, hw4, hw5, recheck, wantedS, SV.same_self, Bool.and_self]); (first | (with_reducible refine Nz.go ?_) | refine Hold_some ?_)))
  refine ⟨_, by omega, i + 1, n + (ol x.blocks).length, rfl, by omega, by omega, by omega, by simp only [ev, sop, bounds, loI, hiI, fillParts, binSV, intBin, unSV, simprocAttr, ev2, h1]; exact hv.symm, by simp only [ev, sop, bounds, loI, hiI, fillParts, binSV, intBin, unSV, simprocAttr, ev2, h2], by simp only [ev, sop, bounds, loI, hiI, fillParts, binSV, intBin, unSV, simprocAttr, ev2], by simp only [ev, sop, bounds, loI, hiI, fillParts, binSV, intBin, unSV, simprocAttr, ev2], hc, fun h j y hj hy => ?_⟩
  by_cases e : j = i
  · subst e; rw [hx] at hy; cases hy; omega
  · have := hseen hle j y (by omega) hy; omega
end Go.Proofs.Ytojjhcgbbmknmaa.Sh

/- Right tiles: what follows of them (no program in sight); small functions of law 17. -/
namespace Go.Proofs.Ytojjhcgbbmknmaa.Sh
set_option linter.unusedSimpArgs false
set_option linter.unusedVariables false
open Go Go.Proofs

theorem nodup_len {α : Type} [DecidableEq α] : ∀ {l m : List α}, l.Nodup → (∀ x ∈ l, x ∈ m) → l.length ≤ m.length
  | [], m, _, _ => by simp
  | a :: l, m, hn, hs => by
    rw [List.nodup_cons] at hn
    have h1 := nodup_len (m := m.erase a) hn.2 (fun x hx => (List.mem_erase_of_ne (fun e => hn.1 (by rw [← e]; exact hx))).2 (hs x (by simp [hx])))
    have ha := hs a (by simp)
    rw [List.length_erase_of_mem ha] at h1
    have : 0 < m.length := List.length_pos_of_mem ha
    simp only [List.length_cons]; omega

theorem rawK_mem {l : List TileD} {k : Nat} {y : Int} : ∀ {m : Nat}, y ∈ rawK l k m ↔ ∃ (b : Nat) (t : TileD), b ∈ belowK l k m ∧ l[b]? = some t ∧ y ∈ ol t.blocks
  | 0 => by
    rw [rawK]
    constructor
    · intro h
      cases e : l[k]? with
      | none => rw [e] at h; simp at h
      | some t => rw [e] at h; exact ⟨k, t, by simp [belowK], e, h⟩
    · rintro ⟨b, t, hb, ht, hy⟩
      simp [belowK] at hb
      subst hb
      rw [ht]; exact hy
  | m + 1 => by
    have ih := rawK_mem (l := l) (k := k) (y := y) (m := m)
    rw [rawK, List.mem_append, ih]
    constructor
    · rintro (⟨b, t, h1, h2, h3⟩ | h)
      · exact ⟨b, t, by rw [belowK]; exact List.mem_append_left _ h1, h2, h3⟩
      · cases e : l[m]? with
        | none => rw [e] at h; simp at h
        | some t =>
          rw [e] at h
          simp only at h
          split at h
          · rename_i hc
            exact ⟨m, t, by rw [belowK, e]; simp [hc.1, hc.2], e, h⟩
          · simp at h
    · rintro ⟨b, t, h1, h2, h3⟩
      rw [belowK, List.mem_append] at h1
      rcases h1 with h1 | h1
      · exact .inl ⟨b, t, h1, h2, h3⟩
      · right
        cases e : l[m]? with
        | none => rw [e] at h1; simp at h1
        | some t' =>
          rw [e] at h1
          simp only at h1 ⊢
          split at h1
          · rename_i hc
            simp at h1; subst h1
            rw [if_pos hc]
            rw [h2] at e; cases e; exact h3
          · simp at h1
theorem belowK_mono {l : List TileD} {k b : Nat} {m : Nat} (h : b ∈ belowK l k m) : ∀ {m' : Nat}, m ≤ m' → b ∈ belowK l k m'
  | 0, hm => by rw [Nat.le_zero.1 hm] at h; exact h
  | m' + 1, hm => by
    by_cases e : m = m' + 1
    · subst e; exact h
    · rw [belowK]; exact List.mem_append_left _ (belowK_mono h (by omega))
theorem belowK_step {l : List TileD} {k m : Nat} {t : TileD} (ht : l[m]? = some t) (h0 : 0 ≤ t.parent) (h : t.parent.toNat ∈ belowK l k m) : m ∈ belowK l k (m + 1) := by
  rw [belowK, ht]; simp [h0, h]

theorem RightP.below {f : FuncD} {l : List TileD} (h : RightP f l) : ∀ m, m ≤ l.length → ∀ j, j < m → j ∈ belowK l 0 m
  | 0, _, j, hj => by omega
  | m + 1, hm, j, hj => by
    have ih := RightP.below h m (by omega)
    by_cases e : j = m
    rotate_left
    · exact belowK_mono (ih j (by omega)) (by omega)
    · subst e
      by_cases h0 : j = 0
      · subst h0; exact belowK_mono (m := 0) (by simp [belowK]) (by omega)
      · obtain ⟨t, ht⟩ := get_of_lt (show j < l.length by omega)
        have hp := h.par j t ht
        have hs := (h.all j t ht).1.top
        have : t.parent ≠ -1 := fun e => h0 (hs.2 e)
        exact belowK_step ht (by omega) (ih _ (by omega))
theorem RightP.range {f : FuncD} {l : List TileD} (h : RightP f l) {y : Int} : y ∈ blocksOf l ↔ 0 ≤ y ∧ y < (f.bl.length : Int) := by
  constructor
  · intro hy
    obtain ⟨t, ht, hy⟩ := List.mem_flatMap.1 hy
    obtain ⟨k, hk⟩ := List.mem_iff_getElem?.1 ht
    exact (h.all k t hk).1.rise.1 y hy
  · rintro ⟨h1, h2⟩
    obtain ⟨b, rfl⟩ := Int.eq_ofNat_of_zero_le h1
    exact h.parts.2 b (by omega)
theorem RightP.root {f : FuncD} {l : List TileD} (h : RightP f l) {y : Int} : y ∈ allL l 0 ↔ 0 ≤ y ∧ y < (f.bl.length : Int) := by
  rw [allL_mem, rawK_mem, ← h.range]
  constructor
  · rintro ⟨b, t, _, h2, h3⟩
    exact List.mem_flatMap.2 ⟨t, List.mem_of_getElem? h2, h3⟩
  · intro hy
    obtain ⟨t, ht, hy⟩ := List.mem_flatMap.1 hy
    obtain ⟨k, hk⟩ := List.mem_iff_getElem?.1 ht
    exact ⟨k, t, h.below _ (Nat.le_refl _) k (List.getElem?_eq_some_iff.1 hk).1, hk, hy⟩
theorem RightP.root_len {f : FuncD} {l : List TileD} (h : RightP f l) : (allL l 0).length = f.bl.length := by
  have h1 : (allL l 0).Nodup := (allL_rises l 0).imp (fun h => by omega)
  have h2 : ((List.range f.bl.length).map fun b : Nat => (b : Int)).Nodup := by
    rw [List.nodup_iff_pairwise_ne, List.pairwise_map]
    exact List.pairwise_lt_range.imp (fun h => by omega)
  have hm : ∀ x : Int, x ∈ allL l 0 ↔ x ∈ (List.range f.bl.length).map fun b : Nat => (b : Int) := by
    intro x
    rw [h.root]
    simp only [List.mem_map, List.mem_range]
    constructor
    · rintro ⟨g1, g2⟩
      obtain ⟨b, rfl⟩ := Int.eq_ofNat_of_zero_le g1
      exact ⟨b, by omega, rfl⟩
    · rintro ⟨b, hb, rfl⟩
      omega
  have h3 := nodup_len h1 (fun x hx => (hm x).1 hx)
  have h4 := nodup_len h2 (fun x hx => (hm x).2 hx)
  simp at h3 h4
  omega
/-- All blocks of a tile are its parent's. -/
theorem belowK_up {l : List TileD} (hp : parentsOk l) {k p : Nat} {x : TileD} (hx : l[k]? = some x) (hxp : x.parent = (p : Int)) : ∀ m, m ≤ l.length → (∀ b ∈ belowK l k m, b ≠ k → b ∈ belowK l p m) ∧ (k < m → k ∈ belowK l p m)
  | 0, _ => ⟨fun b hb hk => absurd (by simpa [belowK] using hb) hk, fun h => by omega⟩
  | m + 1, hm => by
    obtain ⟨i1, i2⟩ := belowK_up hp hx hxp m (by omega)
    have hk : k < l.length := (List.getElem?_eq_some_iff.1 hx).1
    have hpk := hp k x hx
    have two : k < m + 1 → k ∈ belowK l p (m + 1) := by
      intro h
      by_cases e : k = m
      · subst e
        exact belowK_step hx (by omega) (by rw [hxp]; exact belowK_mono (m := 0) (by simp [belowK]) (by omega))
      · exact belowK_mono (i2 (by omega)) (by omega)
    refine ⟨fun b hb hbk => ?_, two⟩
    rw [belowK, List.mem_append] at hb
    rcases hb with hb | hb
    · exact belowK_mono (i1 b hb hbk) (by omega)
    · obtain ⟨t, ht⟩ := get_of_lt (show m < l.length by omega)
      rw [ht] at hb
      simp only at hb
      split at hb
      · rename_i hc
        simp at hb; subst hb
        refine belowK_step ht hc.1 ?_
        by_cases e : t.parent.toNat = k
        · rw [e]
          have h1 := hp b t ht
          exact i2 (by omega)
        · exact i1 _ hc.2 e
      · simp at hb
theorem allL_up {l : List TileD} (hp : parentsOk l) {k p : Nat} {x : TileD} (hx : l[k]? = some x) (hxp : x.parent = (p : Int)) {y : Int} (h : y ∈ allL l k) : y ∈ allL l p := by
  rw [allL_mem, rawK_mem] at h ⊢
  obtain ⟨b, t, h1, h2, h3⟩ := h
  obtain ⟨i1, i2⟩ := belowK_up hp hx hxp l.length (Nat.le_refl _)
  refine ⟨b, t, ?_, h2, h3⟩
  by_cases e : b = k
  · subst e; exact i2 (List.getElem?_eq_some_iff.1 hx).1
  · exact i1 b h1 e
/-- One block less: they do not part the blocks. -/
theorem Parts.less {n : Nat} {l : List TileD} (h : Parts n l) {k : Nat} {x : TileD} (hx : l[k]? = some x) {y : Int} {r : List Int} (hb : ol x.blocks = y :: r) (hr : Rises n (ol x.blocks)) : ¬ Parts n (l.set k { x with blocks := some r }) := by
  intro h'
  have hy := hr.1 y (by rw [hb]; simp)
  obtain ⟨b, rfl⟩ := Int.eq_ofNat_of_zero_le hy.1
  have hbn : b < n := by omega
  obtain ⟨t, ht, hm⟩ := List.mem_flatMap.1 (h'.2 b hbn)
  obtain ⟨j, hj⟩ := List.mem_iff_getElem?.1 ht
  by_cases e : j = k
  · subst e
    rw [List.getElem?_set_self (List.getElem?_eq_some_iff.1 hx).1] at hj
    cases hj
    have h2 := hr.2
    rw [hb] at h2
    have := List.rel_of_pairwise_cons h2 hm
    omega
  · rw [List.getElem?_set_ne (by omega)] at hj
    exact e (h.one hbn hj hx hm (by rw [hb]; simp))
/-- One told twice: neither. -/
theorem Parts.twice {n : Nat} {l : List TileD} {k : Nat} {x : TileD} (hx : l[k]? = some x) {y : Int} {r : List Int} (hb : ol x.blocks = y :: r) (hr : Rises n (ol x.blocks)) : ¬ Parts n (l.set k { x with blocks := some (ol x.blocks ++ [y]) }) := by
  intro h'
  have hy := hr.1 y (by rw [hb]; simp)
  have hk : k < l.length := (List.getElem?_eq_some_iff.1 hx).1
  have h1 := h'.1
  rw [List.set_eq_take_append_cons_drop, if_pos hk] at h1
  unfold inR blocksOf at h1
  rw [List.flatMap_append, List.flatMap_cons, List.filter_append, List.filter_append, List.nodup_append, List.nodup_append] at h1
  have h2 := h1.2.1.1
  simp only [ol, Option.getD_some] at h2
  rw [List.filter_append, List.nodup_append] at h2
  refine h2.2.2 y (List.mem_filter.2 ⟨?_, by simp; omega⟩) y (List.mem_filter.2 ⟨by simp, by simp; omega⟩) rfl
  have : y ∈ ol x.blocks := by rw [hb]; simp
  simpa [ol] using this

/-! ### Small functions -/
set_option maxHeartbeats 2000000 in
theorem t_among17 (o : Option (List Int)) (x : Int) (hl : (ol o).length ≤ 2 ^ 40) : Tells 23 [intsV o, .sc (.int .i64 x)] (.sc (.bool (decide (x ∈ ol o)))) := by
  refine tells_fn rfl rfl rfl rfl ?_
  repeat (first | (with_reducible refine Nx.go ?_) | ((with_reducible refine Ny.go ?_); (conv => arg 1; simp only [ev, sop, bounds, loI, hiI, fillParts, binSV, intBin, unSV, simprocAttr, ev2, ev4, recheck, wantedS, SV.same_self, Bool.and_self]); (first | (with_reducible refine Nz.go ?_) | refine Hold_some ?_)))
  refine WP_blockloop (fun q t σ => ∃ k : Nat, q = (ol o).length - k ∧ k ≤ (ol o).length ∧ getT t 0 = intsV o ∧ getT t 1 = .sc (.int .i64 x) ∧ getT t 5 = .sc (.int .i64 (k : Int)) ∧ ∀ (j : Nat) (y : Int), j < k → (ol o)[j]? = some y → y ≠ x) (k0 := (ol o).length)
    ⟨0, by simp, by omega, by simp only [ev, sop, bounds, loI, hiI, fillParts, binSV, intBin, unSV, simprocAttr, ev2, ev4], by simp only [ev, sop, bounds, loI, hiI, fillParts, binSV, intBin, unSV, simprocAttr, ev2, ev4], by simp only [ev, sop, bounds, loI, hiI, fillParts, binSV, intBin, unSV, simprocAttr, ev2, ev4], fun j y h => by omega⟩ ?_
  rintro q t σ ⟨k, rfl, hk, g0, g1, g5, hI⟩
  by_cases hlt : k < (ol o).length
  · obtain ⟨y, hy⟩ := get_of_lt hlt
    rw [ints_of_lt hlt] at g0
    have hcy := cut_ints hy
    have hlt' : (k : Int) < ((ol o).length : Int) := by omega
    have hk0 : 0 ≤ (k : Int) := by omega
    have hw : IntKind.i64.wrap ((k : Int) + 1) = ((k + 1 : Nat) : Int) := by rw [i64_in _ (by omega) (by omega)]; rfl
    by_cases e : y = x
    · have e' : (y == x) = true := by simpa using e
      repeat (first | (with_reducible refine Nx.go ?_) | ((with_reducible refine Ny.go ?_); (conv => arg 1; simp only [ev, sop, bounds, loI, hiI, fillParts, binSV, intBin, unSV, simprocAttr, ev2, ev4, g0, g1, g5, hlt, hlt', hk0, hcy, e', recheck, wantedS, SV.same_self, Bool.and_self]); (first | (with_reducible refine Nz.go ?_) | refine Hold_some ?_)))
      (refine Hold1_of ?_; (conv => arg 1; simp only [ev, sop, bounds, loI, hiI, fillParts, binSV, intBin, unSV, simprocAttr, ev2, ev4, resultsSV, resMany, resOne]); refine Hold1_some ?_)
      rw [decide_eq_true (by rw [← e]; exact List.mem_of_getElem? hy)]
      exact frz_of_pure rfl
    · have e' : (y == x) = false := by simpa using e
      repeat (first | (with_reducible refine Nx.go ?_) | ((with_reducible refine Ny.go ?_); (conv => arg 1; simp only [ev, sop, bounds, loI, hiI, fillParts, binSV, intBin, unSV, simprocAttr, ev2, ev4, g0, g1, g5, hlt, hlt', hk0, hcy, e', hw, recheck, wantedS, SV.same_self, Bool.and_self]); (first | (with_reducible refine Nz.go ?_) | refine Hold_some ?_)))
      refine ⟨(ol o).length - (k + 1), by omega, k + 1, rfl, by omega, by simp only [ev, sop, bounds, loI, hiI, fillParts, binSV, intBin, unSV, simprocAttr, ev2, ev4, g0]; exact (ints_of_lt hlt).symm, by simp only [ev, sop, bounds, loI, hiI, fillParts, binSV, intBin, unSV, simprocAttr, ev2, ev4, g1], by simp only [ev, sop, bounds, loI, hiI, fillParts, binSV, intBin, unSV, simprocAttr, ev2, ev4], fun j z hj hz => ?_⟩
      by_cases e2 : j = k
      · subst e2; rw [hy] at hz; cases hz; exact e
      · exact hI j z (by omega) hz
  · have hlt' : ¬ (k : Int) < ((ol o).length : Int) := by omega
    repeat (first | (with_reducible refine Nx.go ?_) | ((with_reducible refine Ny.go ?_); (conv => arg 1; simp only [ev, sop, bounds, loI, hiI, fillParts, binSV, intBin, unSV, simprocAttr, ev2, ev4, g0, g1, g5, hlt', recheck, wantedS, SV.same_self, Bool.and_self]); (first | (with_reducible refine Nz.go ?_) | refine Hold_some ?_)))
    (refine Hold1_of ?_; (conv => arg 1; simp only [ev, sop, bounds, loI, hiI, fillParts, binSV, intBin, unSV, simprocAttr, ev2, ev4, resultsSV, resMany, resOne]); refine Hold1_some ?_)
    have : x ∉ ol o := fun h => by
      obtain ⟨j, hj⟩ := List.mem_iff_getElem?.1 h
      exact hI j x (by have := (List.getElem?_eq_some_iff.1 hj).1; omega) hj rfl
    rw [decide_eq_false this]
    exact frz_of_pure rfl
theorem t_pick (a : Int) (n : Nat) (h1 : 1 ≤ n) (h2 : n ≤ 2 ^ 40) : ∃ j : Nat, j < n ∧ Tells 24 [.sc (.int .i64 a), .sc (.int .i64 (n : Int))] (.sc (.int .i64 (j : Int))) := by
  have hn0 : ¬ (n : Int) < 1 := by omega
  have hnz : ((n : Int) = 0) = False := by simp; omega
  have l1 := Int.tmod_lt_of_pos a (show (0 : Int) < n by omega)
  have l2 := Int.lt_tmod_of_pos a (show (0 : Int) < n by omega)
  by_cases h : a.tmod n < 0
  · obtain ⟨j, hj⟩ := Int.eq_ofNat_of_zero_le (show 0 ≤ a.tmod n + n by omega)
    refine ⟨j, by omega, ?_⟩
    refine tells_fn rfl rfl rfl rfl ?_
    have hw : IntKind.i64.wrap (a.tmod n + n) = (j : Int) := by rw [i64_in _ (by omega) (by omega)]; exact hj
    repeat (first | (with_reducible refine Nx.go ?_) | ((with_reducible refine Ny.go ?_); (conv => arg 1; simp only [ev, sop, bounds, loI, hiI, fillParts, binSV, intBin, unSV, simprocAttr, ev2, ev4, hn0, hnz, h, hw, recheck, wantedS, SV.same_self, Bool.and_self]); (first | (with_reducible refine Nz.go ?_) | refine Hold_some ?_)))
    (refine Hold1_of ?_; (conv => arg 1; simp only [ev, sop, bounds, loI, hiI, fillParts, binSV, intBin, unSV, simprocAttr, ev2, ev4, resultsSV, resMany, resOne]); refine Hold1_some ?_)
    exact frz_of_pure rfl
  · obtain ⟨j, hj⟩ := Int.eq_ofNat_of_zero_le (show 0 ≤ a.tmod n by omega)
    refine ⟨j, by omega, ?_⟩
    refine tells_fn rfl rfl rfl rfl ?_
    repeat (first | (with_reducible refine Nx.go ?_) | ((with_reducible refine Ny.go ?_); (conv => arg 1; simp only [ev, sop, bounds, loI, hiI, fillParts, binSV, intBin, unSV, simprocAttr, ev2, ev4, hn0, hnz, h, recheck, wantedS, SV.same_self, Bool.and_self]); (first | (with_reducible refine Nz.go ?_) | refine Hold_some ?_)))
    (refine Hold1_of ?_; (conv => arg 1; simp only [ev, sop, bounds, loI, hiI, fillParts, binSV, intBin, unSV, simprocAttr, ev2, ev4, resultsSV, resMany, resOne]); refine Hold1_some ?_)
    rw [hj]
    exact frz_of_pure rfl
end Go.Proofs.Ytojjhcgbbmknmaa.Sh

/- Law 17, TileRight: it answers true. -/
namespace Go.Proofs.Ytojjhcgbbmknmaa.Sh
set_option linter.unusedSimpArgs false
set_option linter.unusedVariables false
open Go Go.Proofs

theorem c_awake17 {m : Nat} {σ : St} (hm : 0 < m) : WPF (EV m) 20 [] σ (fun v σ' => v = .sc (.bool true) ∧ σ' = σ) :=
  WPF_ext (g := yesG) (v := .sc (.bool true)) (σ' := σ) (envAt_base (f := 20) rfl hm) rfl ⟨rfl, rfl⟩
theorem blocksOf_len {N : Nat} : ∀ {l : List TileD}, (∀ t ∈ l, (ol t.blocks).length ≤ N) → (blocksOf l).length ≤ l.length * N
  | [], _ => by simp [blocksOf]
  | t :: l, h => by
    have h1 := blocksOf_len (l := l) (fun x hx => h x (by simp [hx]))
    have h2 := h t (by simp)
    have e : blocksOf (t :: l) = ol t.blocks ++ blocksOf l := by simp [blocksOf]
    rw [e, List.length_append, List.length_cons, Nat.add_mul]; omega
theorem tiles_set2 {o' : Option (List Int)} (v : SV) (hv : v = intsV o') : ∀ {l : List TileD} {j : Nat} {x : TileD}, l[j]? = some x → (l.flatMap TileD.cells).set (j * 3 + 2) v = (l.set j { x with blocks := o' }).flatMap TileD.cells
  | [], j, x, h => by simp at h
  | t :: l, 0, x, h => by simp at h; subst h; subst hv; rfl
  | t :: l, j + 1, x, h => by
    rw [List.flatMap_cons, List.set_cons_succ, List.flatMap_cons, ← tiles_set2 v hv (l := l) (j := j) (by simpa using h), show (j + 1) * 3 + 2 = j * 3 + 2 + 1 + 1 + 1 by omega]
    rfl
theorem tiles_len (l : List TileD) : (l.flatMap TileD.cells).length = l.length * 3 := flat_len (enc := TileD.cells) (sz := 3) (fun _ => rfl) l
theorem frz_slD {σ : St} {d id off n sz : Nat} {cs ds : List SV} (h : cellsOf σ id = some cs) (hc : cut cs off (n * sz) = some ds) (hp : pures ds = true) : frz σ (d + 2) (.sl id off n sz) = some (.lst n sz ds) := by
  unfold frz
  rw [if_neg (by simp [SV.pure])]
  simp only [h, Option.bind_some, hc]
  rw [mapO_pures hp]
  rfl
/-- Tiles one of which has its blocks in a row that lies in a block of its own. -/
theorem frz_tiles {σ : St} {id : Nat} {l : List TileD} {j : Nat} {x : TileD} {v : SV} {o' : Option (List Int)} (hx : l[j]? = some x) (h : cellsOf σ id = some ((l.flatMap TileD.cells).set (j * 3 + 2) v)) (hv : frz σ 19 v = some (intsV o')) :
    frz σ 20 (.sl id 0 l.length 3) = some (tilesV (some (l.set j { x with blocks := o' }))) := by
  have hlen := tiles_len l
  have hj : j < l.length := (List.getElem?_eq_some_iff.1 hx).1
  have hm : mapO (frz σ 19) ((l.flatMap TileD.cells).set (j * 3 + 2) v) = some ((l.set j { x with blocks := o' }).flatMap TileD.cells) := by
    rw [← tiles_set2 (intsV o') rfl hx]
    refine mapO_of (by simp) (fun i a b ha hb => ?_)
    rw [List.getElem?_set] at ha hb
    by_cases e : j * 3 + 2 = i
    · rw [if_pos e] at ha hb
      rw [if_pos (by rw [hlen]; omega)] at ha hb
      cases ha; cases hb; exact hv
    · rw [if_neg e] at ha hb
      rw [ha] at hb; cases hb
      have hp : a.pure = true := pures_iff.1 (pures_tiles l) a (List.mem_of_getElem? ha)
      exact frz_pure hp
  show frz σ (19 + 1) _ = _
  unfold frz
  rw [if_neg (by simp [SV.pure])]
  simp only [h, Option.bind_some]
  rw [cut_whole (by rw [List.length_set, hlen])]
  simp only [Option.bind_some, hm, Option.map_some]
  show some (SV.lst l.length 3 _) = some (SV.lst (l.set j _).length 3 _)
  rw [List.length_set]

theorem WPS_gen {E : Env} {ss : List Step} {t : Tr SV} {σ0 : St} {QS : Tr SV → St → Prop} {F : St → Prop} (hF : F σ0) (h : ∀ σ, F σ → WPS E ss t σ QS) : WPS E ss t σ0 QS := h _ hF
set_option maxHeartbeats 16000000 in
theorem t_tileRight (f : FuncD) (o : Option (List TileD)) (turn : Int) (hw : f.within (2 ^ 47)) (ht : tilesWithin (2 ^ 47) (ol o)) : Tells 5 [f.sv, tilesV o, .sc (.int .i64 turn)] (.sc (.bool true)) := by
  have hl : f.bl.length ≤ 2 ^ 47 := hw.2.1
  obtain ⟨g, hg1, hg2⟩ := t_great17 f o hw ht
  have hblen : lenSV (blksV f.blocks) = some f.bl.length := lenSV_rec _
  have hlen : lenSV (tilesV o) = some (ol o).length := lenSV_rec o
  refine tells_fn rfl rfl rfl rfl ?_
  rw [show f.sv = .agg [intsV f.params, blksV f.blocks] from rfl] at *
  repeat (first | (with_reducible refine Nx.go ?_) | ((with_reducible refine Ny.go ?_); (conv => arg 1; simp only [ev, sop, bounds, loI, hiI, fillParts, binSV, intBin, unSV, simprocAttr, ev2, ev4, recheck, wantedS, SV.same_self, Bool.and_self]); (first | (with_reducible refine Nz.go ?_) | refine Hold_some ?_)))
  refine st_callf (by first | with_reducible exact wantedS_none | (refine wantedS_some ?_; simp only [ev, sop, bounds, loI, hiI, fillParts, binSV, intBin, unSV, simprocAttr, ev2, ev4]; done)) (by simp only [ev, sop, bounds, loI, hiI, fillParts, binSV, intBin, unSV, simprocAttr, ev2, ev4] <;> rfl) (by simp only [ev, sop, bounds, loI, hiI, fillParts, binSV, intBin, unSV, simprocAttr, ev2, ev4] <;> rfl) ?_
  refine (c_awake17 (by decide)).mono ?_
  rintro v σ1 ⟨rfl, rfl⟩
  refine ⟨recheck_nil, ?_⟩
  repeat (first | (with_reducible refine Nx.go ?_) | ((with_reducible refine Ny.go ?_); (conv => arg 1; simp only [ev, sop, bounds, loI, hiI, fillParts, binSV, intBin, unSV, simprocAttr, ev2, ev4, recheck, wantedS, SV.same_self, Bool.and_self]); (first | (with_reducible refine Nz.go ?_) | refine Hold_some ?_)))
  refine st_tellp (hg1) ⟨_, rfl, by first | omega | decide⟩ (by first | with_reducible exact wantedS_none | (refine wantedS_some ?_; simp only [ev, sop, bounds, loI, hiI, fillParts, binSV, intBin, unSV, simprocAttr, ev2, ev4]; done)) (by simp only [ev, sop, bounds, loI, hiI, fillParts, binSV, intBin, unSV, simprocAttr, ev2, ev4] <;> rfl) (by first | rfl | simp [pures, SV.pure, *, pure_func, pure_ints, pure_blks, pure_insV, pure_rows, pure_tiles, pure_set, pures_set, pures_tiles]) (by first | with_reducible exact recheck_nil | (simp only [recheck, wantedS]; simp only [ev, sop, bounds, loI, hiI, fillParts, binSV, intBin, unSV, simprocAttr, ev2, ev4]; simp only [SV.same_self, Bool.and_self, beq_self_eq_true])) ?_
  cases g with
  | true =>
    repeat (first | (with_reducible refine Nx.go ?_) | ((with_reducible refine Ny.go ?_); (conv => arg 1; simp only [ev, sop, bounds, loI, hiI, fillParts, binSV, intBin, unSV, simprocAttr, ev2, ev4, recheck, wantedS, SV.same_self, Bool.and_self]); (first | (with_reducible refine Nz.go ?_) | refine Hold_some ?_)))
    (refine Hold1_of ?_; (conv => arg 1; simp only [ev, sop, bounds, loI, hiI, fillParts, binSV, intBin, unSV, simprocAttr, ev2, ev4, resultsSV, resMany, resOne]); refine Hold1_some ?_)
    exact frz_of_pure rfl
  | false =>
  obtain ⟨hw2, ht2, _⟩ := hg2 rfl
  have ht30 : tilesWithin (2 ^ 30) (ol o) := ⟨by have := ht2.1; omega, fun t h => by have := ht2.2 t h; omega⟩
  have htot : (blocksOf (ol o)).length ≤ 2 ^ 14 := by
    have h1 := blocksOf_len ht2.2
    have h2 := Nat.mul_le_mul_right 120 ht2.1
    omega
  obtain ⟨r, hR1, hR2⟩ := t_Right f o hl ht30 (by omega)
  rw [show f.sv = .agg [intsV f.params, blksV f.blocks] from rfl] at *
  repeat (first | (with_reducible refine Nx.go ?_) | ((with_reducible refine Ny.go ?_); (conv => arg 1; simp only [ev, sop, bounds, loI, hiI, fillParts, binSV, intBin, unSV, simprocAttr, ev2, ev4, recheck, wantedS, SV.same_self, Bool.and_self]); (first | (with_reducible refine Nz.go ?_) | refine Hold_some ?_)))
  refine st_tellp (hR1) ⟨_, rfl, by first | omega | decide⟩ (by first | with_reducible exact wantedS_none | (refine wantedS_some ?_; simp only [ev, sop, bounds, loI, hiI, fillParts, binSV, intBin, unSV, simprocAttr, ev2, ev4]; done)) (by simp only [ev, sop, bounds, loI, hiI, fillParts, binSV, intBin, unSV, simprocAttr, ev2, ev4] <;> rfl) (by first | rfl | simp [pures, SV.pure, *, pure_func, pure_ints, pure_blks, pure_insV, pure_rows, pure_tiles, pure_set, pures_set, pures_tiles]) (by first | with_reducible exact recheck_nil | (simp only [recheck, wantedS]; simp only [ev, sop, bounds, loI, hiI, fillParts, binSV, intBin, unSV, simprocAttr, ev2, ev4]; simp only [SV.same_self, Bool.and_self, beq_self_eq_true])) ?_
  cases r with
  | false =>
    repeat (first | (with_reducible refine Nx.go ?_) | ((with_reducible refine Ny.go ?_); (conv => arg 1; simp only [ev, sop, bounds, loI, hiI, fillParts, binSV, intBin, unSV, simprocAttr, ev2, ev4, recheck, wantedS, SV.same_self, Bool.and_self]); (first | (with_reducible refine Nz.go ?_) | refine Hold_some ?_)))
    (refine Hold1_of ?_; (conv => arg 1; simp only [ev, sop, bounds, loI, hiI, fillParts, binSV, intBin, unSV, simprocAttr, ev2, ev4, resultsSV, resMany, resOne]); refine Hold1_some ?_)
    exact frz_of_pure rfl
  | true =>
  have hR := hR2.1 rfl
  have hn1 := hR.fits.1.1
  have hn2 := hR.fits.1.2.1
  obtain ⟨r, e, hO1, hO2, _⟩ := t_Own f o hl ht
  obtain ⟨hO3, hO4⟩ := hO2 hR.fits
  cases r with
  | none => exact absurd hR.parts (hO3.no rfl)
  | some out =>
  obtain ⟨_, hol, hoat⟩ := hO3.yes out rfl
  have he : e = 0 := by rw [hO4]; rfl
  subst he
  obtain ⟨r0, hA1, hA2, _⟩ := t_tAll o 0 ht30 (by omega)
  obtain ⟨x0, hx0, _⟩ := hR.first
  have hN : 1 ≤ (ol o).length := (List.getElem?_eq_some_iff.1 hx0).1
  have hA3 : (ol r0).length = f.bl.length := by rw [hA2 0 rfl hN hR.par, hR.root_len]
  have h00 : ((0 : Int) != 0) = false := rfl
  have hnn : ((f.bl.length : Int) != (f.bl.length : Int)) = false := by simp
  rw [show f.sv = .agg [intsV f.params, blksV f.blocks] from rfl] at *
  repeat (first | (with_reducible refine Nx.go ?_) | ((with_reducible refine Ny.go ?_); (conv => arg 1; simp only [ev, sop, bounds, loI, hiI, fillParts, binSV, intBin, unSV, simprocAttr, ev2, ev4, recheck, wantedS, SV.same_self, Bool.and_self]); (first | (with_reducible refine Nz.go ?_) | refine Hold_some ?_)))
  refine st_tellp (hO1) ⟨_, rfl, by first | omega | decide⟩ (by first | with_reducible exact wantedS_none | (refine wantedS_some ?_; simp only [ev, sop, bounds, loI, hiI, fillParts, binSV, intBin, unSV, simprocAttr, ev2, ev4]; done)) (by simp only [ev, sop, bounds, loI, hiI, fillParts, binSV, intBin, unSV, simprocAttr, ev2, ev4] <;> rfl) (by first | rfl | simp [pures, SV.pure, *, pure_func, pure_ints, pure_blks, pure_insV, pure_rows, pure_tiles, pure_set, pures_set, pures_tiles]) (by first | with_reducible exact recheck_nil | (simp only [recheck, wantedS]; simp only [ev, sop, bounds, loI, hiI, fillParts, binSV, intBin, unSV, simprocAttr, ev2, ev4]; simp only [SV.same_self, Bool.and_self, beq_self_eq_true])) ?_
  repeat (first | (with_reducible refine Nx.go ?_) | ((with_reducible refine Ny.go ?_); (conv => arg 1; simp only [ev, sop, bounds, loI, hiI, fillParts, binSV, intBin, unSV, simprocAttr, ev2, ev4, h00, hblen, recheck, wantedS, SV.same_self, Bool.and_self]); (first | (with_reducible refine Nz.go ?_) | refine Hold_some ?_)))
  refine st_tellp (hA1) ⟨_, rfl, by first | omega | decide⟩ (by first | with_reducible exact wantedS_none | (refine wantedS_some ?_; simp only [ev, sop, bounds, loI, hiI, fillParts, binSV, intBin, unSV, simprocAttr, ev2, ev4, h00, hblen]; done)) (by simp only [ev, sop, bounds, loI, hiI, fillParts, binSV, intBin, unSV, simprocAttr, ev2, ev4, h00, hblen] <;> rfl) (by first | rfl | simp [pures, SV.pure, *, pure_func, pure_ints, pure_blks, pure_insV, pure_rows, pure_tiles, pure_set, pures_set, pures_tiles]) (by first | with_reducible exact recheck_nil | (simp only [recheck, wantedS]; simp only [ev, sop, bounds, loI, hiI, fillParts, binSV, intBin, unSV, simprocAttr, ev2, ev4, h00, hblen]; simp only [SV.same_self, Bool.and_self, beq_self_eq_true])) ?_
  repeat (first | (with_reducible refine Nx.go ?_) | ((with_reducible refine Ny.go ?_); (conv => arg 1; simp only [ev, sop, bounds, loI, hiI, fillParts, binSV, intBin, unSV, simprocAttr, ev2, ev4, hA3, hnn, recheck, wantedS, SV.same_self, Bool.and_self]); (first | (with_reducible refine Nz.go ?_) | refine Hold_some ?_)))
  obtain ⟨S, hS⟩ : ∃ S, S = St.empty.push (.cells [intsV f.params, blksV f.blocks]) := ⟨_, rfl⟩
  rw [← hS]
  have hv := tiles_of_lt (show 0 < (ol o).length by omega)
  have hN40 : (ol o).length ≤ 2 ^ 20 := by have := ht2.1; omega
  have hio : intsV (some out) = .lst out.length 1 (out.map SV.int) := rfl
  have beqs := beqs
  -- each block is just its own tile's
  refine WP_blockloop (fun q t σ => ∃ b : Nat, q = out.length - b ∧ b ≤ out.length ∧ getT t 1 = tilesV o ∧ getT t 2 = .sc (.int .i64 turn) ∧ getT t 3 = .ptr 0 0 ∧ getT t 7 = intsV (some out) ∧ getT t 9 = .sc (.int .i64 (b : Int)) ∧ S = σ) (k0 := out.length)
    ⟨0, by simp, by omega, by simp only [ev, sop, bounds, loI, hiI, fillParts, binSV, intBin, unSV, simprocAttr, ev2, ev4], by simp only [ev, sop, bounds, loI, hiI, fillParts, binSV, intBin, unSV, simprocAttr, ev2, ev4], by simp only [ev, sop, bounds, loI, hiI, fillParts, binSV, intBin, unSV, simprocAttr, ev2, ev4], by simp only [ev, sop, bounds, loI, hiI, fillParts, binSV, intBin, unSV, simprocAttr, ev2, ev4], by simp only [ev, sop, bounds, loI, hiI, fillParts, binSV, intBin, unSV, simprocAttr, ev2, ev4], rfl⟩ ?_
  rintro q t σ ⟨b, rfl, hb, g1, g2, g3, g7, g9, rfl⟩
  by_cases hlt : b < out.length
  · have hlt' : (b : Int) < (out.length : Int) := by omega
    repeat (first | (with_reducible refine Nx.go ?_) | ((with_reducible refine Ny.go ?_); (conv => arg 1; simp only [ev, sop, bounds, loI, hiI, fillParts, binSV, intBin, unSV, simprocAttr, ev2, ev4, g1, g2, g3, g7, g9, hio, hlt', recheck, wantedS, SV.same_self, Bool.and_self]); (first | (with_reducible refine Nz.go ?_) | refine Hold_some ?_)))
    refine WP_blockloop (fun q t σ => ∃ k : Nat, q = (ol o).length - k ∧ k ≤ (ol o).length ∧ getT t 1 = tilesV o ∧ getT t 2 = .sc (.int .i64 turn) ∧ getT t 3 = .ptr 0 0 ∧ getT t 7 = intsV (some out) ∧ getT t 9 = .sc (.int .i64 (b : Int)) ∧ getT t 10 = .sc (.int .i64 (k : Int)) ∧ S = σ) (k0 := (ol o).length)
      ⟨0, by simp, by omega, by simp only [ev, sop, bounds, loI, hiI, fillParts, binSV, intBin, unSV, simprocAttr, ev2, ev4, g1], by simp only [ev, sop, bounds, loI, hiI, fillParts, binSV, intBin, unSV, simprocAttr, ev2, ev4, g2], by simp only [ev, sop, bounds, loI, hiI, fillParts, binSV, intBin, unSV, simprocAttr, ev2, ev4, g3], by simp only [ev, sop, bounds, loI, hiI, fillParts, binSV, intBin, unSV, simprocAttr, ev2, ev4, g7], by simp only [ev, sop, bounds, loI, hiI, fillParts, binSV, intBin, unSV, simprocAttr, ev2, ev4, g9], by simp only [ev, sop, bounds, loI, hiI, fillParts, binSV, intBin, unSV, simprocAttr, ev2, ev4], rfl⟩ ?_
    clear g1 g2 g3 g7 g9
    rintro q t σ' ⟨k, rfl, hk, g1, g2, g3, g7, g9, g10, rfl⟩
    by_cases hkt : k < (ol o).length
    · have hkt' : (k : Int) < ((ol o).length : Int) := by omega
      have hk0 : 0 ≤ (k : Int) := by omega
      have hb0 : 0 ≤ (b : Int) := by omega
      obtain ⟨x, hx⟩ := get_of_lt hkt
      obtain ⟨k', x', hx', hbx', hout⟩ := hoat b (by omega)
      have hcx := cut_tile2 hx
      have hco := cut_intsN hout
      have hxl := ht30.2 x (List.mem_of_getElem? hx)
      have ham := t_among17 x.blocks (b : Int) (by omega)
      have hw1 : IntKind.i64.wrap ((k : Int) + 1) = ((k + 1 : Nat) : Int) := by rw [i64_in _ (by omega) (by omega)]; rfl
      rw [hv] at g1
      rw [hio] at g7
      by_cases e : k' = k
      · subst e
        rw [hx] at hx'; cases hx'
        rw [decide_eq_true hbx'] at ham
        have hz : ((k' : Int) == (k' : Int)) = true := by simp
        repeat (first | (with_reducible refine Nx.go ?_) | ((with_reducible refine Ny.go ?_); (conv => arg 1; simp only [ev, sop, bounds, loI, hiI, fillParts, binSV, intBin, unSV, simprocAttr, ev2, ev4, g1, g2, g3, g7, g9, g10, hlen, hkt, hkt', hk0, hb0, hlt, hlt', hcx, hco, hz, recheck, wantedS, SV.same_self, Bool.and_self]); (first | (with_reducible refine Nz.go ?_) | refine Hold_some ?_)))
        refine st_tellp (ham) ⟨_, rfl, by first | omega | decide⟩ (by first | with_reducible exact wantedS_none | (refine wantedS_some ?_; simp only [ev, sop, bounds, loI, hiI, fillParts, binSV, intBin, unSV, simprocAttr, ev2, ev4, g1, g2, g3, g7, g9, g10, hlen, hkt, hkt', hk0, hb0, hlt, hlt', hcx, hco, hz]; done)) (by simp only [ev, sop, bounds, loI, hiI, fillParts, binSV, intBin, unSV, simprocAttr, ev2, ev4, g1, g2, g3, g7, g9, g10, hlen, hkt, hkt', hk0, hb0, hlt, hlt', hcx, hco, hz] <;> rfl) (by first | rfl | simp [pures, SV.pure, *, pure_func, pure_ints, pure_blks, pure_insV, pure_rows, pure_tiles, pure_set, pures_set, pures_tiles]) (by first | with_reducible exact recheck_nil | (simp only [recheck, wantedS]; simp only [ev, sop, bounds, loI, hiI, fillParts, binSV, intBin, unSV, simprocAttr, ev2, ev4, g1, g2, g3, g7, g9, g10, hlen, hkt, hkt', hk0, hb0, hlt, hlt', hcx, hco, hz]; simp only [SV.same_self, Bool.and_self, beq_self_eq_true])) ?_
        repeat (first | (with_reducible refine Nx.go ?_) | ((with_reducible refine Ny.go ?_); (conv => arg 1; simp only [ev, sop, bounds, loI, hiI, fillParts, binSV, intBin, unSV, simprocAttr, ev2, ev4, beqs, g10, hw1, recheck, wantedS, SV.same_self, Bool.and_self]); (first | (with_reducible refine Nz.go ?_) | refine Hold_some ?_)))
        exact ⟨(ol o).length - (k' + 1), by omega, k' + 1, rfl, by omega, by simp only [ev, sop, bounds, loI, hiI, fillParts, binSV, intBin, unSV, simprocAttr, ev2, ev4, g1]; exact hv.symm, by simp only [ev, sop, bounds, loI, hiI, fillParts, binSV, intBin, unSV, simprocAttr, ev2, ev4, g2], by simp only [ev, sop, bounds, loI, hiI, fillParts, binSV, intBin, unSV, simprocAttr, ev2, ev4, g3], by simp only [ev, sop, bounds, loI, hiI, fillParts, binSV, intBin, unSV, simprocAttr, ev2, ev4, g7]; rfl, by simp only [ev, sop, bounds, loI, hiI, fillParts, binSV, intBin, unSV, simprocAttr, ev2, ev4, g9], by simp only [ev, sop, bounds, loI, hiI, fillParts, binSV, intBin, unSV, simprocAttr, ev2, ev4], rfl⟩
      · rw [decide_eq_false (fun h => e (hR.parts.one (by omega) hx' hx hbx' h))] at ham
        have hz : ((k' : Int) == (k : Int)) = false := by rw [beq_eq_false_iff_ne]; omega
        repeat (first | (with_reducible refine Nx.go ?_) | ((with_reducible refine Ny.go ?_); (conv => arg 1; simp only [ev, sop, bounds, loI, hiI, fillParts, binSV, intBin, unSV, simprocAttr, ev2, ev4, g1, g2, g3, g7, g9, g10, hlen, hkt, hkt', hk0, hb0, hlt, hlt', hcx, hco, hz, recheck, wantedS, SV.same_self, Bool.and_self]); (first | (with_reducible refine Nz.go ?_) | refine Hold_some ?_)))
        refine st_tellp (ham) ⟨_, rfl, by first | omega | decide⟩ (by first | with_reducible exact wantedS_none | (refine wantedS_some ?_; simp only [ev, sop, bounds, loI, hiI, fillParts, binSV, intBin, unSV, simprocAttr, ev2, ev4, g1, g2, g3, g7, g9, g10, hlen, hkt, hkt', hk0, hb0, hlt, hlt', hcx, hco, hz]; done)) (by simp only [ev, sop, bounds, loI, hiI, fillParts, binSV, intBin, unSV, simprocAttr, ev2, ev4, g1, g2, g3, g7, g9, g10, hlen, hkt, hkt', hk0, hb0, hlt, hlt', hcx, hco, hz] <;> rfl) (by first | rfl | simp [pures, SV.pure, *, pure_func, pure_ints, pure_blks, pure_insV, pure_rows, pure_tiles, pure_set, pures_set, pures_tiles]) (by first | with_reducible exact recheck_nil | (simp only [recheck, wantedS]; simp only [ev, sop, bounds, loI, hiI, fillParts, binSV, intBin, unSV, simprocAttr, ev2, ev4, g1, g2, g3, g7, g9, g10, hlen, hkt, hkt', hk0, hb0, hlt, hlt', hcx, hco, hz]; simp only [SV.same_self, Bool.and_self, beq_self_eq_true])) ?_
        repeat (first | (with_reducible refine Nx.go ?_) | ((with_reducible refine Ny.go ?_); (conv => arg 1; simp only [ev, sop, bounds, loI, hiI, fillParts, binSV, intBin, unSV, simprocAttr, ev2, ev4, beqs, g10, hw1, recheck, wantedS, SV.same_self, Bool.and_self]); (first | (with_reducible refine Nz.go ?_) | refine Hold_some ?_)))
        exact ⟨(ol o).length - (k + 1), by omega, k + 1, rfl, by omega, by simp only [ev, sop, bounds, loI, hiI, fillParts, binSV, intBin, unSV, simprocAttr, ev2, ev4, g1]; exact hv.symm, by simp only [ev, sop, bounds, loI, hiI, fillParts, binSV, intBin, unSV, simprocAttr, ev2, ev4, g2], by simp only [ev, sop, bounds, loI, hiI, fillParts, binSV, intBin, unSV, simprocAttr, ev2, ev4, g3], by simp only [ev, sop, bounds, loI, hiI, fillParts, binSV, intBin, unSV, simprocAttr, ev2, ev4, g7]; rfl, by simp only [ev, sop, bounds, loI, hiI, fillParts, binSV, intBin, unSV, simprocAttr, ev2, ev4, g9], by simp only [ev, sop, bounds, loI, hiI, fillParts, binSV, intBin, unSV, simprocAttr, ev2, ev4], rfl⟩
    · have hkt' : ¬ (k : Int) < ((ol o).length : Int) := by omega
      have hw1 : IntKind.i64.wrap ((b : Int) + 1) = ((b + 1 : Nat) : Int) := by rw [i64_in _ (by omega) (by omega)]; rfl
      repeat (first | (with_reducible refine Nx.go ?_) | ((with_reducible refine Ny.go ?_); (conv => arg 1; simp only [ev, sop, bounds, loI, hiI, fillParts, binSV, intBin, unSV, simprocAttr, ev2, ev4, g1, g9, g10, hlen, hkt', hw1, recheck, wantedS, SV.same_self, Bool.and_self]); (first | (with_reducible refine Nz.go ?_) | refine Hold_some ?_)))
      exact ⟨out.length - (b + 1), by omega, b + 1, rfl, by omega, by simp only [ev, sop, bounds, loI, hiI, fillParts, binSV, intBin, unSV, simprocAttr, ev2, ev4, g1], by simp only [ev, sop, bounds, loI, hiI, fillParts, binSV, intBin, unSV, simprocAttr, ev2, ev4, g2], by simp only [ev, sop, bounds, loI, hiI, fillParts, binSV, intBin, unSV, simprocAttr, ev2, ev4, g3], by simp only [ev, sop, bounds, loI, hiI, fillParts, binSV, intBin, unSV, simprocAttr, ev2, ev4, g7], by simp only [ev, sop, bounds, loI, hiI, fillParts, binSV, intBin, unSV, simprocAttr, ev2, ev4], rfl⟩
  have hlt' : ¬ (b : Int) < (out.length : Int) := by omega
  repeat (first | (with_reducible refine Nx.go ?_) | ((with_reducible refine Ny.go ?_); (conv => arg 1; simp only [ev, sop, bounds, loI, hiI, fillParts, binSV, intBin, unSV, simprocAttr, ev2, ev4, g7, g9, hio, hlt', recheck, wantedS, SV.same_self, Bool.and_self]); (first | (with_reducible refine Nz.go ?_) | refine Hold_some ?_)))
  -- all blocks of a tile are its parent's
  refine WP_blockloop (fun q t σ => ∃ k : Nat, q = (ol o).length - k ∧ 1 ≤ k ∧ k ≤ (ol o).length ∧ getT t 1 = tilesV o ∧ getT t 2 = .sc (.int .i64 turn) ∧ getT t 3 = .ptr 0 0 ∧ getT t 11 = .sc (.int .i64 (k : Int)) ∧ S = σ) (k0 := (ol o).length - 1)
    ⟨1, rfl, by omega, hN, by simp only [ev, sop, bounds, loI, hiI, fillParts, binSV, intBin, unSV, simprocAttr, ev2, ev4, g1], by simp only [ev, sop, bounds, loI, hiI, fillParts, binSV, intBin, unSV, simprocAttr, ev2, ev4, g2], by simp only [ev, sop, bounds, loI, hiI, fillParts, binSV, intBin, unSV, simprocAttr, ev2, ev4, g3], by simp only [ev, sop, bounds, loI, hiI, fillParts, binSV, intBin, unSV, simprocAttr, ev2, ev4], rfl⟩ ?_
  clear g1 g2 g3 g7 g9
  rintro q t σ' ⟨k, rfl, hk1, hk, g1, g2, g3, g11, rfl⟩
  by_cases hkt : k < (ol o).length
  · have hkt' : (k : Int) < ((ol o).length : Int) := by omega
    have hk0 : 0 ≤ (k : Int) := by omega
    obtain ⟨x, hx⟩ := get_of_lt hkt
    have hpx := hR.par k x hx
    have hpt := (hR.all k x hx).1.top
    obtain ⟨p, hp⟩ := Int.eq_ofNat_of_zero_le (show 0 ≤ x.parent by
      have : x.parent ≠ -1 := fun e => by have := hpt.2 e; omega
      omega)
    have hcx : cut ((ol o).flatMap TileD.cells) (k * 3 + 1) 1 = some [.sc (.int .i64 (p : Int))] := by rw [← hp]; exact cut_flat (enc := TileD.cells) (sz := 3) (fun _ => rfl) hx 1 1 (by omega)
    obtain ⟨ra, hra1, hra2, _⟩ := t_tAll o (k : Int) ht30 (by omega)
    obtain ⟨ru, hru1, hru2, _⟩ := t_tAll o (p : Int) ht30 (by omega)
    have hra := hra2 k rfl hkt hR.par
    have hru := hru2 p rfl (by omega) hR.par
    have hal := allL_len (ol o) k
    have hul := allL_len (ol o) p
    rw [hv] at g1 hra1 hru1
    repeat (first | (with_reducible refine Nx.go ?_) | ((with_reducible refine Ny.go ?_); (conv => arg 1; simp only [ev, sop, bounds, loI, hiI, fillParts, binSV, intBin, unSV, simprocAttr, ev2, ev4, g1, g2, g3, g11, hkt, hkt', hk0, hcx, recheck, wantedS, SV.same_self, Bool.and_self]); (first | (with_reducible refine Nz.go ?_) | refine Hold_some ?_)))
    refine st_tellp (hra1) ⟨_, rfl, by first | omega | decide⟩ (by first | with_reducible exact wantedS_none | (refine wantedS_some ?_; simp only [ev, sop, bounds, loI, hiI, fillParts, binSV, intBin, unSV, simprocAttr, ev2, ev4, g1, g2, g3, g11, hkt, hkt', hk0, hcx]; done)) (by simp only [ev, sop, bounds, loI, hiI, fillParts, binSV, intBin, unSV, simprocAttr, ev2, ev4, g1, g2, g3, g11, hkt, hkt', hk0, hcx] <;> rfl) (by first | rfl | simp [pures, SV.pure, *, pure_func, pure_ints, pure_blks, pure_insV, pure_rows, pure_tiles, pure_set, pures_set, pures_tiles]) (by first | with_reducible exact recheck_nil | (simp only [recheck, wantedS]; simp only [ev, sop, bounds, loI, hiI, fillParts, binSV, intBin, unSV, simprocAttr, ev2, ev4, g1, g2, g3, g11, hkt, hkt', hk0, hcx]; simp only [SV.same_self, Bool.and_self, beq_self_eq_true])) ?_
    repeat (first | (with_reducible refine Nx.go ?_) | ((with_reducible refine Ny.go ?_); (conv => arg 1; simp only [ev, sop, bounds, loI, hiI, fillParts, binSV, intBin, unSV, simprocAttr, ev2, ev4, g1, g2, g3, g11, hkt, hkt', hk0, hcx, recheck, wantedS, SV.same_self, Bool.and_self]); (first | (with_reducible refine Nz.go ?_) | refine Hold_some ?_)))
    refine st_tellp (hru1) ⟨_, rfl, by first | omega | decide⟩ (by first | with_reducible exact wantedS_none | (refine wantedS_some ?_; simp only [ev, sop, bounds, loI, hiI, fillParts, binSV, intBin, unSV, simprocAttr, ev2, ev4, g1, g2, g3, g11, hkt, hkt', hk0, hcx]; done)) (by simp only [ev, sop, bounds, loI, hiI, fillParts, binSV, intBin, unSV, simprocAttr, ev2, ev4, g1, g2, g3, g11, hkt, hkt', hk0, hcx] <;> rfl) (by first | rfl | simp [pures, SV.pure, *, pure_func, pure_ints, pure_blks, pure_insV, pure_rows, pure_tiles, pure_set, pures_set, pures_tiles]) (by first | with_reducible exact recheck_nil | (simp only [recheck, wantedS]; simp only [ev, sop, bounds, loI, hiI, fillParts, binSV, intBin, unSV, simprocAttr, ev2, ev4, g1, g2, g3, g11, hkt, hkt', hk0, hcx]; simp only [SV.same_self, Bool.and_self, beq_self_eq_true])) ?_
    repeat (first | (with_reducible refine Nx.go ?_) | ((with_reducible refine Ny.go ?_); (conv => arg 1; simp only [ev, sop, bounds, loI, hiI, fillParts, binSV, intBin, unSV, simprocAttr, ev2, ev4, g1, g2, g3, g11, hkt, hkt', hk0, hcx, recheck, wantedS, SV.same_self, Bool.and_self]); (first | (with_reducible refine Nz.go ?_) | refine Hold_some ?_)))
    refine WP_blockloop (fun q t σ => ∃ i : Nat, q = (ol ra).length - i ∧ i ≤ (ol ra).length ∧ getT t 1 = tilesV o ∧ getT t 2 = .sc (.int .i64 turn) ∧ getT t 3 = .ptr 0 0 ∧ getT t 11 = .sc (.int .i64 (k : Int)) ∧ getT t 12 = intsV ra ∧ getT t 13 = intsV ru ∧ getT t 14 = .sc (.int .i64 (i : Int)) ∧ S = σ) (k0 := (ol ra).length)
      ⟨0, by simp, by omega, by simp only [ev, sop, bounds, loI, hiI, fillParts, binSV, intBin, unSV, simprocAttr, ev2, ev4, g1]; exact hv.symm, by simp only [ev, sop, bounds, loI, hiI, fillParts, binSV, intBin, unSV, simprocAttr, ev2, ev4, g2], by simp only [ev, sop, bounds, loI, hiI, fillParts, binSV, intBin, unSV, simprocAttr, ev2, ev4, g3], by simp only [ev, sop, bounds, loI, hiI, fillParts, binSV, intBin, unSV, simprocAttr, ev2, ev4, g11], by simp only [ev, sop, bounds, loI, hiI, fillParts, binSV, intBin, unSV, simprocAttr, ev2, ev4], by simp only [ev, sop, bounds, loI, hiI, fillParts, binSV, intBin, unSV, simprocAttr, ev2, ev4], by simp only [ev, sop, bounds, loI, hiI, fillParts, binSV, intBin, unSV, simprocAttr, ev2, ev4], rfl⟩ ?_
    clear g1 g2 g3 g11
    rintro q t σ' ⟨i, rfl, hi, g1, g2, g3, g11, g12, g13, g14, rfl⟩
    by_cases hit : i < (ol ra).length
    · have hit' : (i : Int) < ((ol ra).length : Int) := by omega
      have hi0 : 0 ≤ (i : Int) := by omega
      obtain ⟨y, hy⟩ := get_of_lt hit
      rw [ints_of_lt hit] at g12
      have hcy := cut_ints hy
      have ham := t_among17 ru y (by rw [hru]; omega)
      rw [decide_eq_true (by rw [hru]; rw [hra] at hy; exact allL_up hR.par hx hp (List.mem_of_getElem? hy))] at ham
      have hw1 : IntKind.i64.wrap ((i : Int) + 1) = ((i + 1 : Nat) : Int) := by rw [i64_in _ (by omega) (by rw [hra] at hit; omega)]; rfl
      repeat (first | (with_reducible refine Nx.go ?_) | ((with_reducible refine Ny.go ?_); (conv => arg 1; simp only [ev, sop, bounds, loI, hiI, fillParts, binSV, intBin, unSV, simprocAttr, ev2, ev4, g1, g2, g3, g11, g12, g13, g14, hit, hit', hi0, hcy, recheck, wantedS, SV.same_self, Bool.and_self]); (first | (with_reducible refine Nz.go ?_) | refine Hold_some ?_)))
      refine st_tellp (ham) ⟨_, rfl, by first | omega | decide⟩ (by first | with_reducible exact wantedS_none | (refine wantedS_some ?_; simp only [ev, sop, bounds, loI, hiI, fillParts, binSV, intBin, unSV, simprocAttr, ev2, ev4, g1, g2, g3, g11, g12, g13, g14, hit, hit', hi0, hcy]; done)) (by simp only [ev, sop, bounds, loI, hiI, fillParts, binSV, intBin, unSV, simprocAttr, ev2, ev4, g1, g2, g3, g11, g12, g13, g14, hit, hit', hi0, hcy] <;> rfl) (by first | rfl | simp [pures, SV.pure, *, pure_func, pure_ints, pure_blks, pure_insV, pure_rows, pure_tiles, pure_set, pures_set, pures_tiles]) (by first | with_reducible exact recheck_nil | (simp only [recheck, wantedS]; simp only [ev, sop, bounds, loI, hiI, fillParts, binSV, intBin, unSV, simprocAttr, ev2, ev4, g1, g2, g3, g11, g12, g13, g14, hit, hit', hi0, hcy]; simp only [SV.same_self, Bool.and_self, beq_self_eq_true])) ?_
      repeat (first | (with_reducible refine Nx.go ?_) | ((with_reducible refine Ny.go ?_); (conv => arg 1; simp only [ev, sop, bounds, loI, hiI, fillParts, binSV, intBin, unSV, simprocAttr, ev2, ev4, g14, hw1, recheck, wantedS, SV.same_self, Bool.and_self]); (first | (with_reducible refine Nz.go ?_) | refine Hold_some ?_)))
      exact ⟨(ol ra).length - (i + 1), by omega, i + 1, rfl, by omega, by simp only [ev, sop, bounds, loI, hiI, fillParts, binSV, intBin, unSV, simprocAttr, ev2, ev4, g1], by simp only [ev, sop, bounds, loI, hiI, fillParts, binSV, intBin, unSV, simprocAttr, ev2, ev4, g2], by simp only [ev, sop, bounds, loI, hiI, fillParts, binSV, intBin, unSV, simprocAttr, ev2, ev4, g3], by simp only [ev, sop, bounds, loI, hiI, fillParts, binSV, intBin, unSV, simprocAttr, ev2, ev4, g11], by simp only [ev, sop, bounds, loI, hiI, fillParts, binSV, intBin, unSV, simprocAttr, ev2, ev4, g12]; exact (ints_of_lt hit).symm, by simp only [ev, sop, bounds, loI, hiI, fillParts, binSV, intBin, unSV, simprocAttr, ev2, ev4, g13], by simp only [ev, sop, bounds, loI, hiI, fillParts, binSV, intBin, unSV, simprocAttr, ev2, ev4], rfl⟩
    · have hit' : ¬ (i : Int) < ((ol ra).length : Int) := by omega
      have hw1 : IntKind.i64.wrap ((k : Int) + 1) = ((k + 1 : Nat) : Int) := by rw [i64_in _ (by omega) (by omega)]; rfl
      repeat (first | (with_reducible refine Nx.go ?_) | ((with_reducible refine Ny.go ?_); (conv => arg 1; simp only [ev, sop, bounds, loI, hiI, fillParts, binSV, intBin, unSV, simprocAttr, ev2, ev4, g1, g11, g12, g14, hit', hw1, recheck, wantedS, SV.same_self, Bool.and_self]); (first | (with_reducible refine Nz.go ?_) | refine Hold_some ?_)))
      exact ⟨(ol o).length - (k + 1), by omega, k + 1, rfl, by omega, by omega, by simp only [ev, sop, bounds, loI, hiI, fillParts, binSV, intBin, unSV, simprocAttr, ev2, ev4, g1], by simp only [ev, sop, bounds, loI, hiI, fillParts, binSV, intBin, unSV, simprocAttr, ev2, ev4, g2], by simp only [ev, sop, bounds, loI, hiI, fillParts, binSV, intBin, unSV, simprocAttr, ev2, ev4, g3], by simp only [ev, sop, bounds, loI, hiI, fillParts, binSV, intBin, unSV, simprocAttr, ev2, ev4], rfl⟩
  have hkt' : ¬ (k : Int) < ((ol o).length : Int) := by omega
  obtain ⟨j, hj, hpick⟩ := t_pick turn (ol o).length hN (by omega)
  repeat (first | (with_reducible refine Nx.go ?_) | ((with_reducible refine Ny.go ?_); (conv => arg 1; simp only [ev, sop, bounds, loI, hiI, fillParts, binSV, intBin, unSV, simprocAttr, ev2, ev4, g1, g2, g11, hlen, hkt', recheck, wantedS, SV.same_self, Bool.and_self]); (first | (with_reducible refine Nz.go ?_) | refine Hold_some ?_)))
  refine st_tellp (hpick) ⟨_, rfl, by first | omega | decide⟩ (by first | with_reducible exact wantedS_none | (refine wantedS_some ?_; simp only [ev, sop, bounds, loI, hiI, fillParts, binSV, intBin, unSV, simprocAttr, ev2, ev4, g1, g2, hlen]; done)) (by simp only [ev, sop, bounds, loI, hiI, fillParts, binSV, intBin, unSV, simprocAttr, ev2, ev4, g1, g2, hlen] <;> rfl) (by first | rfl | simp [pures, SV.pure, *, pure_func, pure_ints, pure_blks, pure_insV, pure_rows, pure_tiles, pure_set, pures_set, pures_tiles]) (by first | with_reducible exact recheck_nil | (simp only [recheck, wantedS]; simp only [ev, sop, bounds, loI, hiI, fillParts, binSV, intBin, unSV, simprocAttr, ev2, ev4, g1, g2, hlen]; simp only [SV.same_self, Bool.and_self, beq_self_eq_true])) ?_
  subst hS
  clear g2 g11 hkt' hkt
  rw [hv] at g1
  obtain ⟨x, hx⟩ := get_of_lt hj
  have hsx := (hR.all j x hx).1
  obtain ⟨y, rr, hB⟩ : ∃ y rr, ol x.blocks = y :: rr := by
    cases h : ol x.blocks with
    | nil => exact absurd h hsx.some_
    | cons y rr => exact ⟨y, rr, rfl⟩
  have hxb : intsV x.blocks = .lst (rr.length + 1) 1 (.sc (.int .i64 y) :: rr.map SV.int) := by
    cases h : x.blocks with
    | none => rw [h] at hB; cases hB
    | some l => rw [h] at hB; have : l = y :: rr := hB; subst this; rfl
  have hxl := ht2.2 x (List.mem_of_getElem? hx)
  have hrl : rr.length ≤ 119 := by rw [hB] at hxl; simp at hxl; omega
  have hj0 : 0 ≤ (j : Int) := by omega
  have hj' : (j : Int) < ((ol o).length : Int) := by omega
  have hcx := cut_tile2 hx
  have hl3 := tiles_len (ol o)
  have hmb : (ol o).length * 40 ≤ 1099511627776 ∧ (ol o).length ≤ 1099511627776 := by omega
  have h1M : (1 : Int) ≤ ((rr.length + 1 : Nat) : Int) := by omega
  have h1N : (1 : Int) ≤ (rr.length : Int) + 1 := by omega
  have htk : (rr.map SV.int).take rr.length = rr.map SV.int := List.take_of_length_le (by simp)
  have hj3 : j * 3 + 2 + 1 ≤ (ol o).length * 3 := by omega
  have hpaste : ∀ v, paste ((ol o).flatMap TileD.cells) (j * 3 + 2) [v] = ((ol o).flatMap TileD.cells).set (j * 3 + 2) v := fun v => paste_one (by rw [hl3]; omega)
  have h0M1 : (0 : Int) < ((rr.length + 1 : Nat) : Int) := by omega
  have h0M2 : (0 : Int) < (rr.length : Int) + 1 := by omega
  have h0M3 : 0 < rr.length + 1 := by omega
  have hcut : cut (SV.sc (.int .i64 y) :: rr.map SV.int) 0 1 = some [.sc (.int .i64 y)] := by rw [cut_eq' (by simp)]; rfl
  have hcutw : cut (SV.sc (.int .i64 y) :: rr.map SV.int) 0 (rr.length + 1) = some (SV.sc (.int .i64 y) :: rr.map SV.int) := cut_whole (by simp)
  have hm8 : (rr.length + 1) * 8 ≤ 1099511627776 ∧ rr.length + 1 ≤ 1099511627776 := by omega
  have hm9 : (rr.length + 1 + 1) * 8 ≤ 1099511627776 ∧ rr.length + 1 + 1 ≤ 1099511627776 := by omega
  repeat (first | (with_reducible refine Nx.go ?_) | ((with_reducible refine Ny.go ?_); (conv => arg 1; simp only [ev, sop, bounds, loI, hiI, fillParts, binSV, intBin, unSV, simprocAttr, ev2, ev4, h0M1, h0M2, h0M3, hcut, hcutw, hm8, hm9, List.length_map, List.length_set, g1, g3, hv, hl3, hmb, hj, hj0, hj', hcx, hxb, h1M, h1N, htk, hj3, hpaste, recheck, wantedS, SV.same_self, Bool.and_self]); (first | (with_reducible refine Nz.go ?_) | refine Hold_some ?_)))
  refine WPS_gen (F := fun σ => cellsOf σ 0 = some [intsV f.params, blksV f.blocks] ∧ cellsOf σ 2 = some (((ol o).flatMap TileD.cells).set (j * 3 + 2) (.lst rr.length 1 (rr.map SV.int))) ∧ cellsOf σ 4 = some (((ol o).flatMap TileD.cells).set (j * 3 + 2) (.sl 8 0 (rr.length + 2) 1)) ∧ cellsOf σ 8 = some (.sc (.int .i64 y) :: (rr.map SV.int ++ [.sc (.int .i64 y)])))
    ⟨by simp only [ev, sop, bounds, loI, hiI, fillParts, binSV, intBin, unSV, simprocAttr, ev2, ev4], by simp only [ev, sop, bounds, loI, hiI, fillParts, binSV, intBin, unSV, simprocAttr, ev2, ev4], by simp only [ev, sop, bounds, loI, hiI, fillParts, binSV, intBin, unSV, simprocAttr, ev2, ev4], by simp only [ev, sop, bounds, loI, hiI, fillParts, binSV, intBin, unSV, simprocAttr, ev2, ev4]⟩ ?_
  rintro T ⟨c0, c2, c4, c8⟩
  have hz1 := frz_tiles (o' := some rr) hx c2 (frz_pure (pures_ints rr))
  have h8 : frz T 19 (.sl 8 0 (rr.length + 2) 1) = some (intsV (some (y :: (rr ++ [y])))) := by
    have h := frz_slD (d := 17) (n := rr.length + 2) (sz := 1) (off := 0) c8 (cut_whole (by simp)) (by rw [show SV.sc (.int .i64 y) :: (rr.map SV.int ++ [.sc (.int .i64 y)]) = (y :: (rr ++ [y])).map SV.int by simp [SV.int]]; exact pures_ints _)
    rw [h]
    simp [intsV, SV.int]
  have hz2 := frz_tiles (o' := some (y :: (rr ++ [y]))) hx c4 h8
  have hbl : ∀ B : List Int, B.length ≤ 121 → tilesWithin (2 ^ 30) ((ol o).set j { x with blocks := some B }) ∧ (blocksOf ((ol o).set j { x with blocks := some B })).length ≤ 2 ^ 34 := by
    intro B hBl
    have h1 : ∀ t ∈ (ol o).set j { x with blocks := some B }, (ol t.blocks).length ≤ 121 := by
      intro t h
      rcases List.mem_or_eq_of_mem_set h with h | rfl
      · have := ht2.2 t h; omega
      · exact hBl
    have h2 := blocksOf_len h1
    have h3 := Nat.mul_le_mul_right 121 ht2.1
    rw [List.length_set] at h2
    refine ⟨⟨by rw [List.length_set]; omega, fun t h => by have := h1 t h; omega⟩, by omega⟩
  obtain ⟨r1, hT1, hr1⟩ := t_Right f (some ((ol o).set j { x with blocks := some rr })) hl (hbl rr (by omega)).1 (hbl rr (by omega)).2
  obtain ⟨r2, hT2, hr2⟩ := t_Right f (some ((ol o).set j { x with blocks := some (y :: (rr ++ [y])) })) hl (hbl _ (by simp; omega)).1 (hbl _ (by simp; omega)).2
  have e1 : r1 = false := by
    rw [← Bool.not_eq_true, hr1]
    intro h
    exact hR.parts.less hx hB hsx.rise h.parts
  have e2 : r2 = false := by
    rw [← Bool.not_eq_true, hr2]
    intro h
    have := Parts.twice hx hB hsx.rise
    rw [hB] at this
    exact this h.parts
  subst e1 e2
  rw [show f.sv = .agg [intsV f.params, blksV f.blocks] from rfl] at *
  have hpf : (SV.agg [intsV f.params, blksV f.blocks]).pure = true := pure_func f
  have hm1 : mapO (frz T 20) [.agg [intsV f.params, blksV f.blocks], .sl 2 0 (ol o).length 3] = some [.agg [intsV f.params, blksV f.blocks], tilesV (some ((ol o).set j { x with blocks := some rr }))] := by
    simp only [mapO, hz1, frz_pure hpf, Option.map_some]
  have hm2 : mapO (frz T 20) [.agg [intsV f.params, blksV f.blocks], .sl 4 0 (ol o).length 3] = some [.agg [intsV f.params, blksV f.blocks], tilesV (some ((ol o).set j { x with blocks := some (y :: (rr ++ [y])) }))] := by
    simp only [mapO, hz2, frz_pure hpf, Option.map_some]
  refine st_tellz (hT1) ⟨_, rfl, by first | omega | decide⟩ (by first | with_reducible exact wantedS_none | (refine wantedS_some ?_; simp only [ev, sop, bounds, loI, hiI, fillParts, binSV, intBin, unSV, simprocAttr, ev2, ev4, g3, c0]; done)) (by simp only [ev, sop, bounds, loI, hiI, fillParts, binSV, intBin, unSV, simprocAttr, ev2, ev4, g3, c0] <;> rfl) (hm1) (by first | with_reducible exact flat_set _ | rfl) (by first | with_reducible exact recheck_nil | (simp only [recheck, wantedS]; simp only [ev, sop, bounds, loI, hiI, fillParts, binSV, intBin, unSV, simprocAttr, ev2, ev4, g3, c0]; simp only [SV.same_self, Bool.and_self, beq_self_eq_true])) ?_
  repeat (first | (with_reducible refine Nx.go ?_) | ((with_reducible refine Ny.go ?_); (conv => arg 1; simp only [ev, sop, bounds, loI, hiI, fillParts, binSV, intBin, unSV, simprocAttr, ev2, ev4, g3, c0, recheck, wantedS, SV.same_self, Bool.and_self]); (first | (with_reducible refine Nz.go ?_) | refine Hold_some ?_)))
  refine st_tellz (hT2) ⟨_, rfl, by first | omega | decide⟩ (by first | with_reducible exact wantedS_none | (refine wantedS_some ?_; simp only [ev, sop, bounds, loI, hiI, fillParts, binSV, intBin, unSV, simprocAttr, ev2, ev4, g3, c0]; done)) (by simp only [ev, sop, bounds, loI, hiI, fillParts, binSV, intBin, unSV, simprocAttr, ev2, ev4, g3, c0] <;> rfl) (hm2) (by first | with_reducible exact flat_set _ | rfl) (by first | with_reducible exact recheck_nil | (simp only [recheck, wantedS]; simp only [ev, sop, bounds, loI, hiI, fillParts, binSV, intBin, unSV, simprocAttr, ev2, ev4, g3, c0]; simp only [SV.same_self, Bool.and_self, beq_self_eq_true])) ?_
  repeat (first | (with_reducible refine Nx.go ?_) | ((with_reducible refine Ny.go ?_); (conv => arg 1; simp only [ev, sop, bounds, loI, hiI, fillParts, binSV, intBin, unSV, simprocAttr, ev2, ev4, recheck, wantedS, SV.same_self, Bool.and_self]); (first | (with_reducible refine Nz.go ?_) | refine Hold_some ?_)))
  (refine Hold1_of ?_; (conv => arg 1; simp only [ev, sop, bounds, loI, hiI, fillParts, binSV, intBin, unSV, simprocAttr, ev2, ev4, resultsSV, resMany, resOne]); refine Hold1_some ?_)
  exact frz_of_pure rfl
end Go.Proofs.Ytojjhcgbbmknmaa.Sh
