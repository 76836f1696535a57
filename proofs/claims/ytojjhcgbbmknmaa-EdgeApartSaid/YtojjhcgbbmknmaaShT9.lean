/- How much there is of a function. -/
import Derived.Test.YtojjhcgbbmknmaaShT8
namespace Go.Proofs.Ytojjhcgbbmknmaa.Sh
set_option linter.unusedSimpArgs false
set_option linter.unusedVariables false
open Go Go.Proofs

/-- Rows that are not longer than a number. -/
def insWithin (N : Nat) (l : List InsD) : Prop := l.length ≤ N ∧ ∀ x ∈ l, (ol x.args).length ≤ N
def blksWithin (N : Nat) (l : List BlkD) : Prop := l.length ≤ N ∧ ∀ b ∈ l, insWithin N (ol b.ins)
def FuncD.within (f : FuncD) (N : Nat) : Prop := (ol f.params).length ≤ N ∧ blksWithin N f.bl

theorem ins_of_lt {o : Option (List InsD)} {k : Nat} (h : k < (ol o).length) : insV o = .lst (ol o).length 8 ((ol o).flatMap InsD.cells) := rec_of_lt h
theorem blks_of_lt {o : Option (List BlkD)} {k : Nat} (h : k < (ol o).length) : blksV o = .lst (ol o).length 5 ((ol o).flatMap BlkD.cells) := rec_of_lt h
theorem cut_ins6 {l : List InsD} {k : Nat} {x : InsD} (h : l[k]? = some x) : cut (l.flatMap InsD.cells) (k * 8 + 6) 1 = some [intsV x.args] := cut_flat (enc := InsD.cells) (sz := 8) (fun _ => rfl) h 6 1 (by omega)
theorem cut_blk0 {l : List BlkD} {k : Nat} {x : BlkD} (h : l[k]? = some x) : cut (l.flatMap BlkD.cells) (k * 5) 1 = some [insV x.ins] := cut_flat0 (enc := BlkD.cells) (sz := 5) (fun _ => rfl) h 1 (by omega)

set_option maxHeartbeats 4000000 in
theorem t_blocksOf (o : Option (List BlkD)) (M : Nat) (hM : M ≤ 2 ^ 40) (hw : blksWithin (2 ^ 47) (ol o)) : ∃ n : Nat, n ≤ 2 ^ 50 ∧ Tells 62 [blksV o, .sc (.int .i64 (M : Nat))] (.sc (.int .i64 (n : Nat))) ∧ (n ≤ M → blksWithin n (ol o)) := by
  suffices h : WPF (EV 1) 62 [blksV o, .sc (.int .i64 (M : Nat))] St.empty (fun v σ => ∃ n : Nat, n ≤ 2 ^ 50 ∧ v = .sc (.int .i64 (n : Nat)) ∧ (n ≤ M → blksWithin n (ol o))) by
    obtain ⟨q, v, σ, h1, n, h0, rfl, h2⟩ := h
    exact ⟨n, h0, ⟨_, rfl, q, _, σ, h1, frz_of_pure rfl⟩, h2⟩
  refine told_fn rfl rfl rfl ?_
  repeat (first | (with_reducible refine Nx.go ?_) | ((with_reducible refine Ny.go ?_); (conv => arg 1; simp only [ev, sop, bounds, loI, hiI, fillParts, binSV, intBin, unSV, simprocAttr, ev2, ev3, recheck, wantedS, SV.same_self, Bool.and_self]); (first | (with_reducible refine Nz.go ?_) | refine Hold_some ?_)))
  have hlen : lenSV (blksV o) = some (ol o).length := lenSV_rec o
  refine WP_blockloop (fun m t σ => ∃ i n : Nat, m = (ol o).length - i ∧ i ≤ (ol o).length ∧ n ≤ 2 ^ 50 ∧ getT t 0 = blksV o ∧ getT t 1 = .sc (.int .i64 (M : Nat)) ∧ getT t 5 = .sc (.int .i64 (n : Nat)) ∧ getT t 6 = .sc (.int .i64 (i : Nat)) ∧
      (n ≤ M → i ≤ n ∧ ∀ j b, j < i → (ol o)[j]? = some b → insWithin n (ol b.ins))) (k0 := (ol o).length) ⟨0, 0, by simp, by omega, by omega, by simp only [ev, sop, bounds, loI, hiI, fillParts, binSV, intBin, unSV, simprocAttr, ev2, ev3], by simp only [ev, sop, bounds, loI, hiI, fillParts, binSV, intBin, unSV, simprocAttr, ev2, ev3], by simp only [ev, sop, bounds, loI, hiI, fillParts, binSV, intBin, unSV, simprocAttr, ev2, ev3] <;> rfl, by simp only [ev, sop, bounds, loI, hiI, fillParts, binSV, intBin, unSV, simprocAttr, ev2, ev3] <;> rfl, fun _ => ⟨by omega, by simp⟩⟩ ?_
  rintro m t σ ⟨i, n, rfl, hi, hn, h0, h1, h5, h6, hseen⟩
  by_cases hlt : i < (ol o).length
  rotate_left
  · repeat (first | (with_reducible refine Nx.go ?_) | ((with_reducible refine Ny.go ?_); (conv => arg 1; simp only [ev, sop, bounds, loI, hiI, fillParts, binSV, intBin, unSV, simprocAttr, ev2, ev3, h0, h1, h5, h6, hlen, hlt, recheck, wantedS, SV.same_self, Bool.and_self]); (first | (with_reducible refine Nz.go ?_) | refine Hold_some ?_)))
    (refine Hold1_of ?_; (conv => arg 1; simp only [ev, sop, bounds, loI, hiI, fillParts, binSV, intBin, unSV, simprocAttr, ev2, ev3, h5, resultsSV, resMany, resOne]); refine Hold1_some ?_)
    refine ⟨n, hn, rfl, fun hle => ?_⟩
    obtain ⟨h7, h8⟩ := hseen hle
    refine ⟨by omega, fun b hb => ?_⟩
    obtain ⟨j, hj⟩ := List.mem_iff_getElem?.1 hb
    exact h8 j b (by have := (List.getElem?_eq_some_iff.1 hj).1; omega) hj
  by_cases hle : n ≤ M
  rotate_left
  · repeat (first | (with_reducible refine Nx.go ?_) | ((with_reducible refine Ny.go ?_); (conv => arg 1; simp only [ev, sop, bounds, loI, hiI, fillParts, binSV, intBin, unSV, simprocAttr, ev2, ev3, h0, h1, h5, h6, hlen, hlt, hle, recheck, wantedS, SV.same_self, Bool.and_self]); (first | (with_reducible refine Nz.go ?_) | refine Hold_some ?_)))
    (refine Hold1_of ?_; (conv => arg 1; simp only [ev, sop, bounds, loI, hiI, fillParts, binSV, intBin, unSV, simprocAttr, ev2, ev3, h5, resultsSV, resMany, resOne]); refine Hold1_some ?_)
    exact ⟨n, hn, rfl, fun h => absurd h hle⟩
  obtain ⟨h7, h8⟩ := hseen hle
  obtain ⟨b, hb⟩ := get_of_lt hlt
  have hwb := hw.2 b (List.mem_of_getElem? hb)
  have hv := blks_of_lt hlt
  rw [hv] at h0
  have hcb := cut_blk0 hb
  have hilen : lenSV (insV b.ins) = some (ol b.ins).length := lenSV_rec _
  have hw1 : IntKind.i64.wrap ((n : Int) + 1) = ((n + 1 : Nat) : Int) := by rw [i64_in _ (by omega) (by omega)]; rfl
  have hw2 : IntKind.i64.wrap (((n + 1 : Nat) : Int) + ((ol b.ins).length : Int)) = ((n + 1 + (ol b.ins).length : Nat) : Int) := by have := hwb.1; rw [i64_in _ (by omega) (by omega)]; rfl
  repeat (first | (with_reducible refine Nx.go ?_) | ((with_reducible refine Ny.go ?_); (conv => arg 1; simp only [ev, sop, bounds, loI, hiI, fillParts, binSV, intBin, unSV, simprocAttr, ev2, ev3, h0, h1, h5, h6, hlt, hle, hcb, hw1, hw2, recheck, wantedS, SV.same_self, Bool.and_self]); (first | (with_reducible refine Nz.go ?_) | refine Hold_some ?_)))
  refine WP_blockloop (fun m t σ => ∃ k n' : Nat, m = (ol b.ins).length - k ∧ k ≤ (ol b.ins).length ∧ n' ≤ M + 2 ^ 48 + 1 ∧ i + 1 ≤ n' ∧ n ≤ n' ∧ getT t 0 = blksV o ∧ getT t 1 = .sc (.int .i64 (M : Nat)) ∧ getT t 5 = .sc (.int .i64 (n' : Nat)) ∧ getT t 6 = .sc (.int .i64 (i : Nat)) ∧ getT t 7 = .sc (.int .i64 (k : Nat)) ∧
      (n' ≤ M → (ol b.ins).length ≤ n' ∧ ∀ j x, j < k → (ol b.ins)[j]? = some x → (ol x.args).length ≤ n')) (k0 := (ol b.ins).length)
      ⟨0, n + 1 + (ol b.ins).length, by simp, by omega, by have := hwb.1; omega, by omega, by omega, by simp only [ev, sop, bounds, loI, hiI, fillParts, binSV, intBin, unSV, simprocAttr, ev2, ev3, h0]; exact hv.symm, by simp only [ev, sop, bounds, loI, hiI, fillParts, binSV, intBin, unSV, simprocAttr, ev2, ev3, h1], by simp only [ev, sop, bounds, loI, hiI, fillParts, binSV, intBin, unSV, simprocAttr, ev2, ev3], by simp only [ev, sop, bounds, loI, hiI, fillParts, binSV, intBin, unSV, simprocAttr, ev2, ev3, h6], by simp only [ev, sop, bounds, loI, hiI, fillParts, binSV, intBin, unSV, simprocAttr, ev2, ev3] <;> rfl, fun _ => ⟨by omega, by simp⟩⟩ ?_
  clear h0 h1 h5 h6
  rintro m t σ ⟨k, n', rfl, hk, hn', hin, hnn, h0, h1, h5, h6, h7', hsee⟩
  rw [hv] at h0
  have hw3 : IntKind.i64.wrap ((i : Int) + 1) = ((i + 1 : Nat) : Int) := by have := hw.1; rw [i64_in _ (by omega) (by omega)]; rfl
  by_cases hkl : k < (ol b.ins).length
  rotate_left
  · repeat (first | (with_reducible refine Nx.go ?_) | ((with_reducible refine Ny.go ?_); (conv => arg 1; simp only [ev, sop, bounds, loI, hiI, fillParts, binSV, intBin, unSV, simprocAttr, ev2, ev3, h0, h1, h5, h6, h7', hlt, hcb, hilen, hkl, hw3, recheck, wantedS, SV.same_self, Bool.and_self]); (first | (with_reducible refine Nz.go ?_) | refine Hold_some ?_)))
    refine ⟨_, by omega, i + 1, n', rfl, by omega, by omega, by simp only [ev, sop, bounds, loI, hiI, fillParts, binSV, intBin, unSV, simprocAttr, ev2, ev3, h0]; exact hv.symm, by simp only [ev, sop, bounds, loI, hiI, fillParts, binSV, intBin, unSV, simprocAttr, ev2, ev3, h1], by simp only [ev, sop, bounds, loI, hiI, fillParts, binSV, intBin, unSV, simprocAttr, ev2, ev3, h5], by simp only [ev, sop, bounds, loI, hiI, fillParts, binSV, intBin, unSV, simprocAttr, ev2, ev3], fun h => ⟨hin, fun j b' hj hb' => ?_⟩⟩
    obtain ⟨h9, h10⟩ := hsee h
    by_cases e : j = i
    · subst e; rw [hb] at hb'; cases hb'
      refine ⟨h9, fun x hx => ?_⟩
      obtain ⟨q, hq⟩ := List.mem_iff_getElem?.1 hx
      exact h10 q x (by have := (List.getElem?_eq_some_iff.1 hq).1; omega) hq
    · obtain ⟨g1, g2⟩ := h8 j b' (by omega) hb'
      exact ⟨by omega, fun x hx => by have := g2 x hx; omega⟩
  by_cases hle' : n' ≤ M
  rotate_left
  · repeat (first | (with_reducible refine Nx.go ?_) | ((with_reducible refine Ny.go ?_); (conv => arg 1; simp only [ev, sop, bounds, loI, hiI, fillParts, binSV, intBin, unSV, simprocAttr, ev2, ev3, h0, h1, h5, h6, h7', hlt, hcb, hilen, hkl, hle', hw3, recheck, wantedS, SV.same_self, Bool.and_self]); (first | (with_reducible refine Nz.go ?_) | refine Hold_some ?_)))
    exact ⟨_, by omega, i + 1, n', rfl, by omega, by omega, by simp only [ev, sop, bounds, loI, hiI, fillParts, binSV, intBin, unSV, simprocAttr, ev2, ev3, h0]; exact hv.symm, by simp only [ev, sop, bounds, loI, hiI, fillParts, binSV, intBin, unSV, simprocAttr, ev2, ev3, h1], by simp only [ev, sop, bounds, loI, hiI, fillParts, binSV, intBin, unSV, simprocAttr, ev2, ev3, h5], by simp only [ev, sop, bounds, loI, hiI, fillParts, binSV, intBin, unSV, simprocAttr, ev2, ev3], fun h => absurd h hle'⟩
  obtain ⟨x, hx⟩ := get_of_lt hkl
  have hvi := ins_of_lt hkl
  have hcx := cut_ins6 hx
  have hax := hwb.2 x (List.mem_of_getElem? hx)
  have hw4 : IntKind.i64.wrap ((n' : Int) + ((ol x.args).length : Int)) = ((n' + (ol x.args).length : Nat) : Int) := by rw [i64_in _ (by omega) (by omega)]; rfl
  have hw5 : IntKind.i64.wrap ((k : Int) + 1) = ((k + 1 : Nat) : Int) := by have := hwb.1; rw [i64_in _ (by omega) (by omega)]; rfl
  rw [hvi] at hcb
  repeat (first | (with_reducible refine Nx.go ?_) | ((with_reducible refine Ny.go ?_); (conv => arg 1; simp only [ev, sop, bounds, loI, hiI, fillParts, binSV, intBin, unSV, simprocAttr, ev2, ev3, h0, h1, h5, h6, h7', hlt, hcb, hkl, hle', hcx, hw4, hw5, recheck, wantedS, SV.same_self, Bool.and_self]); (first | (with_reducible refine Nz.go ?_) | refine Hold_some ?_)))
  refine ⟨_, by omega, k + 1, n' + (ol x.args).length, rfl, by omega, by omega, by omega, by omega, by simp only [ev, sop, bounds, loI, hiI, fillParts, binSV, intBin, unSV, simprocAttr, ev2, ev3, h0]; exact hv.symm, by simp only [ev, sop, bounds, loI, hiI, fillParts, binSV, intBin, unSV, simprocAttr, ev2, ev3, h1], by simp only [ev, sop, bounds, loI, hiI, fillParts, binSV, intBin, unSV, simprocAttr, ev2, ev3], by simp only [ev, sop, bounds, loI, hiI, fillParts, binSV, intBin, unSV, simprocAttr, ev2, ev3, h6], by simp only [ev, sop, bounds, loI, hiI, fillParts, binSV, intBin, unSV, simprocAttr, ev2, ev3], fun h => ?_⟩
  obtain ⟨h9, h10⟩ := hsee (by omega)
  refine ⟨by omega, fun j y hj hy => ?_⟩
  by_cases e : j = k
  · subst e; rw [hx] at hy; cases hy; omega
  · have := h10 j y (by omega) hy; omega

theorem t_funcOf (f : FuncD) (M : Nat) (hM : M ≤ 2 ^ 40) (hw : f.within (2 ^ 47)) : ∃ n : Nat, Tells 30 [f.sv, .sc (.int .i64 (M : Nat))] (.sc (.int .i64 (n : Nat))) ∧ (n ≤ M → f.within n) := by
  obtain ⟨n, hn, h1, h2⟩ := t_blocksOf f.blocks M hM hw.2
  refine ⟨(ol f.params).length + n, ?_, fun h => ⟨by omega, ?_⟩⟩
  · refine tells_fn rfl rfl rfl ?_
    rw [show f.sv = .agg [intsV f.params, blksV f.blocks] from rfl]
    have hw1 : IntKind.i64.wrap (((ol f.params).length : Int) + (n : Int)) = (((ol f.params).length + n : Nat) : Int) := by have := hw.1; rw [i64_in _ (by omega) (by omega)]; rfl
    repeat (first | (with_reducible refine Nx.go ?_) | ((with_reducible refine Ny.go ?_); (conv => arg 1; simp only [ev, sop, bounds, loI, hiI, fillParts, binSV, intBin, unSV, simprocAttr, ev2, ev3, recheck, wantedS, SV.same_self, Bool.and_self]); (first | (with_reducible refine Nz.go ?_) | refine Hold_some ?_)))
    refine st_tellp (h1) ⟨_, rfl, by first | omega | decide⟩ (by first | with_reducible exact wantedS_none | (refine wantedS_some ?_; simp only [ev, sop, bounds, loI, hiI, fillParts, binSV, intBin, unSV, simprocAttr, ev2, ev3]; done)) (by simp only [ev, sop, bounds, loI, hiI, fillParts, binSV, intBin, unSV, simprocAttr, ev2, ev3] <;> rfl) (by first | rfl | simp [pures, SV.pure, *, pure_func, pure_ints, pure_blks, pure_insV, pure_rows, pure_edges, pure_edge]) (by first | with_reducible exact recheck_nil | (simp only [recheck, wantedS]; simp only [ev, sop, bounds, loI, hiI, fillParts, binSV, intBin, unSV, simprocAttr, ev2, ev3]; simp only [SV.same_self, Bool.and_self])) ?_
    repeat (first | (with_reducible refine Nx.go ?_) | ((with_reducible refine Ny.go ?_); (conv => arg 1; simp only [ev, sop, bounds, loI, hiI, fillParts, binSV, intBin, unSV, simprocAttr, ev2, ev3, hw1, recheck, wantedS, SV.same_self, Bool.and_self]); (first | (with_reducible refine Nz.go ?_) | refine Hold_some ?_)))
    (refine Hold1_of ?_; (conv => arg 1; simp only [ev, sop, bounds, loI, hiI, fillParts, binSV, intBin, unSV, simprocAttr, ev2, ev3, resultsSV, resMany, resOne]); refine Hold1_some ?_)
    exact frz_of_pure rfl
  · obtain ⟨g1, g2⟩ := h2 (by omega)
    have g1' : f.bl.length ≤ n := g1
    exact ⟨by omega, fun b hb => by
      obtain ⟨g3, g4⟩ := g2 b hb
      exact ⟨by omega, fun x hx => by have := g4 x hx; omega⟩⟩

theorem insWithin.mono {N M : Nat} {l : List InsD} (h : insWithin N l) (hm : N ≤ M) : insWithin M l := ⟨Nat.le_trans h.1 hm, fun x hx => Nat.le_trans (h.2 x hx) hm⟩
theorem FuncD.within.mono {N M : Nat} {f : FuncD} (h : f.within N) (hm : N ≤ M) : f.within M := ⟨Nat.le_trans h.1 hm, Nat.le_trans h.2.1 hm, fun b hb => (h.2.2 b hb).mono hm⟩
/-- Tiles. -/
structure TileD where
  kind : Int
  parent : Int
  blocks : Option (List Int)
def TileD.cells (t : TileD) : List SV := [.sc (.int .i64 t.kind), .sc (.int .i64 t.parent), intsV t.blocks]
theorem pures_tile (t : TileD) : pures t.cells = true := by simp [TileD.cells, pures, SV.pure, pure_ints]
def tilesV : Option (List TileD) → SV := recV 3 TileD.cells
theorem pure_tiles (o : Option (List TileD)) : (tilesV o).pure = true := pure_rec pures_tile o
theorem ev4 : (∀ o, (tilesV o).flat = [tilesV o]) ∧ (∀ o, (tilesV o).lay = true) ∧ (∀ o, (tilesV o).one = true) ∧ (∀ o, lenSV (tilesV o) = some (ol o).length) := ⟨flat_recV, lay_recV, one_recV, lenSV_rec⟩
theorem tiles_of_lt {o : Option (List TileD)} {k : Nat} (h : k < (ol o).length) : tilesV o = .lst (ol o).length 3 ((ol o).flatMap TileD.cells) := rec_of_lt h
theorem cut_tile2 {l : List TileD} {k : Nat} {x : TileD} (h : l[k]? = some x) : cut (l.flatMap TileD.cells) (k * 3 + 2) 1 = some [intsV x.blocks] := cut_flat (enc := TileD.cells) (sz := 3) (fun _ => rfl) h 2 1 (by omega)
def tilesWithin (N : Nat) (l : List TileD) : Prop := l.length ≤ N ∧ ∀ t ∈ l, (ol t.blocks).length ≤ N

set_option maxHeartbeats 4000000 in
theorem t_great18 (f : FuncD) (o : Option (List TileD)) (hw : f.within (2 ^ 47)) (ht : tilesWithin (2 ^ 47) (ol o)) : ∃ g : Bool, Tells 8 [f.sv, tilesV o] (.sc (.bool g)) ∧ (g = false → f.within 2000 ∧ tilesWithin 90 (ol o) ∧ (f.bl.length ≤ 30 ∨ 200 < f.bl.length)) := by
  suffices h : WPF (EV 3) 8 [f.sv, tilesV o] St.empty (fun v σ => ∃ g : Bool, v = .sc (.bool g) ∧ (g = false → f.within 2000 ∧ tilesWithin 90 (ol o) ∧ (f.bl.length ≤ 30 ∨ 200 < f.bl.length))) by
    obtain ⟨q, v, σ, h1, g, rfl, h2⟩ := h
    exact ⟨g, ⟨_, rfl, q, _, σ, h1, frz_of_pure rfl⟩, h2⟩
  refine told_fn rfl rfl rfl ?_
  rw [show f.sv = .agg [intsV f.params, blksV f.blocks] from rfl]
  obtain ⟨N, hN1, hN2⟩ := t_funcOf f 2000 (by omega) hw
  have hlen : lenSV (tilesV o) = some (ol o).length := lenSV_rec o
  repeat (first | (with_reducible refine Nx.go ?_) | ((with_reducible refine Ny.go ?_); (conv => arg 1; simp only [ev, sop, bounds, loI, hiI, fillParts, binSV, intBin, unSV, simprocAttr, ev2, ev3, hlen, recheck, wantedS, SV.same_self, Bool.and_self]); (first | (with_reducible refine Nz.go ?_) | refine Hold_some ?_)))
  refine WP_blockloop (fun m t σ => ∃ i n : Nat, m = (ol o).length - i ∧ i ≤ (ol o).length ∧ n ≤ (ol o).length + 2 ^ 48 ∧ (ol o).length ≤ n ∧ getT t 1 = tilesV o ∧ getT t 2 = .ptr 0 0 ∧ getT t 5 = .sc (.int .i64 (n : Nat)) ∧ getT t 6 = .sc (.int .i64 (i : Nat)) ∧ cellsOf σ 0 = some [intsV f.params, blksV f.blocks] ∧
      (n ≤ 90 → ∀ j b, j < i → (ol o)[j]? = some b → (ol b.blocks).length ≤ n)) (k0 := (ol o).length) ⟨0, (ol o).length, by simp, by omega, by omega, by omega, by simp only [ev, sop, bounds, loI, hiI, fillParts, binSV, intBin, unSV, simprocAttr, ev2, ev3], by simp only [ev, sop, bounds, loI, hiI, fillParts, binSV, intBin, unSV, simprocAttr, ev2, ev3], by simp only [ev, sop, bounds, loI, hiI, fillParts, binSV, intBin, unSV, simprocAttr, ev2, ev3] <;> rfl, by simp only [ev, sop, bounds, loI, hiI, fillParts, binSV, intBin, unSV, simprocAttr, ev2, ev3] <;> rfl, by simp only [ev, sop, bounds, loI, hiI, fillParts, binSV, intBin, unSV, simprocAttr, ev2, ev3], by simp⟩ ?_
  rintro m t σ ⟨i, n, rfl, hi, hn, hn2, h1, h2, h5, h6, hc, hseen⟩
  have hblen : lenSV (blksV f.blocks) = some f.bl.length := lenSV_rec _
  by_cases hlt : i < (ol o).length
  rotate_left
  · skip
    by_cases hA : f.bl.length > 30 ∧ f.bl.length ≤ 200
    · obtain ⟨hA1, hA2⟩ := hA
      have hA1' : (f.bl.length : Int) > 30 := by omega
      have hA2' : (f.bl.length : Int) ≤ 200 := by omega
      repeat (first | (with_reducible refine Nx.go ?_) | ((with_reducible refine Ny.go ?_); (conv => arg 1; simp only [ev, sop, bounds, loI, hiI, fillParts, binSV, intBin, unSV, simprocAttr, ev2, ev3, h1, h2, h5, h6, hlt, hc, hlen, hblen, hA1', hA2', recheck, wantedS, SV.same_self, Bool.and_self]); (first | (with_reducible refine Nz.go ?_) | refine Hold_some ?_)))
      (refine Hold1_of ?_; (conv => arg 1; simp only [ev, sop, bounds, loI, hiI, fillParts, binSV, intBin, unSV, simprocAttr, ev2, ev3, resultsSV, resMany, resOne]); refine Hold1_some ?_)
      exact ⟨true, rfl, fun h => by cases h⟩
    have hA' : f.bl.length ≤ 30 ∨ 200 < f.bl.length := by omega
    by_cases hB : f.bl.length > 30
    · have hB1 : (f.bl.length : Int) > 30 := by omega
      have hB2 : ¬ (f.bl.length : Int) ≤ 200 := by omega
      repeat (first | (with_reducible refine Nx.go ?_) | ((with_reducible refine Ny.go ?_); (conv => arg 1; simp only [ev, sop, bounds, loI, hiI, fillParts, binSV, intBin, unSV, simprocAttr, ev2, ev3, h1, h2, h5, h6, hlt, hc, hlen, hblen, hB1, hB2, recheck, wantedS, SV.same_self, Bool.and_self]); (first | (with_reducible refine Nz.go ?_) | refine Hold_some ?_)))
      refine st_tellp (hN1) ⟨_, rfl, by first | omega | decide⟩ (by first | with_reducible exact wantedS_none | (refine wantedS_some ?_; simp only [ev, sop, bounds, loI, hiI, fillParts, binSV, intBin, unSV, simprocAttr, ev2, ev3, h1, h2, h5, h6, hlt, hc, hblen, hB1, hB2]; done)) (by simp only [ev, sop, bounds, loI, hiI, fillParts, binSV, intBin, unSV, simprocAttr, ev2, ev3, h1, h2, h5, h6, hlt, hc, hblen, hB1, hB2] <;> rfl) (by first | rfl | simp [pures, SV.pure, *, pure_func, pure_ints, pure_blks, pure_insV, pure_rows, pure_edges, pure_edge]) (by first | with_reducible exact recheck_nil | (simp only [recheck, wantedS]; simp only [ev, sop, bounds, loI, hiI, fillParts, binSV, intBin, unSV, simprocAttr, ev2, ev3, h1, h2, h5, h6, hlt, hc, hblen, hB1, hB2]; simp only [SV.same_self, Bool.and_self])) ?_
      by_cases hC : N ≤ 2000
      · have hC' : ¬ (N : Int) > 2000 := by omega
        by_cases hD : n ≤ 90
        · have hD' : ¬ (n : Int) > 90 := by omega
          repeat (first | (with_reducible refine Nx.go ?_) | ((with_reducible refine Ny.go ?_); (conv => arg 1; simp only [ev, sop, bounds, loI, hiI, fillParts, binSV, intBin, unSV, simprocAttr, ev2, ev3, h1, h2, h5, h6, hlt, hc, hlen, hC', hD', recheck, wantedS, SV.same_self, Bool.and_self]); (first | (with_reducible refine Nz.go ?_) | refine Hold_some ?_)))
          (refine Hold1_of ?_; (conv => arg 1; simp only [ev, sop, bounds, loI, hiI, fillParts, binSV, intBin, unSV, simprocAttr, ev2, ev3, resultsSV, resMany, resOne]); refine Hold1_some ?_)
          refine ⟨false, rfl, fun _ => ⟨?_, ⟨by omega, fun t ht => ?_⟩, hA'⟩⟩
          · exact (hN2 hC).mono hC
          · obtain ⟨j, hj⟩ := List.mem_iff_getElem?.1 ht
            exact Nat.le_trans (hseen hD j t (by have := (List.getElem?_eq_some_iff.1 hj).1; omega) hj) hD
        · have hD' : (n : Int) > 90 := by omega
          repeat (first | (with_reducible refine Nx.go ?_) | ((with_reducible refine Ny.go ?_); (conv => arg 1; simp only [ev, sop, bounds, loI, hiI, fillParts, binSV, intBin, unSV, simprocAttr, ev2, ev3, h1, h2, h5, h6, hlt, hc, hlen, hC', hD', recheck, wantedS, SV.same_self, Bool.and_self]); (first | (with_reducible refine Nz.go ?_) | refine Hold_some ?_)))
          (refine Hold1_of ?_; (conv => arg 1; simp only [ev, sop, bounds, loI, hiI, fillParts, binSV, intBin, unSV, simprocAttr, ev2, ev3, resultsSV, resMany, resOne]); refine Hold1_some ?_)
          exact ⟨true, rfl, fun h => by cases h⟩
      · have hC' : (N : Int) > 2000 := by omega
        repeat (first | (with_reducible refine Nx.go ?_) | ((with_reducible refine Ny.go ?_); (conv => arg 1; simp only [ev, sop, bounds, loI, hiI, fillParts, binSV, intBin, unSV, simprocAttr, ev2, ev3, h1, h2, h5, h6, hlt, hc, hlen, hC', recheck, wantedS, SV.same_self, Bool.and_self]); (first | (with_reducible refine Nz.go ?_) | refine Hold_some ?_)))
        (refine Hold1_of ?_; (conv => arg 1; simp only [ev, sop, bounds, loI, hiI, fillParts, binSV, intBin, unSV, simprocAttr, ev2, ev3, resultsSV, resMany, resOne]); refine Hold1_some ?_)
        exact ⟨true, rfl, fun h => by cases h⟩
    · have hB1 : ¬ (f.bl.length : Int) > 30 := by omega
      repeat (first | (with_reducible refine Nx.go ?_) | ((with_reducible refine Ny.go ?_); (conv => arg 1; simp only [ev, sop, bounds, loI, hiI, fillParts, binSV, intBin, unSV, simprocAttr, ev2, ev3, h1, h2, h5, h6, hlt, hc, hlen, hblen, hB1, recheck, wantedS, SV.same_self, Bool.and_self]); (first | (with_reducible refine Nz.go ?_) | refine Hold_some ?_)))
      refine st_tellp (hN1) ⟨_, rfl, by first | omega | decide⟩ (by first | with_reducible exact wantedS_none | (refine wantedS_some ?_; simp only [ev, sop, bounds, loI, hiI, fillParts, binSV, intBin, unSV, simprocAttr, ev2, ev3, h1, h2, h5, h6, hlt, hc, hblen, hB1]; done)) (by simp only [ev, sop, bounds, loI, hiI, fillParts, binSV, intBin, unSV, simprocAttr, ev2, ev3, h1, h2, h5, h6, hlt, hc, hblen, hB1] <;> rfl) (by first | rfl | simp [pures, SV.pure, *, pure_func, pure_ints, pure_blks, pure_insV, pure_rows, pure_edges, pure_edge]) (by first | with_reducible exact recheck_nil | (simp only [recheck, wantedS]; simp only [ev, sop, bounds, loI, hiI, fillParts, binSV, intBin, unSV, simprocAttr, ev2, ev3, h1, h2, h5, h6, hlt, hc, hblen, hB1]; simp only [SV.same_self, Bool.and_self])) ?_
      by_cases hC : N ≤ 2000
      · have hC' : ¬ (N : Int) > 2000 := by omega
        by_cases hD : n ≤ 90
        · have hD' : ¬ (n : Int) > 90 := by omega
          repeat (first | (with_reducible refine Nx.go ?_) | ((with_reducible refine Ny.go ?_); (conv => arg 1; simp only [ev, sop, bounds, loI, hiI, fillParts, binSV, intBin, unSV, simprocAttr, ev2, ev3, h1, h2, h5, h6, hlt, hc, hlen, hC', hD', recheck, wantedS, SV.same_self, Bool.and_self]); (first | (with_reducible refine Nz.go ?_) | refine Hold_some ?_)))
          (refine Hold1_of ?_; (conv => arg 1; simp only [ev, sop, bounds, loI, hiI, fillParts, binSV, intBin, unSV, simprocAttr, ev2, ev3, resultsSV, resMany, resOne]); refine Hold1_some ?_)
          refine ⟨false, rfl, fun _ => ⟨?_, ⟨by omega, fun t ht => ?_⟩, hA'⟩⟩
          · exact (hN2 hC).mono hC
          · obtain ⟨j, hj⟩ := List.mem_iff_getElem?.1 ht
            exact Nat.le_trans (hseen hD j t (by have := (List.getElem?_eq_some_iff.1 hj).1; omega) hj) hD
        · have hD' : (n : Int) > 90 := by omega
          repeat (first | (with_reducible refine Nx.go ?_) | ((with_reducible refine Ny.go ?_); (conv => arg 1; simp only [ev, sop, bounds, loI, hiI, fillParts, binSV, intBin, unSV, simprocAttr, ev2, ev3, h1, h2, h5, h6, hlt, hc, hlen, hC', hD', recheck, wantedS, SV.same_self, Bool.and_self]); (first | (with_reducible refine Nz.go ?_) | refine Hold_some ?_)))
          (refine Hold1_of ?_; (conv => arg 1; simp only [ev, sop, bounds, loI, hiI, fillParts, binSV, intBin, unSV, simprocAttr, ev2, ev3, resultsSV, resMany, resOne]); refine Hold1_some ?_)
          exact ⟨true, rfl, fun h => by cases h⟩
      · have hC' : (N : Int) > 2000 := by omega
        repeat (first | (with_reducible refine Nx.go ?_) | ((with_reducible refine Ny.go ?_); (conv => arg 1; simp only [ev, sop, bounds, loI, hiI, fillParts, binSV, intBin, unSV, simprocAttr, ev2, ev3, h1, h2, h5, h6, hlt, hc, hlen, hC', recheck, wantedS, SV.same_self, Bool.and_self]); (first | (with_reducible refine Nz.go ?_) | refine Hold_some ?_)))
        (refine Hold1_of ?_; (conv => arg 1; simp only [ev, sop, bounds, loI, hiI, fillParts, binSV, intBin, unSV, simprocAttr, ev2, ev3, resultsSV, resMany, resOne]); refine Hold1_some ?_)
        exact ⟨true, rfl, fun h => by cases h⟩

  by_cases hle : n ≤ 90
  rotate_left
  · have hle' : ¬ (n : Int) ≤ 90 := by omega
    by_cases hA : f.bl.length > 30 ∧ f.bl.length ≤ 200
    · obtain ⟨hA1, hA2⟩ := hA
      have hA1' : (f.bl.length : Int) > 30 := by omega
      have hA2' : (f.bl.length : Int) ≤ 200 := by omega
      repeat (first | (with_reducible refine Nx.go ?_) | ((with_reducible refine Ny.go ?_); (conv => arg 1; simp only [ev, sop, bounds, loI, hiI, fillParts, binSV, intBin, unSV, simprocAttr, ev2, ev3, h1, h2, h5, h6, hlt, hle', hc, hlen, hblen, hA1', hA2', recheck, wantedS, SV.same_self, Bool.and_self]); (first | (with_reducible refine Nz.go ?_) | refine Hold_some ?_)))
      (refine Hold1_of ?_; (conv => arg 1; simp only [ev, sop, bounds, loI, hiI, fillParts, binSV, intBin, unSV, simprocAttr, ev2, ev3, resultsSV, resMany, resOne]); refine Hold1_some ?_)
      exact ⟨true, rfl, fun h => by cases h⟩
    have hA' : f.bl.length ≤ 30 ∨ 200 < f.bl.length := by omega
    by_cases hB : f.bl.length > 30
    · have hB1 : (f.bl.length : Int) > 30 := by omega
      have hB2 : ¬ (f.bl.length : Int) ≤ 200 := by omega
      repeat (first | (with_reducible refine Nx.go ?_) | ((with_reducible refine Ny.go ?_); (conv => arg 1; simp only [ev, sop, bounds, loI, hiI, fillParts, binSV, intBin, unSV, simprocAttr, ev2, ev3, h1, h2, h5, h6, hlt, hle', hc, hlen, hblen, hB1, hB2, recheck, wantedS, SV.same_self, Bool.and_self]); (first | (with_reducible refine Nz.go ?_) | refine Hold_some ?_)))
      refine st_tellp (hN1) ⟨_, rfl, by first | omega | decide⟩ (by first | with_reducible exact wantedS_none | (refine wantedS_some ?_; simp only [ev, sop, bounds, loI, hiI, fillParts, binSV, intBin, unSV, simprocAttr, ev2, ev3, h1, h2, h5, h6, hlt, hle', hc, hblen, hB1, hB2]; done)) (by simp only [ev, sop, bounds, loI, hiI, fillParts, binSV, intBin, unSV, simprocAttr, ev2, ev3, h1, h2, h5, h6, hlt, hle', hc, hblen, hB1, hB2] <;> rfl) (by first | rfl | simp [pures, SV.pure, *, pure_func, pure_ints, pure_blks, pure_insV, pure_rows, pure_edges, pure_edge]) (by first | with_reducible exact recheck_nil | (simp only [recheck, wantedS]; simp only [ev, sop, bounds, loI, hiI, fillParts, binSV, intBin, unSV, simprocAttr, ev2, ev3, h1, h2, h5, h6, hlt, hle', hc, hblen, hB1, hB2]; simp only [SV.same_self, Bool.and_self])) ?_
      by_cases hC : N ≤ 2000
      · have hC' : ¬ (N : Int) > 2000 := by omega
        by_cases hD : n ≤ 90
        · have hD' : ¬ (n : Int) > 90 := by omega
          repeat (first | (with_reducible refine Nx.go ?_) | ((with_reducible refine Ny.go ?_); (conv => arg 1; simp only [ev, sop, bounds, loI, hiI, fillParts, binSV, intBin, unSV, simprocAttr, ev2, ev3, h1, h2, h5, h6, hlt, hle', hc, hlen, hC', hD', recheck, wantedS, SV.same_self, Bool.and_self]); (first | (with_reducible refine Nz.go ?_) | refine Hold_some ?_)))
          (refine Hold1_of ?_; (conv => arg 1; simp only [ev, sop, bounds, loI, hiI, fillParts, binSV, intBin, unSV, simprocAttr, ev2, ev3, resultsSV, resMany, resOne]); refine Hold1_some ?_)
          refine ⟨false, rfl, fun _ => ⟨?_, ⟨by omega, fun t ht => ?_⟩, hA'⟩⟩
          · exact (hN2 hC).mono hC
          · obtain ⟨j, hj⟩ := List.mem_iff_getElem?.1 ht
            exact absurd hD hle
        · have hD' : (n : Int) > 90 := by omega
          repeat (first | (with_reducible refine Nx.go ?_) | ((with_reducible refine Ny.go ?_); (conv => arg 1; simp only [ev, sop, bounds, loI, hiI, fillParts, binSV, intBin, unSV, simprocAttr, ev2, ev3, h1, h2, h5, h6, hlt, hle', hc, hlen, hC', hD', recheck, wantedS, SV.same_self, Bool.and_self]); (first | (with_reducible refine Nz.go ?_) | refine Hold_some ?_)))
          (refine Hold1_of ?_; (conv => arg 1; simp only [ev, sop, bounds, loI, hiI, fillParts, binSV, intBin, unSV, simprocAttr, ev2, ev3, resultsSV, resMany, resOne]); refine Hold1_some ?_)
          exact ⟨true, rfl, fun h => by cases h⟩
      · have hC' : (N : Int) > 2000 := by omega
        repeat (first | (with_reducible refine Nx.go ?_) | ((with_reducible refine Ny.go ?_); (conv => arg 1; simp only [ev, sop, bounds, loI, hiI, fillParts, binSV, intBin, unSV, simprocAttr, ev2, ev3, h1, h2, h5, h6, hlt, hle', hc, hlen, hC', recheck, wantedS, SV.same_self, Bool.and_self]); (first | (with_reducible refine Nz.go ?_) | refine Hold_some ?_)))
        (refine Hold1_of ?_; (conv => arg 1; simp only [ev, sop, bounds, loI, hiI, fillParts, binSV, intBin, unSV, simprocAttr, ev2, ev3, resultsSV, resMany, resOne]); refine Hold1_some ?_)
        exact ⟨true, rfl, fun h => by cases h⟩
    · have hB1 : ¬ (f.bl.length : Int) > 30 := by omega
      repeat (first | (with_reducible refine Nx.go ?_) | ((with_reducible refine Ny.go ?_); (conv => arg 1; simp only [ev, sop, bounds, loI, hiI, fillParts, binSV, intBin, unSV, simprocAttr, ev2, ev3, h1, h2, h5, h6, hlt, hle', hc, hlen, hblen, hB1, recheck, wantedS, SV.same_self, Bool.and_self]); (first | (with_reducible refine Nz.go ?_) | refine Hold_some ?_)))
      refine st_tellp (hN1) ⟨_, rfl, by first | omega | decide⟩ (by first | with_reducible exact wantedS_none | (refine wantedS_some ?_; simp only [ev, sop, bounds, loI, hiI, fillParts, binSV, intBin, unSV, simprocAttr, ev2, ev3, h1, h2, h5, h6, hlt, hle', hc, hblen, hB1]; done)) (by simp only [ev, sop, bounds, loI, hiI, fillParts, binSV, intBin, unSV, simprocAttr, ev2, ev3, h1, h2, h5, h6, hlt, hle', hc, hblen, hB1] <;> rfl) (by first | rfl | simp [pures, SV.pure, *, pure_func, pure_ints, pure_blks, pure_insV, pure_rows, pure_edges, pure_edge]) (by first | with_reducible exact recheck_nil | (simp only [recheck, wantedS]; simp only [ev, sop, bounds, loI, hiI, fillParts, binSV, intBin, unSV, simprocAttr, ev2, ev3, h1, h2, h5, h6, hlt, hle', hc, hblen, hB1]; simp only [SV.same_self, Bool.and_self])) ?_
      by_cases hC : N ≤ 2000
      · have hC' : ¬ (N : Int) > 2000 := by omega
        by_cases hD : n ≤ 90
        · have hD' : ¬ (n : Int) > 90 := by omega
          repeat (first | (with_reducible refine Nx.go ?_) | ((with_reducible refine Ny.go ?_); (conv => arg 1; simp only [ev, sop, bounds, loI, hiI, fillParts, binSV, intBin, unSV, simprocAttr, ev2, ev3, h1, h2, h5, h6, hlt, hle', hc, hlen, hC', hD', recheck, wantedS, SV.same_self, Bool.and_self]); (first | (with_reducible refine Nz.go ?_) | refine Hold_some ?_)))
          (refine Hold1_of ?_; (conv => arg 1; simp only [ev, sop, bounds, loI, hiI, fillParts, binSV, intBin, unSV, simprocAttr, ev2, ev3, resultsSV, resMany, resOne]); refine Hold1_some ?_)
          refine ⟨false, rfl, fun _ => ⟨?_, ⟨by omega, fun t ht => ?_⟩, hA'⟩⟩
          · exact (hN2 hC).mono hC
          · obtain ⟨j, hj⟩ := List.mem_iff_getElem?.1 ht
            exact absurd hD hle
        · have hD' : (n : Int) > 90 := by omega
          repeat (first | (with_reducible refine Nx.go ?_) | ((with_reducible refine Ny.go ?_); (conv => arg 1; simp only [ev, sop, bounds, loI, hiI, fillParts, binSV, intBin, unSV, simprocAttr, ev2, ev3, h1, h2, h5, h6, hlt, hle', hc, hlen, hC', hD', recheck, wantedS, SV.same_self, Bool.and_self]); (first | (with_reducible refine Nz.go ?_) | refine Hold_some ?_)))
          (refine Hold1_of ?_; (conv => arg 1; simp only [ev, sop, bounds, loI, hiI, fillParts, binSV, intBin, unSV, simprocAttr, ev2, ev3, resultsSV, resMany, resOne]); refine Hold1_some ?_)
          exact ⟨true, rfl, fun h => by cases h⟩
      · have hC' : (N : Int) > 2000 := by omega
        repeat (first | (with_reducible refine Nx.go ?_) | ((with_reducible refine Ny.go ?_); (conv => arg 1; simp only [ev, sop, bounds, loI, hiI, fillParts, binSV, intBin, unSV, simprocAttr, ev2, ev3, h1, h2, h5, h6, hlt, hle', hc, hlen, hC', recheck, wantedS, SV.same_self, Bool.and_self]); (first | (with_reducible refine Nz.go ?_) | refine Hold_some ?_)))
        (refine Hold1_of ?_; (conv => arg 1; simp only [ev, sop, bounds, loI, hiI, fillParts, binSV, intBin, unSV, simprocAttr, ev2, ev3, resultsSV, resMany, resOne]); refine Hold1_some ?_)
        exact ⟨true, rfl, fun h => by cases h⟩

  have hle' : (n : Int) ≤ 90 := by omega
  obtain ⟨x, hx⟩ := get_of_lt hlt
  have hv := tiles_of_lt hlt
  rw [hv] at h1
  have hcx := cut_tile2 hx
  have hbx := ht.2 x (List.mem_of_getElem? hx)
  have hw4 : IntKind.i64.wrap ((n : Int) + ((ol x.blocks).length : Int)) = ((n + (ol x.blocks).length : Nat) : Int) := by rw [i64_in _ (by omega) (by omega)]; rfl
  have hw5 : IntKind.i64.wrap ((i : Int) + 1) = ((i + 1 : Nat) : Int) := by have := ht.1; rw [i64_in _ (by omega) (by omega)]; rfl
  repeat (first | (with_reducible refine Nx.go ?_) | ((with_reducible refine Ny.go ?_); (conv => arg 1; simp only [ev, sop, bounds, loI, hiI, fillParts, binSV, intBin, unSV, simprocAttr, ev2, ev3, h1, h2, h5, h6, hlt, hle', hcx, hw4, hw5, recheck, wantedS, SV.same_self, Bool.and_self]); (first | (with_reducible refine Nz.go ?_) | refine Hold_some ?_)))
  refine ⟨_, by omega, i + 1, n + (ol x.blocks).length, rfl, by omega, by omega, by omega, by simp only [ev, sop, bounds, loI, hiI, fillParts, binSV, intBin, unSV, simprocAttr, ev2, ev3, h1]; exact hv.symm, by simp only [ev, sop, bounds, loI, hiI, fillParts, binSV, intBin, unSV, simprocAttr, ev2, ev3, h2], by simp only [ev, sop, bounds, loI, hiI, fillParts, binSV, intBin, unSV, simprocAttr, ev2, ev3], by simp only [ev, sop, bounds, loI, hiI, fillParts, binSV, intBin, unSV, simprocAttr, ev2, ev3], hc, fun h j y hj hy => ?_⟩
  by_cases e : j = i
  · subst e; rw [hx] at hy; cases hy; omega
  · have := hseen hle j y (by omega) hy; omega
end Go.Proofs.Ytojjhcgbbmknmaa.Sh
