/- Several texts, merged: A function's walker: does it fit? where do its blocks go, whence do they come? And more. -/
import Derived.Test.YtojjhcgbbmknmaaX7
import Derived.Test.YtojjhcgbbmknmaaX6

/- A function's walker: does it fit? where do its blocks go, whence do they come? -/
namespace Go.Proofs.Ytojjhcgbbmknmaa.Sh
set_option linter.unusedSimpArgs false
set_option linter.unusedVariables false
open Go Go.Proofs

/-- Are its ends right, and where they go, there? -/
def BlkD.fits (n : Nat) (b : BlkD) : Prop := b.term.ok = true ∧ ∀ y ∈ ol b.term.to, 1 ≤ y ∧ y < (n : Int)
def FuncD.fits1 (f : FuncD) : Prop := 1 ≤ f.bl.length ∧ f.bl.length ≤ 200 ∧ ∀ b ∈ f.bl, b.fits f.bl.length
/-- Is each of its blocks reached? -/
def FuncD.all (f : FuncD) : Nat → Bool := fun i => decide (i < f.bl.length)
def FuncD.fits (f : FuncD) : Prop := f.fits1 ∧ ∀ i, i < f.bl.length → i ≠ 0 → wayS f.all f.to 0 i = true
def FuncD.toCells (f : FuncD) (k : Nat) : List SV := (f.to.take k).map intsV ++ List.replicate (f.bl.length - k) (.sc .nilsl)
def FuncD.walker (f : FuncD) : SV := .agg [intsV f.params, blksV f.blocks, rowsV f.to, rowsV f.from_]

theorem FuncD.to_len (f : FuncD) : f.to.length = f.bl.length := by simp [FuncD.to]
theorem FuncD.toCells_len (f : FuncD) {k : Nat} (h : k ≤ f.bl.length) : (f.toCells k).length = f.bl.length := by
  simp [FuncD.toCells, f.to_len]; omega
theorem pures_map {α : Type} {g : α → SV} (h : ∀ x, (g x).pure = true) (l : List α) : pures (l.map g) = true := by
  rw [pures_iff]; intro c hc; obtain ⟨x, _, rfl⟩ := List.mem_map.1 hc; exact h x
theorem pures_replicate {v : SV} (h : v.pure = true) (n : Nat) : pures (List.replicate n v) = true := by
  rw [pures_iff]; intro c hc; rw [List.eq_of_mem_replicate hc]; exact h
theorem FuncD.pures_toCells (f : FuncD) (k : Nat) : pures (f.toCells k) = true := by
  rw [FuncD.toCells, pures_append, pures_map pure_ints, pures_replicate rfl]; rfl
theorem FuncD.toCells_set (f : FuncD) {k : Nat} {b : BlkD} (h : f.bl[k]? = some b) : (f.toCells k).set k (intsV b.term.to) = f.toCells (k + 1) := by
  have hk : k < f.bl.length := (List.getElem?_eq_some_iff.1 h).1
  have hl : ((f.to.take k).map intsV).length = k := by simp [f.to_len]; omega
  unfold FuncD.toCells
  rw [List.set_append_right _ _ (by omega), hl, Nat.sub_self]
  have hto : f.to[k]? = some b.term.to := by simp [FuncD.to, h]
  rw [show f.bl.length - k = (f.bl.length - (k + 1)) + 1 by omega, List.replicate_succ, List.set_cons_zero, List.take_add_one, hto]
  simp
theorem FuncD.toCells_end (f : FuncD) : f.toCells f.bl.length = f.to.map intsV := by
  simp [FuncD.toCells, ← f.to_len]

theorem flat_rep {v : SV} : ∀ n : Nat, (List.replicate n [v]).flatten = List.replicate n v
  | 0 => rfl
  | n + 1 => by rw [List.replicate_succ, List.flatten_cons, flat_rep n]; rfl
theorem term_to_len (d : TermD) : (ol d.to).length ≤ 2 := by
  unfold TermD.to
  split
  · split
    · simp [ol]
    · split <;> simp [ol]
  · simp [ol]
/-- The walker, read. -/
theorem frz_walker {σ : St} {p b : SV} {T F : List SV} {L : List (List Int)} {n : Nat} (hp : p.pure = true) (hb : b.pure = true) (h2 : cellsOf σ 2 = some T) (hT : pures T = true) (hn : T.length = n) (h3 : cellsOf σ 3 = some F) (hF : RowsOwn σ 4 F L) (hl : L.length = n) {d : Nat} :
    frz σ (d + 4) (.agg [p, b, .sl 2 0 n 1, .sl 3 0 n 1]) = some (.agg [p, b, .lst n 1 T, rowsV (L.map nilRow)]) := by
  have e2 : frz σ (d + 3) (.sl 2 0 n 1) = some (.lst n 1 T) := by
    unfold frz
    rw [if_neg (by simp [SV.pure])]
    simp only [h2, Option.bind_some, cut_whole (show n * 1 = T.length by omega)]
    rw [mapO_pures hT]; rfl
  have e3 : frz σ (d + 3) (.sl 3 0 n 1) = some (rowsV (L.map nilRow)) := by
    unfold frz
    rw [if_neg (by simp [SV.pure])]
    simp only [h3, Option.bind_some, cut_whole (show n * 1 = F.length by rw [hF.len]; omega)]
    rw [hF.frz d]
    simp only [Option.map_some, rowsV, List.length_map, hl]
  unfold frz
  rw [if_neg (by simp [SV.pure, pures])]
  simp only [mapO, frz_pure hp, frz_pure hb, e2, e3, Option.map_some]
theorem frz_tup2 {σ : St} {d : Nat} {v r : SV} {s : Sc} (h : frz σ (d + 1) v = some r) (hv : v.pure = false) : frz σ (d + 2) (.tup [v, .sc s]) = some (.tup [r, .sc s]) := by
  unfold frz
  rw [if_neg (by simp [SV.pure, pures, hv])]
  simp only [mapO, h, frz_pure (show (SV.sc s).pure = true from rfl), Option.map_some]

theorem FuncD.fits1.to_ok {f : FuncD} (h : f.fits1) : ∀ l ∈ f.to, (ol l).length ≤ 2 ^ 40 ∧ ∀ y ∈ ol l, 0 ≤ y ∧ y < (f.to.length : Int) := by
  intro l hl
  obtain ⟨b, hb, rfl⟩ := List.mem_map.1 hl
  refine ⟨Nat.le_trans (term_to_len b.term) (by omega), fun y hy => ?_⟩
  have := (h.2.2 b hb).2 y hy
  rw [f.to_len]; omega
set_option maxHeartbeats 8000000 in
theorem t_over1 (f : FuncD) (n1 : 1 ≤ f.bl.length) (n2 : f.bl.length ≤ 200) : ∃ w b, w.length = 4 ∧ (b = true ↔ f.fits) ∧ (b = true → .agg w = f.walker) ∧ Tells 33 [f.sv] (.tup [.agg w, .sc (.bool b)]) := by
  have hlen : lenSV (blksV f.blocks) = some f.bl.length := lenSV_rec _
  have h0' : ¬ (f.bl.length : Int) < 1 := by omega
  have h1' : ¬ (f.bl.length : Int) > 200 := by omega
  suffices h : WPF (EV 6) 33 [f.sv] St.empty (fun v σ => ∃ w b, w.length = 4 ∧ (b = true ↔ f.fits) ∧ (b = true → .agg w = f.walker) ∧ frz σ 20 v = some (.tup [.agg w, .sc (.bool b)])) by
    obtain ⟨n, v, σ, h1, w, b, hw, h2, h3, h4⟩ := h
    exact ⟨w, b, hw, h2, h3, _, rfl, n, v, σ, h1, h4⟩
  refine told_fn rfl rfl rfl rfl ?_
  unfold FuncD.sv FuncD.cells
  rw [setCells_none]
  have bad : ∀ (σ' : St) (T F : List SV) (L : List (List Int)), ¬ f.fits → cellsOf σ' 2 = some T → pures T = true → T.length = f.bl.length → cellsOf σ' 3 = some F → RowsOwn σ' 4 F L → L.length = f.bl.length →
      ∃ w b, w.length = 4 ∧ (b = true ↔ f.fits) ∧ (b = true → .agg w = f.walker) ∧ frz σ' 20 (.tup [.agg [intsV f.params, blksV f.blocks, .sl 2 0 f.bl.length 1, .sl 3 0 f.bl.length 1], .sc (.bool false)]) = some (.tup [.agg w, .sc (.bool b)]) :=
    fun σ' T F L hf g1 g2 g3 g4 g5 g6 => ⟨_, false, rfl, ⟨fun h => by (cases h), fun h => absurd h hf⟩, fun h => by (cases h), frz_tup2 (frz_walker (pure_ints _) (pure_blks _) g1 g2 g3 g4 g5 g6) (by simp [SV.pure, pures])⟩
  have hmk : (f.bl.length : Int) * 24 ≤ 1099511627776 ∧ (f.bl.length : Int) ≤ 1099511627776 := by omega
  repeat (first | (with_reducible refine Nx.go ?_) | ((with_reducible refine Ny.go ?_); (conv => arg 1; simp only [ev, sop, bounds, loI, hiI, fillParts, binSV, intBin, unSV, simprocAttr, ev2, hlen, h0', h1', hmk, flat_rep, recheck, wantedS, SV.same_self, Bool.and_self]); (first | (with_reducible refine Nz.go ?_) | refine Hold_some ?_)))
  refine WP_range (N := f.bl.length) (fun k t σ => ∃ F, getT t 2 = .ptr 1 0 ∧ getT t 4 = .sc (.int .i64 f.bl.length) ∧ getT t 27 = blksV f.blocks ∧ 4 ≤ σ.next ∧
      cellsOf σ 1 = some [intsV f.params, blksV f.blocks, .sl 2 0 f.bl.length 1, .sl 3 0 f.bl.length 1] ∧ cellsOf σ 2 = some (f.toCells k) ∧ cellsOf σ 3 = some F ∧ RowsOwn σ 4 F (fromsK f.bl.length f.to k) ∧
      ∀ j b, j < k → f.bl[j]? = some b → b.fits f.bl.length) (by omega) (by simp only [ev, sop, bounds, loI, hiI, fillParts, binSV, intBin, unSV, simprocAttr, ev2]) (by simp only [ev, sop, bounds, loI, hiI, fillParts, binSV, intBin, unSV, simprocAttr, ev2]) (by decide)
    ⟨List.replicate f.bl.length (.sc .nilsl), by simp only [ev, sop, bounds, loI, hiI, fillParts, binSV, intBin, unSV, simprocAttr, ev2], by simp only [ev, sop, bounds, loI, hiI, fillParts, binSV, intBin, unSV, simprocAttr, ev2], by simp only [ev, sop, bounds, loI, hiI, fillParts, binSV, intBin, unSV, simprocAttr, ev2], by simp [next_push, next_set, next_empty], by simp only [ev, sop, bounds, loI, hiI, fillParts, binSV, intBin, unSV, simprocAttr, ev2] <;> rfl, by simp only [ev, sop, bounds, loI, hiI, fillParts, binSV, intBin, unSV, simprocAttr, ev2]; simp [FuncD.toCells], by simp only [ev, sop, bounds, loI, hiI, fillParts, binSV, intBin, unSV, simprocAttr, ev2], RowsOwn.start _ _ _, by simp⟩ ?_ ?_
  · rintro k t σ hk h28 h29 ⟨F, h2, h4, h27, hnx, hc1, hc2, hc3, hF, hok⟩
    obtain ⟨b, hb⟩ := get_of_lt hk
    have hv : blksV f.blocks = .lst f.bl.length 5 (f.bl.flatMap BlkD.cells) := rec_of_lt hk
    rw [hv] at h27
    have hcb := cut_flat0 (enc := BlkD.cells) (sz := 5) (fun _ => rfl) hb 5 (by omega)
    rw [show (b.cells).take 5 = b.cells from rfl, BlkD.cells] at hcb
    have m1 : (1 = σ.next) = False := by simp; omega
    have m2 : (2 = σ.next) = False := by simp; omega
    have m3 : (3 = σ.next) = False := by simp; omega
    repeat (first | (with_reducible refine Nx.go ?_) | ((with_reducible refine Ny.go ?_); (conv => arg 1; simp only [ev, sop, bounds, loI, hiI, fillParts, binSV, intBin, unSV, simprocAttr, ev2, h27, h29, hk, hcb, List.length_cons, recheck, wantedS, SV.same_self, Bool.and_self]); (first | (with_reducible refine Nz.go ?_) | refine Hold_some ?_)))
    refine st_tellp (t_isTerm b.term) ⟨_, rfl, by first | omega | decide⟩ wantedS_none (by simp only [ev, sop, bounds, loI, hiI, fillParts, binSV, intBin, unSV, simprocAttr, ev2] <;> rfl) (by first | rfl | simp [pures, SV.pure, *]) (by first | with_reducible exact recheck_nil | (simp only [recheck, wantedS]; simp only [ev, sop, bounds, loI, hiI, fillParts, binSV, intBin, unSV, simprocAttr, ev2]; simp only [SV.same_self, Bool.and_self, beq_self_eq_true])) ?_
    by_cases hbt : b.term.ok = true
    rotate_left
    · have hbt : b.term.ok = false := by simpa using hbt
      repeat (first | (with_reducible refine Nx.go ?_) | ((with_reducible refine Ny.go ?_); (conv => arg 1; simp only [ev, sop, bounds, loI, hiI, fillParts, binSV, intBin, unSV, simprocAttr, ev2, h2, hbt, m1, m2, m3, hc1, recheck, wantedS, SV.same_self, Bool.and_self]); (first | (with_reducible refine Nz.go ?_) | refine Hold_some ?_)))
      (refine Hold1_of ?_; (conv => arg 1; simp only [ev, sop, bounds, loI, hiI, fillParts, binSV, intBin, unSV, simprocAttr, ev2, h2, resultsSV, resMany, resOne]); refine Hold1_some ?_)
      refine bad _ _ _ _ (fun h => ?_) ?_ (f.pures_toCells k) (f.toCells_len (by omega)) ?_ (hF.same ?_ ?_) (fromsK_len _ _ _)
      · have := (h.1.2.2 b (List.mem_of_getElem? hb)).1
        rw [hbt] at this; cases this
      · simp (disch := first | omega | (simp only [nx_push, nx_set]; done) | (simp only [nx_push, nx_set]; omega)) only [cells_push_ne, cells_push_eq, cells_set_ne, cells_set_eq, hc2]
      · simp (disch := first | omega | (simp only [nx_push, nx_set]; done) | (simp only [nx_push, nx_set]; omega)) only [cells_push_ne, cells_push_eq, cells_set_ne, cells_set_eq, hc3]
      · simp [next_push, next_set]
      · intro i hi hi2
        simp (disch := first | omega | (simp only [nx_push, nx_set]; done) | (simp only [nx_push, nx_set]; omega)) only [cells_push_ne, cells_push_eq, cells_set_ne, cells_set_eq]
    have hTl := f.toCells_len (k := k) (by omega)
    repeat (first | (with_reducible refine Nx.go ?_) | ((with_reducible refine Ny.go ?_); (conv => arg 1; simp only [ev, sop, bounds, loI, hiI, fillParts, binSV, intBin, unSV, simprocAttr, ev2, h2, hbt, m1, m2, m3, hc1, recheck, wantedS, SV.same_self, Bool.and_self]); (first | (with_reducible refine Nz.go ?_) | refine Hold_some ?_)))
    refine st_tellp (t_to b.term) ⟨_, rfl, by first | omega | decide⟩ wantedS_none (by simp only [ev, sop, bounds, loI, hiI, fillParts, binSV, intBin, unSV, simprocAttr, ev2, h2, m1, hc1] <;> rfl) (by first | rfl | simp [pures, SV.pure, *]) (by first | with_reducible exact recheck_nil | (simp only [recheck, wantedS]; simp only [ev, sop, bounds, loI, hiI, fillParts, binSV, intBin, unSV, simprocAttr, ev2, h2, m1, hc1]; simp only [SV.same_self, Bool.and_self, beq_self_eq_true])) ?_
    have hkt : k < (f.toCells k).length := by omega
    have hto : f.to[k]? = some b.term.to := by simp [FuncD.to, hb]
    have hct : cut (f.toCells (k + 1)) k 1 = some [intsV b.term.to] := cut_one (by rw [← f.toCells_set hb, List.getElem?_set_self (by omega)])
    repeat (first | (with_reducible refine Nx.go ?_) | ((with_reducible refine Ny.go ?_); (conv => arg 1; simp only [ev, sop, bounds, loI, hiI, fillParts, binSV, intBin, unSV, simprocAttr, ev2, h2, hbt, m1, m2, m3, hc1, hk, hc2, hkt, Nat.succ_le_of_lt, paste_one hkt, f.toCells_set hb, hct, recheck, wantedS, SV.same_self, Bool.and_self]); (first | (with_reducible refine Nz.go ?_) | refine Hold_some ?_)))
    refine WP_range (N := (ol b.term.to).length) (fun j t σ => ∃ F, getT t 2 = .ptr 1 0 ∧ getT t 4 = .sc (.int .i64 f.bl.length) ∧ getT t 5 = .sc (.int .i64 k) ∧ getT t 27 = blksV f.blocks ∧ getT t 28 = .sc (.int .i64 f.bl.length) ∧ getT t 29 = .sc (.int .i64 k) ∧ getT t 50 = intsV b.term.to ∧ 4 ≤ σ.next ∧
      cellsOf σ 1 = some [intsV f.params, blksV f.blocks, .sl 2 0 f.bl.length 1, .sl 3 0 f.bl.length 1] ∧ cellsOf σ 2 = some (f.toCells (k + 1)) ∧ cellsOf σ 3 = some F ∧ RowsOwn σ 4 F (fromStep (fromsK f.bl.length f.to k) k ((ol b.term.to).take j)) ∧
      ∀ i y, i < j → (ol b.term.to)[i]? = some y → 1 ≤ y ∧ y < (f.bl.length : Int)) (Nat.le_trans (term_to_len b.term) (by omega)) (by simp only [ev, sop, bounds, loI, hiI, fillParts, binSV, intBin, unSV, simprocAttr, ev2]) (by simp only [ev, sop, bounds, loI, hiI, fillParts, binSV, intBin, unSV, simprocAttr, ev2]) (by decide)
      ⟨F, by simp only [ev, sop, bounds, loI, hiI, fillParts, binSV, intBin, unSV, simprocAttr, ev2, h2], by simp only [ev, sop, bounds, loI, hiI, fillParts, binSV, intBin, unSV, simprocAttr, ev2, h4], by simp only [ev, sop, bounds, loI, hiI, fillParts, binSV, intBin, unSV, simprocAttr, ev2], by simp only [ev, sop, bounds, loI, hiI, fillParts, binSV, intBin, unSV, simprocAttr, ev2, h27]; exact hv.symm, by simp only [ev, sop, bounds, loI, hiI, fillParts, binSV, intBin, unSV, simprocAttr, ev2, h28], by simp only [ev, sop, bounds, loI, hiI, fillParts, binSV, intBin, unSV, simprocAttr, ev2, h29], by simp only [ev, sop, bounds, loI, hiI, fillParts, binSV, intBin, unSV, simprocAttr, ev2], by simp [next_push, next_set]; omega, by simp (disch := first | omega | (simp only [nx_push, nx_set]; done) | (simp only [nx_push, nx_set]; omega)) only [cells_push_ne, cells_push_eq, cells_set_ne, cells_set_eq, hc1], by simp (disch := first | omega | (simp only [nx_push, nx_set]; done) | (simp only [nx_push, nx_set]; omega)) only [cells_push_ne, cells_push_eq, cells_set_ne, cells_set_eq], by simp (disch := first | omega | (simp only [nx_push, nx_set]; done) | (simp only [nx_push, nx_set]; omega)) only [cells_push_ne, cells_push_eq, cells_set_ne, cells_set_eq, hc3], hF.same (by simp [next_push, next_set]) (fun i hi hi2 => by simp (disch := first | omega | (simp only [nx_push, nx_set]; done) | (simp only [nx_push, nx_set]; omega)) only [cells_push_ne, cells_push_eq, cells_set_ne, cells_set_eq]), by simp⟩ ?_ ?_
    · clear h2 h4 h27 h28 h29 hF hc1 hc2 hc3 hnx m1 m2 m3 F
      rintro j t σ hj h51 h52 ⟨F, h2, h4, h5, h27, h28, h29, h50, hnx, hc1, hc2, hc3, hF, hin⟩
      obtain ⟨y, hy⟩ := get_of_lt hj
      have hv2 := ints_of_lt hj
      rw [hv2] at h50
      have hcy := cut_ints hy
      by_cases hy1 : y < 1
      · repeat (first | (with_reducible refine Nx.go ?_) | ((with_reducible refine Ny.go ?_); (conv => arg 1; simp only [ev, sop, bounds, loI, hiI, fillParts, binSV, intBin, unSV, simprocAttr, ev2, h50, h52, hj, hcy, hy1, h2, hc1, recheck, wantedS, SV.same_self, Bool.and_self]); (first | (with_reducible refine Nz.go ?_) | refine Hold_some ?_)))
        (refine Hold1_of ?_; (conv => arg 1; simp only [ev, sop, bounds, loI, hiI, fillParts, binSV, intBin, unSV, simprocAttr, ev2, h2, resultsSV, resMany, resOne]); refine Hold1_some ?_)
        refine bad _ _ _ _ (fun h => ?_) ?_ (f.pures_toCells (k + 1)) (f.toCells_len (by omega)) ?_ (hF.same ?_ ?_) (by rw [fromStep_len, fromsK_len])
        · have := (h.1.2.2 b (List.mem_of_getElem? hb)).2 y (List.mem_of_getElem? hy); omega
        · simp (disch := first | omega | (simp only [nx_push, nx_set]; done) | (simp only [nx_push, nx_set]; omega)) only [cells_push_ne, cells_push_eq, cells_set_ne, cells_set_eq, hc2]
        · simp (disch := first | omega | (simp only [nx_push, nx_set]; done) | (simp only [nx_push, nx_set]; omega)) only [cells_push_ne, cells_push_eq, cells_set_ne, cells_set_eq, hc3]
        · simp [next_set]
        · intro i hi hi2
          simp (disch := first | omega | (simp only [nx_push, nx_set]; done) | (simp only [nx_push, nx_set]; omega)) only [cells_push_ne, cells_push_eq, cells_set_ne, cells_set_eq]
      by_cases hyn : y ≥ (f.bl.length : Int)
      · repeat (first | (with_reducible refine Nx.go ?_) | ((with_reducible refine Ny.go ?_); (conv => arg 1; simp only [ev, sop, bounds, loI, hiI, fillParts, binSV, intBin, unSV, simprocAttr, ev2, h50, h52, hj, hcy, hy1, h2, hc1, h4, hyn, recheck, wantedS, SV.same_self, Bool.and_self]); (first | (with_reducible refine Nz.go ?_) | refine Hold_some ?_)))
        (refine Hold1_of ?_; (conv => arg 1; simp only [ev, sop, bounds, loI, hiI, fillParts, binSV, intBin, unSV, simprocAttr, ev2, h2, resultsSV, resMany, resOne]); refine Hold1_some ?_)
        refine bad _ _ _ _ (fun h => ?_) ?_ (f.pures_toCells (k + 1)) (f.toCells_len (by omega)) ?_ (hF.same ?_ ?_) (by rw [fromStep_len, fromsK_len])
        · have := (h.1.2.2 b (List.mem_of_getElem? hb)).2 y (List.mem_of_getElem? hy); omega
        · simp (disch := first | omega | (simp only [nx_push, nx_set]; done) | (simp only [nx_push, nx_set]; omega)) only [cells_push_ne, cells_push_eq, cells_set_ne, cells_set_eq, hc2]
        · simp (disch := first | omega | (simp only [nx_push, nx_set]; done) | (simp only [nx_push, nx_set]; omega)) only [cells_push_ne, cells_push_eq, cells_set_ne, cells_set_eq, hc3]
        · simp [next_set]
        · intro i hi hi2
          simp (disch := first | omega | (simp only [nx_push, nx_set]; done) | (simp only [nx_push, nx_set]; omega)) only [cells_push_ne, cells_push_eq, cells_set_ne, cells_set_eq]
      obtain ⟨x, rfl⟩ := Int.eq_ofNat_of_zero_le (show 0 ≤ y by omega)
      have hx : x < f.bl.length := by omega
      obtain ⟨l, hl⟩ := get_of_lt (show x < (fromStep (fromsK f.bl.length f.to k) k ((ol b.term.to).take j)).length by rw [fromStep_len, fromsK_len]; exact hx)
      have hFl : F.length = f.bl.length := by rw [hF.len, fromStep_len, fromsK_len]
      have hnew : fromStep (fromsK f.bl.length f.to k) k ((ol b.term.to).take (j + 1)) = (fromStep (fromsK f.bl.length f.to k) k ((ol b.term.to).take j)).set x (l ++ [(k : Int)]) := by
        rw [List.take_add_one, hy]
        simp only [Option.toList_some, fromStep_add, Int.toNat_natCast]
        rw [List.getD_eq_getElem?_getD, hl]; rfl
      have m1 : (1 = σ.next) = False := by simp; omega
      have m3 : (3 = σ.next) = False := by simp; omega
      have m11 : (1 = σ.next + 1) = False := by simp; omega
      have m31 : (3 = σ.next + 1) = False := by simp; omega
      have hxF : x < F.length := by omega
      have hcx : ∀ v, F[x]? = some v → cut F x 1 = some [v] := fun v h => cut_one h
      rcases hF.at_ x l hl with ⟨rfl, hFx⟩ | ⟨hne, id, hFx, hid, hidn, hci⟩
      · repeat (first | (with_reducible refine Nx.go ?_) | ((with_reducible refine Ny.go ?_); (conv => arg 1; simp only [ev, sop, bounds, loI, hiI, fillParts, binSV, intBin, unSV, simprocAttr, ev2, h50, h52, hj, hcy, hy1, h2, hc1, h4, hyn, h5, hc3, hx, hxF, hcx _ hFx, m1, m3, m11, m31, Nat.succ_le_of_lt, paste_one hxF, recheck, wantedS, SV.same_self, Bool.and_self]); (first | (with_reducible refine Nz.go ?_) | refine Hold_some ?_)))
        refine ⟨by simp only [ev, sop, bounds, loI, hiI, fillParts, binSV, intBin, unSV, simprocAttr, ev2, h51], by simp only [ev, sop, bounds, loI, hiI, fillParts, binSV, intBin, unSV, simprocAttr, ev2, h52], fun v w => ⟨_, by simp only [ev, sop, bounds, loI, hiI, fillParts, binSV, intBin, unSV, simprocAttr, ev2, h2], by simp only [ev, sop, bounds, loI, hiI, fillParts, binSV, intBin, unSV, simprocAttr, ev2, h4], by simp only [ev, sop, bounds, loI, hiI, fillParts, binSV, intBin, unSV, simprocAttr, ev2, h5], by simp only [ev, sop, bounds, loI, hiI, fillParts, binSV, intBin, unSV, simprocAttr, ev2, h27], by simp only [ev, sop, bounds, loI, hiI, fillParts, binSV, intBin, unSV, simprocAttr, ev2, h28], by simp only [ev, sop, bounds, loI, hiI, fillParts, binSV, intBin, unSV, simprocAttr, ev2, h29], by simp only [ev, sop, bounds, loI, hiI, fillParts, binSV, intBin, unSV, simprocAttr, ev2, h50]; exact hv2.symm, by simp [next_push, next_set]; omega, by simp (disch := first | omega | (simp only [nx_push, nx_set]; done) | (simp only [nx_push, nx_set]; omega)) only [cells_push_ne, cells_push_eq, cells_set_ne, cells_set_eq, hc1], by simp (disch := first | omega | (simp only [nx_push, nx_set]; done) | (simp only [nx_push, nx_set]; omega)) only [cells_push_ne, cells_push_eq, cells_set_ne, cells_set_eq, hc2], by simp (disch := first | omega | (simp only [nx_push, nx_set]; done) | (simp only [nx_push, nx_set]; omega)) only [cells_push_ne, cells_push_eq, cells_set_ne, cells_set_eq] <;> rfl, ?_, fun i y hi hy' => ?_⟩⟩
        · rw [hnew]
          refine hF.put (l' := [(k : Int)]) hl (by omega) (by omega) (by simp [next_push, next_set]) (by simp) ?_ (fun i hi hi2 hne => ?_)
          · simp (disch := first | omega | (simp only [nx_push, nx_set]; done) | (simp only [nx_push, nx_set]; omega)) only [cells_push_ne, cells_push_eq, cells_set_ne, cells_set_eq] <;> simp [SV.int]
          · simp (disch := first | omega | (simp only [nx_push, nx_set]; done) | (simp only [nx_push, nx_set]; omega)) only [cells_push_ne, cells_push_eq, cells_set_ne, cells_set_eq]
        · by_cases e : i = j
          · subst e; rw [hy] at hy'; cases hy'; omega
          · exact hin i y (by omega) hy'
      · have hcl : cut (l.map SV.int) 0 l.length = some (l.map SV.int) := cut_whole (by simp)
        have hll : (l.map SV.int).length = l.length := by simp
        have hlk : l.length ≤ 2 ^ 36 := by
          rw [fromStep_get k _ _ _ (fromsK_get hx k)] at hl
          cases hl
          have h1 := comes_len (rows := f.to) (fun r hr => by
            obtain ⟨b', _, rfl⟩ := List.mem_map.1 hr
            exact term_to_len b'.term) x k
          have h2 := List.length_filter_le (fun y : Int => decide (y.toNat = x)) ((ol b.term.to).take j)
          have h3 := term_to_len b.term
          simp only [List.length_append, List.length_map, List.length_take] at h2 ⊢
          omega
        have hb1 : (l.length + 1) * 8 ≤ 2 ^ 40 ∧ l.length + 1 ≤ 2 ^ 40 := by omega
        have m4 : (id = σ.next) = False := by simp; omega
        have m5 : (1 = id) = False := by simp; omega
        have m6 : (3 = id) = False := by simp; omega
        repeat (first | (with_reducible refine Nx.go ?_) | ((with_reducible refine Ny.go ?_); (conv => arg 1; simp only [ev, sop, bounds, loI, hiI, fillParts, binSV, intBin, unSV, simprocAttr, ev2, h50, h52, hj, hcy, hy1, h2, hc1, h4, hyn, h5, hc3, hx, hxF, hcx _ hFx, m1, m3, m11, m31, Nat.succ_le_of_lt, paste_one hxF, hci, hcl, hll, hb1, m4, m5, m6, recheck, wantedS, SV.same_self, Bool.and_self]); (first | (with_reducible refine Nz.go ?_) | refine Hold_some ?_)))
        refine ⟨by simp only [ev, sop, bounds, loI, hiI, fillParts, binSV, intBin, unSV, simprocAttr, ev2, h51], by simp only [ev, sop, bounds, loI, hiI, fillParts, binSV, intBin, unSV, simprocAttr, ev2, h52], fun v w => ⟨_, by simp only [ev, sop, bounds, loI, hiI, fillParts, binSV, intBin, unSV, simprocAttr, ev2, h2], by simp only [ev, sop, bounds, loI, hiI, fillParts, binSV, intBin, unSV, simprocAttr, ev2, h4], by simp only [ev, sop, bounds, loI, hiI, fillParts, binSV, intBin, unSV, simprocAttr, ev2, h5], by simp only [ev, sop, bounds, loI, hiI, fillParts, binSV, intBin, unSV, simprocAttr, ev2, h27], by simp only [ev, sop, bounds, loI, hiI, fillParts, binSV, intBin, unSV, simprocAttr, ev2, h28], by simp only [ev, sop, bounds, loI, hiI, fillParts, binSV, intBin, unSV, simprocAttr, ev2, h29], by simp only [ev, sop, bounds, loI, hiI, fillParts, binSV, intBin, unSV, simprocAttr, ev2, h50]; exact hv2.symm, by simp [next_push, next_set]; omega, by simp (disch := first | omega | (simp only [nx_push, nx_set]; done) | (simp only [nx_push, nx_set]; omega)) only [cells_push_ne, cells_push_eq, cells_set_ne, cells_set_eq, hc1], by simp (disch := first | omega | (simp only [nx_push, nx_set]; done) | (simp only [nx_push, nx_set]; omega)) only [cells_push_ne, cells_push_eq, cells_set_ne, cells_set_eq, hc2], by simp (disch := first | omega | (simp only [nx_push, nx_set]; done) | (simp only [nx_push, nx_set]; omega)) only [cells_push_ne, cells_push_eq, cells_set_ne, cells_set_eq] <;> rfl, ?_, fun i y hi hy' => ?_⟩⟩
        · rw [hnew]
          rw [← show (l ++ [(k : Int)]).length = l.length + 1 by simp]
          refine hF.put (l' := l ++ [(k : Int)]) hl (by omega) (by omega) (by simp [next_push, next_set]) (by simp) ?_ (fun i hi hi2 hne => ?_)
          · simp (disch := first | omega | (simp only [nx_push, nx_set]; done) | (simp only [nx_push, nx_set]; omega)) only [cells_push_ne, cells_push_eq, cells_set_ne, cells_set_eq] <;> simp [SV.int]
          · have : i ≠ id := fun e => by subst e; exact hne _ _ hFx
            simp (disch := first | omega | (simp only [nx_push, nx_set]; done) | (simp only [nx_push, nx_set]; omega)) only [cells_push_ne, cells_push_eq, cells_set_ne, cells_set_eq]
        · by_cases e : i = j
          · subst e; rw [hy] at hy'; cases hy'; omega
          · exact hin i y (by omega) hy'
    · rintro t σ ⟨F, h2, h4, h5, h27, h28, h29, h50, hnx, hc1, hc2, hc3, hF, hin⟩
      repeat (first | (with_reducible refine Nx.go ?_) | ((with_reducible refine Ny.go ?_); (conv => arg 1; simp only [ev, sop, bounds, loI, hiI, fillParts, binSV, intBin, unSV, simprocAttr, ev2, recheck, wantedS, SV.same_self, Bool.and_self]); (first | (with_reducible refine Nz.go ?_) | refine Hold_some ?_)))
      refine ⟨by simp only [ev, sop, bounds, loI, hiI, fillParts, binSV, intBin, unSV, simprocAttr, ev2, h28], by simp only [ev, sop, bounds, loI, hiI, fillParts, binSV, intBin, unSV, simprocAttr, ev2, h29], fun v w => ⟨F, by simp only [ev, sop, bounds, loI, hiI, fillParts, binSV, intBin, unSV, simprocAttr, ev2, h2], by simp only [ev, sop, bounds, loI, hiI, fillParts, binSV, intBin, unSV, simprocAttr, ev2, h4], by simp only [ev, sop, bounds, loI, hiI, fillParts, binSV, intBin, unSV, simprocAttr, ev2, h27], hnx, hc1, hc2, hc3, ?_, fun i b' hi hb' => ?_⟩⟩
      · rw [List.take_length] at hF
        rw [fromsK, List.getD_eq_getElem?_getD, hto]; exact hF
      · by_cases e : i = k
        · subst e; rw [hb] at hb'; cases hb'
          refine ⟨hbt, fun y hy => ?_⟩
          obtain ⟨q, hq⟩ := List.mem_iff_getElem?.1 hy
          exact hin q y (List.getElem?_eq_some_iff.1 hq).1 hq
        · exact hok i b' (by omega) hb'
  · rintro t σ ⟨F, h2, h4, h27, hnx, hc1, hc2, hc3, hF, hok⟩
    have hf1 : f.fits1 := ⟨n1, n2, fun b hb => by
      obtain ⟨q, hq⟩ := List.mem_iff_getElem?.1 hb
      exact hok q b (List.getElem?_eq_some_iff.1 hq).1 hq⟩
    have hnf : f.bl.length = f.to.length := f.to_len.symm
    have m1 : (1 = σ.next) = False := by simp; omega
    have m2 : (2 = σ.next) = False := by simp; omega
    have hfw : ∀ σ' (d : Nat), Keeps σ σ' → frz σ' (d + 4) (.agg [intsV f.params, blksV f.blocks, .sl 2 0 f.bl.length 1, .sl 3 0 f.bl.length 1]) = some f.walker := fun σ' d hk => by
      have := frz_walker (σ := σ') (d := d) (pure_ints f.params) (pure_blks f.blocks) (by rw [hk.cells (by omega)]; exact hc2) (f.pures_toCells _) (f.toCells_len (Nat.le_refl _)) (by rw [hk.cells (by omega)]; exact hc3) (hF.same hk.1 (fun i _ hi => hk.cells hi)) (fromsK_len _ _ _)
      rw [this, f.toCells_end]
      simp only [FuncD.walker, rowsV, hnf, FuncD.from_, FuncD.froms, List.length_map, fromsK_len]
    have hfr : ∀ σ', Keeps σ σ' → frz σ' 20 (.sl 2 0 f.bl.length 1) = some (rowsV f.to) := fun σ' hk => by
      rw [frz_sl (by rw [hk.cells (by omega)]; exact hc2) (cut_whole (by rw [f.toCells_len (Nat.le_refl _)]; omega)) (f.pures_toCells _), f.toCells_end]
      simp only [rowsV, hnf]
    have hk1 : Keeps σ (σ.push (.cells (setCells fun _ => false))) := (Keeps.refl σ).push _
    have hz1 : mapO (frz (σ.push (.cells (setCells fun _ => false))) 20) [.agg [intsV f.params, blksV f.blocks, .sl 2 0 f.bl.length 1, .sl 3 0 f.bl.length 1]] = some [f.walker] := by simp only [mapO, hfw _ 16 hk1]
    have hz2 : mapO (frz (σ.push (.cells (setCells fun _ => false))) 20) [.agg [intsV f.params, blksV f.blocks, .sl 2 0 f.bl.length 1, .sl 3 0 f.bl.length 1], .sc (.int .i64 0), setV f.all, .sl 2 0 f.bl.length 1] = some [f.walker, .sc (.int .i64 ((0 : Nat) : Int)), setV f.all, rowsV f.to] := by
      simp only [mapO, hfw _ 16 hk1, hfr _ hk1, frz_of_pure (pure_set _), frz_of_pure (show (SV.sc (.int .i64 0)).pure = true from rfl)]
      rfl
    repeat (first | (with_reducible refine Nx.go ?_) | ((with_reducible refine Ny.go ?_); (conv => arg 1; simp only [ev, sop, bounds, loI, hiI, fillParts, binSV, intBin, unSV, simprocAttr, ev2, h2, hc1, m1, recheck, wantedS, SV.same_self, Bool.and_self]); (first | (with_reducible refine Nz.go ?_) | refine Hold_some ?_)))
    refine st_tellz (t_whole (ps := intsV f.params) (bs := blksV f.blocks) (to := rowsV f.to) (from_ := rowsV f.from_) (n := f.bl.length) (by simp [pures, pure_ints, pure_rows, pure_blks]) hlen n2) ⟨_, rfl, by first | omega | decide⟩ wantedS_none (by simp only [ev, sop, bounds, loI, hiI, fillParts, binSV, intBin, unSV, simprocAttr, ev2, h2, hc1, m1] <;> rfl) (hz1) (by first | with_reducible exact flat_set _ | rfl) (by first | with_reducible exact recheck_nil | (simp only [recheck, wantedS]; simp only [ev, sop, bounds, loI, hiI, fillParts, binSV, intBin, unSV, simprocAttr, ev2, h2, hc1, m1]; simp only [SV.same_self, Bool.and_self, beq_self_eq_true])) ?_
    refine st_tellz (t_walk (w := [intsV f.params, blksV f.blocks, rowsV f.to, rowsV f.from_]) (inS := f.all) (next := f.to) (b := 0) (by simp [pures, pure_ints, pure_rows, pure_blks]) rfl (by omega) (by omega) hf1.to_ok) ⟨_, rfl, by first | omega | decide⟩ wantedS_none (by simp only [ev, sop, bounds, loI, hiI, fillParts, binSV, intBin, unSV, simprocAttr, ev2, h2, hc1, m1] <;> rfl) (hz2) (by first | with_reducible exact flat_set _ | rfl) (by first | with_reducible exact recheck_nil | (simp only [recheck, wantedS]; simp only [ev, sop, bounds, loI, hiI, fillParts, binSV, intBin, unSV, simprocAttr, ev2, h2, hc1, m1]; simp only [SV.same_self, Bool.and_self, beq_self_eq_true])) ?_
    repeat (first | (with_reducible refine Nx.go ?_) | ((with_reducible refine Ny.go ?_); (conv => arg 1; simp only [ev, sop, bounds, loI, hiI, fillParts, binSV, intBin, unSV, simprocAttr, ev2, h2, hc1, m1, setV, setCells_len, paste_all, paste_set true (show 0 < 200 by omega), cut_all, recheck, wantedS, SV.same_self, Bool.and_self]); (first | (with_reducible refine Nz.go ?_) | refine Hold_some ?_)))
    have hz3 : mapO (frz (((σ.push (.cells (setCells fun _ => false))).set σ.next (.cells (setCells (wayS f.all f.to 0)))).set σ.next (.cells (setCells fun j => if j = 0 then true else wayS f.all f.to 0 j))) 20) [.agg [intsV f.params, blksV f.blocks, .sl 2 0 f.bl.length 1, .sl 3 0 f.bl.length 1]] = some [f.walker] := by
      simp only [mapO, hfw _ 16 ((hk1.set _ (Nat.le_refl _)).set _ (Nat.le_refl _))]
    refine st_tellz (t_whole (ps := intsV f.params) (bs := blksV f.blocks) (to := rowsV f.to) (from_ := rowsV f.from_) (n := f.bl.length) (by simp [pures, pure_ints, pure_rows, pure_blks]) hlen n2) ⟨_, rfl, by first | omega | decide⟩ wantedS_none (by simp only [ev, sop, bounds, loI, hiI, fillParts, binSV, intBin, unSV, simprocAttr, ev2, h2, hc1, m1, cut_all] <;> rfl) (hz3) (by first | with_reducible exact flat_set _ | rfl) (by first | with_reducible exact recheck_nil | (simp only [recheck, wantedS]; simp only [ev, sop, bounds, loI, hiI, fillParts, binSV, intBin, unSV, simprocAttr, ev2, h2, hc1, m1, cut_all]; simp only [SV.same_self, Bool.and_self, beq_self_eq_true])) ?_
    have m1' : (σ.next = 1) = False := by simp; omega
    repeat (first | (with_reducible refine Nx.go ?_) | ((with_reducible refine Ny.go ?_); (conv => arg 1; simp only [ev, sop, bounds, loI, hiI, fillParts, binSV, intBin, unSV, simprocAttr, ev2, h2, hc1, m1, m1', setV, setCells_len, paste_all, paste_set true (show 0 < 200 by omega), cut_all, eqSV_set, recheck, wantedS, SV.same_self, Bool.and_self]); (first | (with_reducible refine Nz.go ?_) | refine Hold_some ?_)))
    (refine Hold1_of ?_; (conv => arg 1; simp only [ev, sop, bounds, loI, hiI, fillParts, binSV, intBin, unSV, simprocAttr, ev2, h2, resultsSV, resMany, resOne]); refine Hold1_some ?_)
    refine ⟨[intsV f.params, blksV f.blocks, rowsV f.to, rowsV f.from_], _, rfl, ?_, fun _ => rfl, frz_tup2 (hfw _ 15 ?_) (by simp [SV.pure, pures])⟩
    · rw [setEq_iff]
      constructor
      · intro h
        refine ⟨hf1, fun i hi h0 => ?_⟩
        have := h i (by omega)
        simpa [h0, hi] using this
      · rintro ⟨_, h⟩ i hi
        by_cases h0 : i = 0
        · subst h0; simp; omega
        · by_cases hin : i < f.bl.length
          · simp [h0, hin, h i hin h0]
          · simp only [h0, hin, if_false, decide_false]
            cases hw : wayS f.all f.to 0 i with
            | false => rfl
            | true =>
              have h1 := (wayS_iff.1 hw).2
              have h2 : f.all i = true := by
                cases h1 with
                | one _ h => exact h
                | more _ _ h => exact h
              exact absurd (of_decide_eq_true h2) hin
    · refine ⟨by simp [next_push, next_set], fun i hi => ?_⟩
      by_cases e : i = 1
      · subst e; rw [get_set_eq, get_of_cells hc1]
      · rw [get_set_ne e]
        exact ((hk1.set _ (Nat.le_refl _)).set _ (Nat.le_refl _)).2 i hi

noncomputable def FuncD.fitsB (f : FuncD) : Bool := @decide f.fits (Classical.propDecidable _)
theorem FuncD.fitsB_iff {f : FuncD} : f.fitsB = true ↔ f.fits := @decide_eq_true_iff _ (Classical.propDecidable _)
theorem FuncD.fitsB_no {f : FuncD} (h : ¬ f.fits) : f.fitsB = false := by rw [← Bool.not_eq_true, FuncD.fitsB_iff]; exact h
theorem t_over (f : FuncD) (hl : f.bl.length ≤ 2 ^ 47) : ∃ w, w.length = 4 ∧ (f.fits → .agg w = f.walker) ∧ Tells 33 [f.sv] (.tup [.agg w, .sc (.bool f.fitsB)]) := by
  by_cases hn : 1 ≤ f.bl.length ∧ f.bl.length ≤ 200
  rotate_left
  · refine ⟨[.sc .nilsl, .sc .nilsl, .sc .nilsl, .sc .nilsl], rfl, fun h => absurd ⟨h.1.1, h.1.2.1⟩ hn, ?_⟩
    rw [FuncD.fitsB_no (fun h => hn ⟨h.1.1, h.1.2.1⟩)]
    refine tells_fn rfl rfl rfl rfl ?_
    unfold FuncD.sv FuncD.cells
    have hlen : lenSV (blksV f.blocks) = some f.bl.length := lenSV_rec _
    by_cases h0 : f.bl.length < 1
    · have h0' : (f.bl.length : Int) < 1 := by omega
      repeat (first | (with_reducible refine Nx.go ?_) | ((with_reducible refine Ny.go ?_); (conv => arg 1; simp only [ev, sop, bounds, loI, hiI, fillParts, binSV, intBin, unSV, simprocAttr, ev2, hlen, h0', recheck, wantedS, SV.same_self, Bool.and_self]); (first | (with_reducible refine Nz.go ?_) | refine Hold_some ?_)))
      (refine Hold1_of ?_; (conv => arg 1; simp only [ev, sop, bounds, loI, hiI, fillParts, binSV, intBin, unSV, simprocAttr, ev2, resultsSV, resMany, resOne]); refine Hold1_some ?_)
      exact frz_of_pure rfl
    · have h0' : ¬ (f.bl.length : Int) < 1 := by omega
      have h1' : (f.bl.length : Int) > 200 := by omega
      repeat (first | (with_reducible refine Nx.go ?_) | ((with_reducible refine Ny.go ?_); (conv => arg 1; simp only [ev, sop, bounds, loI, hiI, fillParts, binSV, intBin, unSV, simprocAttr, ev2, hlen, h0', h1', recheck, wantedS, SV.same_self, Bool.and_self]); (first | (with_reducible refine Nz.go ?_) | refine Hold_some ?_)))
      (refine Hold1_of ?_; (conv => arg 1; simp only [ev, sop, bounds, loI, hiI, fillParts, binSV, intBin, unSV, simprocAttr, ev2, resultsSV, resMany, resOne]); refine Hold1_some ?_)
      exact frz_of_pure rfl
  obtain ⟨w, b, hw, k1, k2, k3⟩ := t_over1 f hn.1 hn.2
  refine ⟨w, hw, fun h => k2 (k1.2 h), ?_⟩
  by_cases h : f.fits
  · rw [FuncD.fitsB_iff.2 h, ← k1.2 h]; exact k3
  · rw [FuncD.fitsB_no h]
    have : b = false := by
      cases b with
      | false => rfl
      | true => exact absurd (k1.1 rfl) h
    rw [this] at k3; exact k3
theorem Tells.pure {f : Nat} {pa : List SV} {r : SV} (h : Tells f pa r) : r.pure = true := by
  obtain ⟨k, _, n, v, σ, _, h2⟩ := h
  exact frz_isPure h2
end Go.Proofs.Ytojjhcgbbmknmaa.Sh

/- Iterators: what one that goes through some values asks of its caller; a range over one. -/
namespace Go.Proofs.Ytojjhcgbbmknmaa.Sh
set_option linter.unusedSimpArgs false
set_option linter.unusedVariables false
open Go Go.Proofs

/-- A function value that goes through values, one by one, and stops where it is told so. -/
def Iter (m g : Nat) (first cap : List SV) (vs : List SV) (dom : St → Prop) : Prop := ∀ (y : SV) (J : List SV → St → Prop) (Stop : St → Prop) (σ : St),
  (∀ pre σ σ', J pre σ → Keeps σ σ' → J pre σ') → (∀ pre σ, J pre σ → dom σ) →
  (∀ pre v σ, pre ++ [v] <+: vs → J pre σ → WPC (EV m) y [v] σ (fun b σ' => (b = .sc (.bool true) ∧ J (pre ++ [v]) σ') ∨ (b = .sc (.bool false) ∧ Stop σ'))) →
  J [] σ → WPF (EV m) g (first ++ [y] ++ cap) σ (fun _ σ' => J vs σ' ∨ Stop σ')

/-- Some blocks, and what they hold. -/
def Has (σ : St) (H : List (Nat × List SV)) : Prop := ∀ p ∈ H, p.1 < σ.next ∧ cellsOf σ p.1 = some p.2
theorem Has.keeps {σ σ' : St} {H : List (Nat × List SV)} (h : Has σ H) (k : Keeps σ σ') : Has σ' H := fun p hp => ⟨Nat.lt_of_lt_of_le (h p hp).1 k.1, by rw [k.cells (h p hp).1]; exact (h p hp).2⟩
theorem Has.set {σ : St} {H : List (Nat × List SV)} (h : Has σ H) {L : Nat} {o : Ob} (hl : ∀ p ∈ H, p.1 ≠ L) : Has (σ.set L o) H := fun p hp => ⟨(h p hp).1, by rw [cells_set_ne (hl p hp)]; exact (h p hp).2⟩
theorem Has.nil {σ : St} : Has σ [] := fun p hp => by simp at hp
theorem Has.cons {σ : St} {i : Nat} {cs : List SV} {H : List (Nat × List SV)} (h1 : i < σ.next) (h2 : cellsOf σ i = some cs) (h : Has σ H) : Has σ ((i, cs) :: H) := fun p hp => by
  rcases List.mem_cons.1 hp with rfl | hp
  · exact ⟨h1, h2⟩
  · exact h p hp
theorem Has.head {σ : St} {i : Nat} {cs : List SV} {H : List (Nat × List SV)} (h : Has σ ((i, cs) :: H)) : i < σ.next ∧ cellsOf σ i = some cs := h (i, cs) (by simp)
theorem Has.tail {σ : St} {p : Nat × List SV} {H : List (Nat × List SV)} (h : Has σ (p :: H)) : Has σ H := fun q hq => h q (by simp [hq])

theorem setMany_one (t : Tr SV) (p : Nat) (v : SV) : setMany t [p] [v] = t.set p v := rfl
theorem prefix_map {α : Type} {g : α → SV} {l : List α} {pre : List SV} {v : SV} (h : pre ++ [v] <+: l.map g) : ∃ p x r, l = p ++ x :: r ∧ pre = p.map g ∧ v = g x := by
  obtain ⟨r, hr⟩ := h
  rw [List.append_assoc] at hr
  obtain ⟨l1, l2, h1, h2, h3⟩ := List.map_eq_append_iff.1 hr.symm
  obtain ⟨a, b, h4, h5, h6⟩ := List.map_eq_cons_iff.1 h3
  exact ⟨l1, a, b, by rw [h1, h4], h2.symm, h5.symm⟩

/-- A range over a function value that goes through values. I: what holds when some have been gone through. -/
theorem WP_rng_it {m : Nat} {f : Opd} {ps : List Nat} {asg body : SC} {g : Nat} {first cap vs : List SV} {t : Tr SV} {σ : St} {Q : Ex → Tr SV → St → Prop} {dom : St → Prop} (I : List SV → St → Prop) (hf : f.ev t = .fn g first cap) (hp : ps.length = 1) (hit : Iter m g first cap vs dom)
    (h0 : I [] (σ.push (.loop t ps asg body .ready none))) (hmono : ∀ pre σ σ', I pre σ → Keeps σ σ' → I pre σ') (hset : ∀ pre σ' o, I pre σ' → I pre (σ'.set σ.next o)) (hdom : ∀ pre σ', I pre σ' → σ'.get σ.next = some (.loop t ps asg body .ready none) → dom σ')
      (hbody : ∀ pre v σ' (lr lb : Ob), pre ++ [v] <+: vs → σ.next < σ'.next → I pre σ' → σ'.get σ.next = some lr →
      WP (EV m) asg (setMany t ps [v]) σ' (Then (fun t1 σ1 => σ1.get σ.next = some lr ∧ WP (EV m) body t1 (σ1.set σ.next lb)
        (BodyPost σ.next lb (fun σ2 => σ.next < σ2.next ∧ I (pre ++ [v]) σ2) (fun ex σ2 => ∀ o, Q ex t ((σ2.set σ.next o).set σ.next .dead)))) (fun _ _ _ => False)))
    (hend : ∀ σ', I vs σ' → Q .normal t (σ'.set σ.next .dead)) : WP (EV m) (.rng f ps asg body) t σ Q := by
  refine WP_rng hf ?_
  refine (hit (.yld σ.next) (fun pre σ' => σ.next < σ'.next ∧ I pre σ' ∧ σ'.get σ.next = some (.loop t ps asg body .ready none))
    (fun σ' => LeftBy σ.next t σ' Q) _ (fun pre σ1 σ2 h k => ⟨Nat.lt_of_lt_of_le h.1 k.1, hmono _ _ _ h.2.1 k, (k.2 _ h.1).trans h.2.2⟩) (fun pre σ' h => hdom pre σ' h.2.1 h.2.2) ?_ ⟨by simp [next_push], h0, get_push_eq⟩).mono ?_
  · rintro pre v σ' hpre ⟨hlt, hI, hg⟩
    refine WPC_yld (WPR_round hg (by simp [hp]) ?_)
    refine (hbody pre v σ' _ (.loop t ps asg body .busy none) hpre hlt hI hg).mono fun ex t1 σ1 q => ?_
    cases ex with
    | exit i => exact q
    | ret => exact q
    | normal =>
      obtain ⟨q1, q2⟩ := q
      refine ⟨t, ps, asg, body, q1, q2.mono fun ex t2 σ2 q => ?_⟩
      obtain ⟨q3, q4⟩ := q
      unfold RoundEnd
      rw [q3]
      cases ex with
      | normal =>
        refine .inl ⟨rfl, q4.1, hset _ _ _ q4.2, get_set_eq⟩
      | ret =>
        refine .inr ⟨rfl, ?_⟩
        unfold LeftBy
        rw [get_set_eq]
        exact ⟨by simp, q4 _⟩
      | exit i =>
        refine .inr ⟨rfl, ?_⟩
        unfold LeftBy
        rw [get_set_eq]
        exact ⟨by simp, q4 _⟩
  · rintro v σ' (⟨_, hI, hg⟩ | h)
    · unfold LeftBy
      rw [hg]
      exact ⟨by simp, hend σ' hI⟩
    · exact h
end Go.Proofs.Ytojjhcgbbmknmaa.Sh

/- How much there is of a function. -/
namespace Go.Proofs.Ytojjhcgbbmknmaa.Sh
set_option linter.unusedSimpArgs false
set_option linter.unusedVariables false
open Go Go.Proofs

/-- Rows that are not longer than a number. -/
def insWithin (N : Nat) (l : List InsD) : Prop := l.length ≤ N ∧ ∀ x ∈ l, (ol x.args).length ≤ N
def blksWithin (N : Nat) (l : List BlkD) : Prop := l.length ≤ N ∧ ∀ b ∈ l, insWithin N (ol b.ins)
def FuncD.within (f : FuncD) (N : Nat) : Prop := (ol f.params).length ≤ N ∧ blksWithin N f.bl

theorem ins_of_lt {o : Option (List InsD)} {k : Nat} (h : k < (ol o).length) : insV o = .lst (ol o).length 8 ((ol o).flatMap InsD.cells) := rec_of_lt h
theorem blks_of_lt {o : Option (List BlkD)} {k : Nat} (h : k < (ol o).length) : blksV o = .lst (ol o).length 5 ((ol o).flatMap BlkD.cells) := rec_of_lt h
theorem cut_ins6 {l : List InsD} {k : Nat} {x : InsD} (h : l[k]? = some x) : cut (l.flatMap InsD.cells) (k * 8 + 6) 1 = some [intsV x.args] := cut_flat (enc := InsD.cells) (sz := 8) (fun _ => rfl) h 6 1 (by omega)
theorem cut_blk0 {l : List BlkD} {k : Nat} {x : BlkD} (h : l[k]? = some x) : cut (l.flatMap BlkD.cells) (k * 5) 1 = some [insV x.ins] := cut_flat0 (enc := BlkD.cells) (sz := 5) (fun _ => rfl) h 1 (by omega)

set_option maxHeartbeats 4000000 in
theorem t_blocksOf (o : Option (List BlkD)) (M : Nat) (hM : M ≤ 2 ^ 40) (hw : blksWithin (2 ^ 47) (ol o)) : ∃ n : Nat, n ≤ 2 ^ 50 ∧ Tells 62 [blksV o, .sc (.int .i64 (M : Nat))] (.sc (.int .i64 (n : Nat))) ∧ (n ≤ M → blksWithin n (ol o)) := by
  suffices h : WPF (EV 1) 62 [blksV o, .sc (.int .i64 (M : Nat))] St.empty (fun v σ => ∃ n : Nat, n ≤ 2 ^ 50 ∧ v = .sc (.int .i64 (n : Nat)) ∧ (n ≤ M → blksWithin n (ol o))) by
    obtain ⟨q, v, σ, h1, n, h0, rfl, h2⟩ := h
    exact ⟨n, h0, ⟨_, rfl, q, _, σ, h1, frz_of_pure rfl⟩, h2⟩
  refine told_fn rfl rfl rfl rfl ?_
  repeat (first | (with_reducible refine Nx.go ?_) | ((with_reducible refine Ny.go ?_); (conv => arg 1; simp only [ev, sop, bounds, loI, hiI, fillParts, binSV, intBin, unSV, simprocAttr, ev2, recheck, wantedS, SV.same_self, Bool.and_self]); (first | (with_reducible refine Nz.go ?_) | refine Hold_some ?_)))
  have hlen : lenSV (blksV o) = some (ol o).length := lenSV_rec o
  refine WP_blockloop (fun m t σ => ∃ i n : Nat, m = (ol o).length - i ∧ i ≤ (ol o).length ∧ n ≤ 2 ^ 50 ∧ getT t 0 = blksV o ∧ getT t 1 = .sc (.int .i64 (M : Nat)) ∧ getT t 5 = .sc (.int .i64 (n : Nat)) ∧ getT t 6 = .sc (.int .i64 (i : Nat)) ∧
      (n ≤ M → i ≤ n ∧ ∀ j b, j < i → (ol o)[j]? = some b → insWithin n (ol b.ins))) (k0 := (ol o).length) ⟨0, 0, by simp, by omega, by omega, by simp only [ev, sop, bounds, loI, hiI, fillParts, binSV, intBin, unSV, simprocAttr, ev2], by simp only [ev, sop, bounds, loI, hiI, fillParts, binSV, intBin, unSV, simprocAttr, ev2], by simp only [ev, sop, bounds, loI, hiI, fillParts, binSV, intBin, unSV, simprocAttr, ev2] <;> rfl, by simp only [ev, sop, bounds, loI, hiI, fillParts, binSV, intBin, unSV, simprocAttr, ev2] <;> rfl, fun _ => ⟨by omega, by simp⟩⟩ ?_
  rintro m t σ ⟨i, n, rfl, hi, hn, h0, h1, h5, h6, hseen⟩
  by_cases hlt : i < (ol o).length
  rotate_left
  · repeat (first | (with_reducible refine Nx.go ?_) | ((with_reducible refine Ny.go ?_); (conv => arg 1; simp only [ev, sop, bounds, loI, hiI, fillParts, binSV, intBin, unSV, simprocAttr, ev2, h0, h1, h5, h6, hlen, hlt, recheck, wantedS, SV.same_self, Bool.and_self]); (first | (with_reducible refine Nz.go ?_) | refine Hold_some ?_)))
    (refine Hold1_of ?_; (conv => arg 1; simp only [ev, sop, bounds, loI, hiI, fillParts, binSV, intBin, unSV, simprocAttr, ev2, h5, resultsSV, resMany, resOne]); refine Hold1_some ?_)
    refine ⟨n, hn, rfl, fun hle => ?_⟩
    obtain ⟨h7, h8⟩ := hseen hle
    refine ⟨by omega, fun b hb => ?_⟩
    obtain ⟨j, hj⟩ := List.mem_iff_getElem?.1 hb
    exact h8 j b (by have := (List.getElem?_eq_some_iff.1 hj).1; omega) hj
  by_cases hle : n ≤ M
  rotate_left
  · repeat (first | (with_reducible refine Nx.go ?_) | ((with_reducible refine Ny.go ?_); (conv => arg 1; simp only [ev, sop, bounds, loI, hiI, fillParts, binSV, intBin, unSV, simprocAttr, ev2, h0, h1, h5, h6, hlen, hlt, hle, recheck, wantedS, SV.same_self, Bool.and_self]); (first | (with_reducible refine Nz.go ?_) | refine Hold_some ?_)))
    (refine Hold1_of ?_; (conv => arg 1; simp only [ev, sop, bounds, loI, hiI, fillParts, binSV, intBin, unSV, simprocAttr, ev2, h5, resultsSV, resMany, resOne]); refine Hold1_some ?_)
    exact ⟨n, hn, rfl, fun h => absurd h hle⟩
  obtain ⟨h7, h8⟩ := hseen hle
  obtain ⟨b, hb⟩ := get_of_lt hlt
  have hwb := hw.2 b (List.mem_of_getElem? hb)
  have hv := blks_of_lt hlt
  rw [hv] at h0
  have hcb := cut_blk0 hb
  have hilen : lenSV (insV b.ins) = some (ol b.ins).length := lenSV_rec _
  have hw1 : IntKind.i64.wrap ((n : Int) + 1) = ((n + 1 : Nat) : Int) := by rw [i64_in _ (by omega) (by omega)]; rfl
  have hw2 : IntKind.i64.wrap (((n + 1 : Nat) : Int) + ((ol b.ins).length : Int)) = ((n + 1 + (ol b.ins).length : Nat) : Int) := by have := hwb.1; rw [i64_in _ (by omega) (by omega)]; rfl
  repeat (first | (with_reducible refine Nx.go ?_) | ((with_reducible refine Ny.go ?_); (conv => arg 1; simp only [ev, sop, bounds, loI, hiI, fillParts, binSV, intBin, unSV, simprocAttr, ev2, h0, h1, h5, h6, hlt, hle, hcb, hw1, hw2, recheck, wantedS, SV.same_self, Bool.and_self]); (first | (with_reducible refine Nz.go ?_) | refine Hold_some ?_)))
  refine WP_blockloop (fun m t σ => ∃ k n' : Nat, m = (ol b.ins).length - k ∧ k ≤ (ol b.ins).length ∧ n' ≤ M + 2 ^ 48 + 1 ∧ i + 1 ≤ n' ∧ n ≤ n' ∧ getT t 0 = blksV o ∧ getT t 1 = .sc (.int .i64 (M : Nat)) ∧ getT t 5 = .sc (.int .i64 (n' : Nat)) ∧ getT t 6 = .sc (.int .i64 (i : Nat)) ∧ getT t 7 = .sc (.int .i64 (k : Nat)) ∧
      (n' ≤ M → (ol b.ins).length ≤ n' ∧ ∀ j x, j < k → (ol b.ins)[j]? = some x → (ol x.args).length ≤ n')) (k0 := (ol b.ins).length)
      ⟨0, n + 1 + (ol b.ins).length, by simp, by omega, by have := hwb.1; omega, by omega, by omega, by simp only [ev, sop, bounds, loI, hiI, fillParts, binSV, intBin, unSV, simprocAttr, ev2, h0]; exact hv.symm, by simp only [ev, sop, bounds, loI, hiI, fillParts, binSV, intBin, unSV, simprocAttr, ev2, h1], by simp only [ev, sop, bounds, loI, hiI, fillParts, binSV, intBin, unSV, simprocAttr, ev2], by simp only [ev, sop, bounds, loI, hiI, fillParts, binSV, intBin, unSV, simprocAttr, ev2, h6], by simp only [ev, sop, bounds, loI, hiI, fillParts, binSV, intBin, unSV, simprocAttr, ev2] <;> rfl, fun _ => ⟨by omega, by simp⟩⟩ ?_
  clear h0 h1 h5 h6
  rintro m t σ ⟨k, n', rfl, hk, hn', hin, hnn, h0, h1, h5, h6, h7', hsee⟩
  rw [hv] at h0
  have hw3 : IntKind.i64.wrap ((i : Int) + 1) = ((i + 1 : Nat) : Int) := by have := hw.1; rw [i64_in _ (by omega) (by omega)]; rfl
  by_cases hkl : k < (ol b.ins).length
  rotate_left
  · repeat (first | (with_reducible refine Nx.go ?_) | ((with_reducible refine Ny.go ?_); (conv => arg 1; simp only [ev, sop, bounds, loI, hiI, fillParts, binSV, intBin, unSV, simprocAttr, ev2, h0, h1, h5, h6, h7', hlt, hcb, hilen, hkl, hw3, recheck, wantedS, SV.same_self, Bool.and_self]); (first | (with_reducible refine Nz.go ?_) | refine Hold_some ?_)))
    refine ⟨_, by omega, i + 1, n', rfl, by omega, by omega, by simp only [ev, sop, bounds, loI, hiI, fillParts, binSV, intBin, unSV, simprocAttr, ev2, h0]; exact hv.symm, by simp only [ev, sop, bounds, loI, hiI, fillParts, binSV, intBin, unSV, simprocAttr, ev2, h1], by simp only [ev, sop, bounds, loI, hiI, fillParts, binSV, intBin, unSV, simprocAttr, ev2, h5], by simp only [ev, sop, bounds, loI, hiI, fillParts, binSV, intBin, unSV, simprocAttr, ev2], fun h => ⟨hin, fun j b' hj hb' => ?_⟩⟩
    obtain ⟨h9, h10⟩ := hsee h
    by_cases e : j = i
    · subst e; rw [hb] at hb'; cases hb'
      refine ⟨h9, fun x hx => ?_⟩
      obtain ⟨q, hq⟩ := List.mem_iff_getElem?.1 hx
      exact h10 q x (by have := (List.getElem?_eq_some_iff.1 hq).1; omega) hq
    · obtain ⟨g1, g2⟩ := h8 j b' (by omega) hb'
      exact ⟨by omega, fun x hx => by have := g2 x hx; omega⟩
  by_cases hle' : n' ≤ M
  rotate_left
  · repeat (first | (with_reducible refine Nx.go ?_) | ((with_reducible refine Ny.go ?_); (conv => arg 1; simp only [ev, sop, bounds, loI, hiI, fillParts, binSV, intBin, unSV, simprocAttr, ev2, h0, h1, h5, h6, h7', hlt, hcb, hilen, hkl, hle', hw3, recheck, wantedS, SV.same_self, Bool.and_self]); (first | (with_reducible refine Nz.go ?_) | refine Hold_some ?_)))
    exact ⟨_, by omega, i + 1, n', rfl, by omega, by omega, by simp only [ev, sop, bounds, loI, hiI, fillParts, binSV, intBin, unSV, simprocAttr, ev2, h0]; exact hv.symm, by simp only [ev, sop, bounds, loI, hiI, fillParts, binSV, intBin, unSV, simprocAttr, ev2, h1], by simp only [ev, sop, bounds, loI, hiI, fillParts, binSV, intBin, unSV, simprocAttr, ev2, h5], by simp only [ev, sop, bounds, loI, hiI, fillParts, binSV, intBin, unSV, simprocAttr, ev2], fun h => absurd h hle'⟩
  obtain ⟨x, hx⟩ := get_of_lt hkl
  have hvi := ins_of_lt hkl
  have hcx := cut_ins6 hx
  have hax := hwb.2 x (List.mem_of_getElem? hx)
  have hw4 : IntKind.i64.wrap ((n' : Int) + ((ol x.args).length : Int)) = ((n' + (ol x.args).length : Nat) : Int) := by rw [i64_in _ (by omega) (by omega)]; rfl
  have hw5 : IntKind.i64.wrap ((k : Int) + 1) = ((k + 1 : Nat) : Int) := by have := hwb.1; rw [i64_in _ (by omega) (by omega)]; rfl
  rw [hvi] at hcb
  repeat (first | (with_reducible refine Nx.go ?_) | ((with_reducible refine Ny.go ?_); (conv => arg 1; simp only [ev, sop, bounds, loI, hiI, fillParts, binSV, intBin, unSV, simprocAttr, ev2, h0, h1, h5, h6, h7', hlt, hcb, hkl, hle', hcx, hw4, hw5, recheck, wantedS, SV.same_self, Bool.and_self]); (first | (with_reducible refine Nz.go ?_) | refine Hold_some ?_)))
  refine ⟨_, by omega, k + 1, n' + (ol x.args).length, rfl, by omega, by omega, by omega, by omega, by simp only [ev, sop, bounds, loI, hiI, fillParts, binSV, intBin, unSV, simprocAttr, ev2, h0]; exact hv.symm, by simp only [ev, sop, bounds, loI, hiI, fillParts, binSV, intBin, unSV, simprocAttr, ev2, h1], by simp only [ev, sop, bounds, loI, hiI, fillParts, binSV, intBin, unSV, simprocAttr, ev2], by simp only [ev, sop, bounds, loI, hiI, fillParts, binSV, intBin, unSV, simprocAttr, ev2, h6], by simp only [ev, sop, bounds, loI, hiI, fillParts, binSV, intBin, unSV, simprocAttr, ev2], fun h => ?_⟩
  obtain ⟨h9, h10⟩ := hsee (by omega)
  refine ⟨by omega, fun j y hj hy => ?_⟩
  by_cases e : j = k
  · subst e; rw [hx] at hy; cases hy; omega
  · have := h10 j y (by omega) hy; omega

theorem t_funcOf (f : FuncD) (M : Nat) (hM : M ≤ 2 ^ 40) (hw : f.within (2 ^ 47)) : ∃ n : Nat, Tells 30 [f.sv, .sc (.int .i64 (M : Nat))] (.sc (.int .i64 (n : Nat))) ∧ (n ≤ M → f.within n) := by
  obtain ⟨n, hn, h1, h2⟩ := t_blocksOf f.blocks M hM hw.2
  refine ⟨(ol f.params).length + n, ?_, fun h => ⟨by omega, ?_⟩⟩
  · refine tells_fn rfl rfl rfl rfl ?_
    rw [show f.sv = .agg [intsV f.params, blksV f.blocks] from rfl]
    have hw1 : IntKind.i64.wrap (((ol f.params).length : Int) + (n : Int)) = (((ol f.params).length + n : Nat) : Int) := by have := hw.1; rw [i64_in _ (by omega) (by omega)]; rfl
    repeat (first | (with_reducible refine Nx.go ?_) | ((with_reducible refine Ny.go ?_); (conv => arg 1; simp only [ev, sop, bounds, loI, hiI, fillParts, binSV, intBin, unSV, simprocAttr, ev2, recheck, wantedS, SV.same_self, Bool.and_self]); (first | (with_reducible refine Nz.go ?_) | refine Hold_some ?_)))
    refine st_tellp (h1) ⟨_, rfl, by first | omega | decide⟩ wantedS_none (by simp only [ev, sop, bounds, loI, hiI, fillParts, binSV, intBin, unSV, simprocAttr, ev2] <;> rfl) (by first | rfl | simp [pures, SV.pure, *, pure_func, pure_ints, pure_blks, pure_insV, pure_rows]) (by first | with_reducible exact recheck_nil | (simp only [recheck, wantedS]; simp only [ev, sop, bounds, loI, hiI, fillParts, binSV, intBin, unSV, simprocAttr, ev2]; simp only [SV.same_self, Bool.and_self, beq_self_eq_true])) ?_
    repeat (first | (with_reducible refine Nx.go ?_) | ((with_reducible refine Ny.go ?_); (conv => arg 1; simp only [ev, sop, bounds, loI, hiI, fillParts, binSV, intBin, unSV, simprocAttr, ev2, hw1, recheck, wantedS, SV.same_self, Bool.and_self]); (first | (with_reducible refine Nz.go ?_) | refine Hold_some ?_)))
    (refine Hold1_of ?_; (conv => arg 1; simp only [ev, sop, bounds, loI, hiI, fillParts, binSV, intBin, unSV, simprocAttr, ev2, resultsSV, resMany, resOne]); refine Hold1_some ?_)
    exact frz_of_pure rfl
  · obtain ⟨g1, g2⟩ := h2 (by omega)
    have g1' : f.bl.length ≤ n := g1
    exact ⟨by omega, fun b hb => by
      obtain ⟨g3, g4⟩ := g2 b hb
      exact ⟨by omega, fun x hx => by have := g4 x hx; omega⟩⟩

theorem insWithin.mono {N M : Nat} {l : List InsD} (h : insWithin N l) (hm : N ≤ M) : insWithin M l := ⟨Nat.le_trans h.1 hm, fun x hx => Nat.le_trans (h.2 x hx) hm⟩
theorem FuncD.within.mono {N M : Nat} {f : FuncD} (h : f.within N) (hm : N ≤ M) : f.within M := ⟨Nat.le_trans h.1 hm, Nat.le_trans h.2.1 hm, fun b hb => (h.2.2 b hb).mono hm⟩
/-- Tiles. -/
structure TileD where
  kind : Int
  parent : Int
  blocks : Option (List Int)
def TileD.cells (t : TileD) : List SV := [.sc (.int .i64 t.kind), .sc (.int .i64 t.parent), intsV t.blocks]
theorem pures_tile (t : TileD) : pures t.cells = true := by simp [TileD.cells, pures, SV.pure, pure_ints]
def tilesV : Option (List TileD) → SV := recV 3 TileD.cells
theorem pure_tiles (o : Option (List TileD)) : (tilesV o).pure = true := pure_rec pures_tile o
theorem ev4 : (∀ o, (tilesV o).flat = [tilesV o]) ∧ (∀ o, (tilesV o).lay = true) ∧ (∀ o, (tilesV o).one = true) ∧ (∀ o, lenSV (tilesV o) = some (ol o).length) := ⟨flat_recV, lay_recV, one_recV, lenSV_rec⟩
theorem tiles_of_lt {o : Option (List TileD)} {k : Nat} (h : k < (ol o).length) : tilesV o = .lst (ol o).length 3 ((ol o).flatMap TileD.cells) := rec_of_lt h
theorem cut_tile2 {l : List TileD} {k : Nat} {x : TileD} (h : l[k]? = some x) : cut (l.flatMap TileD.cells) (k * 3 + 2) 1 = some [intsV x.blocks] := cut_flat (enc := TileD.cells) (sz := 3) (fun _ => rfl) h 2 1 (by omega)
def tilesWithin (N : Nat) (l : List TileD) : Prop := l.length ≤ N ∧ ∀ t ∈ l, (ol t.blocks).length ≤ N
end Go.Proofs.Ytojjhcgbbmknmaa.Sh

/- Functions that are carried out by the kernel. -/
namespace Go.Proofs.Ytojjhcgbbmknmaa.Sh
set_option linter.unusedSimpArgs false
set_option linter.unusedVariables false
open Go Go.Proofs
def E00 : Env := ⟨FT.get, fun _ => none⟩
noncomputable def yes (f : Nat) : Bool := match (runN E00 1000000).call f [] St.empty with
  | some (.sc (.bool true), _) => true
  | _ => false
theorem tells_yes {f : Nat} (hk : LV.get f = some 0) (h : yes f = true) : Tells f [] (.sc (.bool true)) := by
  unfold yes at h
  split at h
  · rename_i σ hc
    rw [callN_eq] at hc
    exact ⟨0, hk, 1000000, _, σ, hc, frz_pure rfl⟩
  · cases h
/-- Two words are told: 0, and a number. -/
noncomputable def mulOK (f n : Nat) : Bool := match (runN E00 1000000).call f [.sc (.int .u64 1), .sc (.int .u64 (n : Int))] St.empty with
  | some (.tup [.sc (.int .u64 a), .sc (.int .u64 b)], _) => decide (a = 0) && decide (b = (n : Int))
  | _ => false
theorem tells_mul {f n : Nat} (hk : LV.get f = some 0) (h : mulOK f n = true) : Tells f [.sc (.int .u64 1), .sc (.int .u64 (n : Int))] (.tup [.sc (.int .u64 0), .sc (.int .u64 (n : Int))]) := by
  unfold mulOK at h
  split at h
  · rename_i a b σ hc
    rw [callN_eq] at hc
    simp only [Bool.and_eq_true, decide_eq_true_eq] at h
    obtain ⟨rfl, rfl⟩ := h
    exact ⟨0, hk, 1000000, _, σ, hc, frz_pure rfl⟩
  · cases h
end Go.Proofs.Ytojjhcgbbmknmaa.Sh

/- Does a function fit? all its edges. -/
namespace Go.Proofs.Ytojjhcgbbmknmaa.Sh
set_option linter.unusedSimpArgs false
set_option linter.unusedVariables false
open Go Go.Proofs

theorem list4 {l : List SV} (h : l.length = 4) : ∃ a b c d, l = [a, b, c, d] := by
  match l, h with
  | [a, b, c, d], _ => exact ⟨a, b, c, d, rfl⟩
theorem t_Fits (f : FuncD) (hl : f.bl.length ≤ 2 ^ 47) : Tells 11 [f.sv] (.sc (.bool f.fitsB)) := by
  refine tells_fn rfl rfl rfl rfl ?_
  rw [show f.sv = .agg [intsV f.params, blksV f.blocks] from rfl]
  obtain ⟨w, hw4, _, hw⟩ := t_over f hl
  obtain ⟨a, b, c, d, rfl⟩ := list4 hw4
  repeat (first | (with_reducible refine Nx.go ?_) | ((with_reducible refine Ny.go ?_); (conv => arg 1; simp only [ev, sop, bounds, loI, hiI, fillParts, binSV, intBin, unSV, simprocAttr, ev2, recheck, wantedS, SV.same_self, Bool.and_self]); (first | (with_reducible refine Nz.go ?_) | refine Hold_some ?_)))
  refine st_tellp (hw) ⟨_, rfl, by first | omega | decide⟩ wantedS_none (by simp only [ev, sop, bounds, loI, hiI, fillParts, binSV, intBin, unSV, simprocAttr, ev2] <;> rfl) (by first | rfl | simp [pures, SV.pure, *, pure_func, pure_ints, pure_blks, pure_insV, pure_rows]) (by first | with_reducible exact recheck_nil | (simp only [recheck, wantedS]; simp only [ev, sop, bounds, loI, hiI, fillParts, binSV, intBin, unSV, simprocAttr, ev2]; simp only [SV.same_self, Bool.and_self, beq_self_eq_true])) ?_
  repeat (first | (with_reducible refine Nx.go ?_) | ((with_reducible refine Ny.go ?_); (conv => arg 1; simp only [ev, sop, bounds, loI, hiI, fillParts, binSV, intBin, unSV, simprocAttr, ev2, recheck, wantedS, SV.same_self, Bool.and_self]); (first | (with_reducible refine Nz.go ?_) | refine Hold_some ?_)))
  (refine Hold1_of ?_; (conv => arg 1; simp only [ev, sop, bounds, loI, hiI, fillParts, binSV, intBin, unSV, simprocAttr, ev2, resultsSV, resMany, resOne]); refine Hold1_some ?_)
  exact frz_of_pure rfl
end Go.Proofs.Ytojjhcgbbmknmaa.Sh

/- All edges of a function, gone through. -/
namespace Go.Proofs.Ytojjhcgbbmknmaa.Sh
set_option linter.unusedSimpArgs false
set_option linter.unusedVariables false
open Go Go.Proofs

structure EdgeD where
  f : Int
  a : Int
  t : Int
  deriving DecidableEq
def EdgeD.cells (e : EdgeD) : List SV := [.sc (.int .i64 e.f), .sc (.int .i64 e.a), .sc (.int .i64 e.t)]
def EdgeD.sv (e : EdgeD) : SV := .agg e.cells
/-- The edges out of a block. -/
def edgesB (k : Nat) (l : List Int) : List EdgeD := (List.range l.length).map fun j : Nat => ⟨(k : Int), (j : Int), l.getD j 0⟩
def FuncD.edgesTo (f : FuncD) (n : Nat) : List EdgeD := (List.range n).flatMap fun k => edgesB k (ol (f.to.getD k none))
def FuncD.edges (f : FuncD) : List EdgeD := f.edgesTo f.bl.length
theorem edgesB_len (k : Nat) (l : List Int) : (edgesB k l).length = l.length := by simp [edgesB]
theorem edgesB_get {k : Nat} {l : List Int} {j : Nat} {y : Int} (h : l[j]? = some y) : (edgesB k l)[j]? = some ⟨k, j, y⟩ := by
  have hj : j < l.length := (List.getElem?_eq_some_iff.1 h).1
  simp only [edgesB, List.getElem?_map, List.getElem?_range hj, Option.map_some, List.getD_eq_getElem?_getD, h, Option.getD_some]
theorem FuncD.edgesTo_succ (f : FuncD) {k : Nat} {b : BlkD} (h : f.bl[k]? = some b) : f.edgesTo (k + 1) = f.edgesTo k ++ edgesB k (ol b.term.to) := by
  unfold FuncD.edgesTo
  rw [List.range_succ, List.flatMap_append]
  simp [FuncD.to, h]
theorem FuncD.edgesTo_prefix (f : FuncD) {k n : Nat} (h : k ≤ n) : f.edgesTo k <+: f.edgesTo n := by
  induction n with
  | zero => rw [Nat.le_zero.1 h]; exact List.prefix_rfl
  | succ n ih =>
    by_cases e : k = n + 1
    · subst e; exact List.prefix_rfl
    · refine (ih (by omega)).trans ?_
      unfold FuncD.edgesTo
      rw [List.range_succ, List.flatMap_append]
      exact List.prefix_append _ _

set_option maxHeartbeats 2000000 in
theorem it_each (f : FuncD) (hl : f.bl.length ≤ 2 ^ 47) {m box : Nat} (hm : 5 < m) : Iter m 75 [] [.ptr box 0] (f.edges.map EdgeD.sv) (fun σ => cellsOf σ box = some f.cells) := by
  intro y J Stop σ hmono hdom hy hJ
  refine inline_fn rfl rfl rfl rfl ?_
  have hc0 : cellsOf σ box = some [intsV f.params, blksV f.blocks] := hdom _ _ hJ
  simp only [List.nil_append, List.cons_append]
  repeat (first | (with_reducible refine Nx.go ?_) | ((with_reducible refine Ny.go ?_); (conv => arg 1; simp only [ev, sop, bounds, loI, hiI, fillParts, binSV, intBin, unSV, simprocAttr, ev2, hc0, recheck, wantedS, SV.same_self, Bool.and_self]); (first | (with_reducible refine Nz.go ?_) | refine Hold_some ?_)))
  refine WP_range (N := f.bl.length) (fun k t σ1 => getT t 0 = y ∧ getT t 8 = blksV f.blocks ∧ J ((f.edgesTo k).map EdgeD.sv) σ1) (by omega) (by simp only [ev, sop, bounds, loI, hiI, fillParts, binSV, intBin, unSV, simprocAttr, ev2]; rfl) (by simp only [ev, sop, bounds, loI, hiI, fillParts, binSV, intBin, unSV, simprocAttr, ev2]) (by decide) ⟨by simp only [ev, sop, bounds, loI, hiI, fillParts, binSV, intBin, unSV, simprocAttr, ev2], by simp only [ev, sop, bounds, loI, hiI, fillParts, binSV, intBin, unSV, simprocAttr, ev2], by simpa [FuncD.edgesTo] using hJ⟩ ?_ ?_
  · rintro k t σ1 hk h9 h10 ⟨h0, h8, hJ⟩
    obtain ⟨b, hb⟩ := get_of_lt hk
    have hv : blksV f.blocks = .lst f.bl.length 5 (f.bl.flatMap BlkD.cells) := rec_of_lt hk
    rw [hv] at h8
    have hcb := cut_flat0 (enc := BlkD.cells) (sz := 5) (fun _ => rfl) hb 5 (by omega)
    rw [show (b.cells).take 5 = b.cells from rfl, BlkD.cells] at hcb
    repeat (first | (with_reducible refine Nx.go ?_) | ((with_reducible refine Ny.go ?_); (conv => arg 1; simp only [ev, sop, bounds, loI, hiI, fillParts, binSV, intBin, unSV, simprocAttr, ev2, h8, h10, hk, hcb, recheck, wantedS, SV.same_self, Bool.and_self]); (first | (with_reducible refine Nz.go ?_) | refine Hold_some ?_)))
    refine st_tellp (t_to b.term) ⟨_, rfl, by first | omega | decide⟩ wantedS_none (by simp only [ev, sop, bounds, loI, hiI, fillParts, binSV, intBin, unSV, simprocAttr, ev2] <;> rfl) (by first | rfl | simp [pures, SV.pure, *, pure_func, pure_ints, pure_blks, pure_insV, pure_rows]) (by first | with_reducible exact recheck_nil | (simp only [recheck, wantedS]; simp only [ev, sop, bounds, loI, hiI, fillParts, binSV, intBin, unSV, simprocAttr, ev2]; simp only [SV.same_self, Bool.and_self, beq_self_eq_true])) ?_
    repeat (first | (with_reducible refine Nx.go ?_) | ((with_reducible refine Ny.go ?_); (conv => arg 1; simp only [ev, sop, bounds, loI, hiI, fillParts, binSV, intBin, unSV, simprocAttr, ev2, recheck, wantedS, SV.same_self, Bool.and_self]); (first | (with_reducible refine Nz.go ?_) | refine Hold_some ?_)))
    refine WP_range (N := (ol b.term.to).length) (fun j t σ1 => getT t 0 = y ∧ getT t 3 = .sc (.int .i64 k) ∧ getT t 8 = blksV f.blocks ∧ getT t 9 = .sc (.int .i64 f.bl.length) ∧ getT t 10 = .sc (.int .i64 k) ∧ getT t 17 = intsV b.term.to ∧
        J ((f.edgesTo k ++ (edgesB k (ol b.term.to)).take j).map EdgeD.sv) σ1) (Nat.le_trans (term_to_len b.term) (by omega)) (by simp only [ev, sop, bounds, loI, hiI, fillParts, binSV, intBin, unSV, simprocAttr, ev2]) (by simp only [ev, sop, bounds, loI, hiI, fillParts, binSV, intBin, unSV, simprocAttr, ev2]) (by decide)
      ⟨by simp only [ev, sop, bounds, loI, hiI, fillParts, binSV, intBin, unSV, simprocAttr, ev2, h0], by simp only [ev, sop, bounds, loI, hiI, fillParts, binSV, intBin, unSV, simprocAttr, ev2], by simp only [ev, sop, bounds, loI, hiI, fillParts, binSV, intBin, unSV, simprocAttr, ev2, h8]; exact hv.symm, by simp only [ev, sop, bounds, loI, hiI, fillParts, binSV, intBin, unSV, simprocAttr, ev2, h9], by simp only [ev, sop, bounds, loI, hiI, fillParts, binSV, intBin, unSV, simprocAttr, ev2, h10], by simp only [ev, sop, bounds, loI, hiI, fillParts, binSV, intBin, unSV, simprocAttr, ev2], hmono _ _ _ (by simpa using hJ) (((Keeps.refl _).push _).set _ (Nat.le_refl _))⟩ ?_ ?_
    · clear h0 h8 h9 h10 hJ
      rintro j t σ1 hj h18 h19 ⟨h0, h3, h8, h9, h10, h17, hJ⟩
      obtain ⟨x, hx⟩ := get_of_lt hj
      rw [ints_of_lt hj] at h17
      have hcx := cut_ints hx
      repeat (first | (with_reducible refine Nx.go ?_) | ((with_reducible refine Ny.go ?_); (conv => arg 1; simp only [ev, sop, bounds, loI, hiI, fillParts, binSV, intBin, unSV, simprocAttr, ev2, h17, h19, hj, hcx, h0, h3, recheck, wantedS, SV.same_self, Bool.and_self]); (first | (with_reducible refine Nz.go ?_) | refine Hold_some ?_)))
      have hpre : (f.edgesTo k ++ (edgesB k (ol b.term.to)).take j).map EdgeD.sv ++ [EdgeD.sv ⟨k, j, x⟩] = (f.edgesTo k ++ (edgesB k (ol b.term.to)).take (j + 1)).map EdgeD.sv := by
        rw [List.take_add_one, edgesB_get hx]; simp
      have hpf : (f.edgesTo k ++ (edgesB k (ol b.term.to)).take (j + 1)).map EdgeD.sv <+: f.edges.map EdgeD.sv := by
        refine List.IsPrefix.map _ (List.IsPrefix.trans ?_ (f.edgesTo_prefix (k := k + 1) (by omega)))
        rw [f.edgesTo_succ hb]
        exact (List.prefix_append_right_inj _).2 (List.take_prefix _ _)
      refine st_callv (by first | with_reducible exact wantedS_none | (refine wantedS_some ?_; simp only [ev, sop, bounds, loI, hiI, fillParts, binSV, intBin, unSV, simprocAttr, ev2, h0]; done)) (by simp only [ev, sop, bounds, loI, hiI, fillParts, binSV, intBin, unSV, simprocAttr, ev2, h0] <;> rfl) (by simp only [ev, sop, bounds, loI, hiI, fillParts, binSV, intBin, unSV, simprocAttr, ev2, h0] <;> rfl) ?_
      refine (hy _ (EdgeD.sv ⟨k, j, x⟩) σ1 (by rw [hpre]; exact hpf) hJ).mono ?_
      rintro v σ2 (⟨rfl, hJ2⟩ | ⟨rfl, hs⟩)
      · refine ⟨recheck_nil, ?_⟩
        rw [hpre] at hJ2
        repeat (first | (with_reducible refine Nx.go ?_) | ((with_reducible refine Ny.go ?_); (conv => arg 1; simp only [ev, sop, bounds, loI, hiI, fillParts, binSV, intBin, unSV, simprocAttr, ev2, recheck, wantedS, SV.same_self, Bool.and_self]); (first | (with_reducible refine Nz.go ?_) | refine Hold_some ?_)))
        refine ⟨by simp only [ev, sop, bounds, loI, hiI, fillParts, binSV, intBin, unSV, simprocAttr, ev2, h18], by simp only [ev, sop, bounds, loI, hiI, fillParts, binSV, intBin, unSV, simprocAttr, ev2, h19], fun v w => ⟨by simp only [ev, sop, bounds, loI, hiI, fillParts, binSV, intBin, unSV, simprocAttr, ev2, h0], by simp only [ev, sop, bounds, loI, hiI, fillParts, binSV, intBin, unSV, simprocAttr, ev2, h3], by simp only [ev, sop, bounds, loI, hiI, fillParts, binSV, intBin, unSV, simprocAttr, ev2, h8], by simp only [ev, sop, bounds, loI, hiI, fillParts, binSV, intBin, unSV, simprocAttr, ev2, h9], by simp only [ev, sop, bounds, loI, hiI, fillParts, binSV, intBin, unSV, simprocAttr, ev2, h10], by simp only [ev, sop, bounds, loI, hiI, fillParts, binSV, intBin, unSV, simprocAttr, ev2, h17]; exact (ints_of_lt hj).symm, hJ2⟩⟩
      · refine ⟨recheck_nil, ?_⟩
        repeat (first | (with_reducible refine Nx.go ?_) | ((with_reducible refine Ny.go ?_); (conv => arg 1; simp only [ev, sop, bounds, loI, hiI, fillParts, binSV, intBin, unSV, simprocAttr, ev2, recheck, wantedS, SV.same_self, Bool.and_self]); (first | (with_reducible refine Nz.go ?_) | refine Hold_some ?_)))
        (refine Hold1_of ?_; (conv => arg 1; simp only [ev, sop, bounds, loI, hiI, fillParts, binSV, intBin, unSV, simprocAttr, ev2, resultsSV, resMany, resOne]); refine Hold1_some ?_)
        exact .inr hs
    · rintro t σ1 ⟨h0, h3, h8, h9, h10, h17, hJ⟩
      repeat (first | (with_reducible refine Nx.go ?_) | ((with_reducible refine Ny.go ?_); (conv => arg 1; simp only [ev, sop, bounds, loI, hiI, fillParts, binSV, intBin, unSV, simprocAttr, ev2, recheck, wantedS, SV.same_self, Bool.and_self]); (first | (with_reducible refine Nz.go ?_) | refine Hold_some ?_)))
      refine ⟨by simp only [ev, sop, bounds, loI, hiI, fillParts, binSV, intBin, unSV, simprocAttr, ev2, h9], by simp only [ev, sop, bounds, loI, hiI, fillParts, binSV, intBin, unSV, simprocAttr, ev2, h10], fun v w => ⟨by simp only [ev, sop, bounds, loI, hiI, fillParts, binSV, intBin, unSV, simprocAttr, ev2, h0], by simp only [ev, sop, bounds, loI, hiI, fillParts, binSV, intBin, unSV, simprocAttr, ev2, h8], ?_⟩⟩
      rw [f.edgesTo_succ hb, ← edgesB_len k] at *
      rw [List.take_length] at hJ
      exact hJ
  · rintro t σ1 ⟨h0, h8, hJ⟩
    repeat (first | (with_reducible refine Nx.go ?_) | ((with_reducible refine Ny.go ?_); (conv => arg 1; simp only [ev, sop, bounds, loI, hiI, fillParts, binSV, intBin, unSV, simprocAttr, ev2, recheck, wantedS, SV.same_self, Bool.and_self]); (first | (with_reducible refine Nz.go ?_) | refine Hold_some ?_)))
    (refine Hold1_of ?_; (conv => arg 1; simp only [ev, sop, bounds, loI, hiI, fillParts, binSV, intBin, unSV, simprocAttr, ev2, resultsSV, resMany, resOne]); refine Hold1_some ?_)
    exact .inl hJ

set_option maxHeartbeats 2000000 in
theorem c_appendSeqE {m : Nat} {g : Nat} {first cap : List SV} {es : List EdgeD} {dom : St → Prop} {σ : St} (hit : Iter m g first cap (es.map EdgeD.sv) dom) (hdom : ∀ σ', Keeps σ σ' → dom σ') (hlen : es.length ≤ 2 ^ 30) :
    WPF (EV m) 74 [.sc .nilsl, .fn g first cap] σ (fun v σ' => Keeps σ σ' ∧ ((es = [] ∧ v = .sc .nilsl) ∨ ∃ id, es ≠ [] ∧ v = .sl id 0 es.length 3 ∧ σ.next ≤ id ∧ id < σ'.next ∧ cellsOf σ' id = some (es.flatMap EdgeD.cells))) := by
  refine inline_fn rfl rfl rfl rfl ?_
  repeat (first | (with_reducible refine Nx.go ?_) | ((with_reducible refine Ny.go ?_); (conv => arg 1; simp only [ev, sop, bounds, loI, hiI, fillParts, binSV, intBin, unSV, simprocAttr, ev2, recheck, wantedS, SV.same_self, Bool.and_self]); (first | (with_reducible refine Nz.go ?_) | refine Hold_some ?_)))
  refine WP_rng_it (fun pre σ' => Keeps σ σ' ∧ σ.next + 1 < σ'.next ∧ ∃ pe : List EdgeD, pre = pe.map EdgeD.sv ∧ ((pe = [] ∧ cellsOf σ' σ.next = some [.sc .nilsl]) ∨ ∃ id, pe ≠ [] ∧ σ.next + 1 < id ∧ id < σ'.next ∧ cellsOf σ' σ.next = some [.sl id 0 pe.length 3] ∧ cellsOf σ' id = some (pe.flatMap EdgeD.cells)))
    (by simp only [ev, sop, bounds, loI, hiI, fillParts, binSV, intBin, unSV, simprocAttr, ev2] <;> rfl) rfl hit ⟨((Keeps.refl σ).push _).push _, by simp [next_push], [], rfl, .inl ⟨rfl, by simp (disch := first | omega | (simp only [nx_push, nx_set]; done) | (simp only [nx_push, nx_set]; omega)) only [cells_push_ne, cells_push_eq, cells_set_ne, cells_set_eq]⟩⟩ ?_ ?_ ?_ ?_ ?_
  · rintro pre σ1 σ2 ⟨h1, h2, pe, rfl, h3⟩ hk
    refine ⟨h1.trans hk, Nat.lt_of_lt_of_le h2 hk.1, pe, rfl, ?_⟩
    rcases h3 with ⟨h3, h4⟩ | ⟨id, hne, h3, h4, h5, h6⟩
    · exact .inl ⟨h3, by rw [hk.cells (by omega)]; exact h4⟩
    · exact .inr ⟨id, hne, h3, Nat.lt_of_lt_of_le h4 hk.1, by rw [hk.cells (by omega)]; exact h5, by rw [hk.cells h4]; exact h6⟩
  · rintro pre σ1 o ⟨h1, h2, pe, rfl, h3⟩
    simp only [next_push]
    refine ⟨h1.set _ (by omega), h2, pe, rfl, ?_⟩
    rcases h3 with ⟨h3, h4⟩ | ⟨id, hne, h3, h4, h5, h6⟩
    · exact .inl ⟨h3, by simp (disch := first | omega | (simp only [nx_push, nx_set]; done) | (simp only [nx_push, nx_set]; omega)) only [cells_push_ne, cells_push_eq, cells_set_ne, cells_set_eq, h4]⟩
    · exact .inr ⟨id, hne, h3, h4, by simp (disch := first | omega | (simp only [nx_push, nx_set]; done) | (simp only [nx_push, nx_set]; omega)) only [cells_push_ne, cells_push_eq, cells_set_ne, cells_set_eq, h5], by simp (disch := first | omega | (simp only [nx_push, nx_set]; done) | (simp only [nx_push, nx_set]; omega)) only [cells_push_ne, cells_push_eq, cells_set_ne, cells_set_eq, h6]⟩
  · rintro pre σ1 ⟨h1, _⟩ _
    exact hdom _ h1
  · rintro pre v σ1 lr lb hpre hlt ⟨h1, h2, pe, rfl, h3⟩ hg
    simp only [next_push, setMany_one] at hlt hg ⊢
    obtain ⟨p, e, r, hes, hpp, rfl⟩ := prefix_map hpre
    have hpe : pe.map EdgeD.cells = p.map EdgeD.cells ∧ pe.length = p.length := by
      have := congrArg (List.map SV.flat) hpp
      simp only [List.map_map] at this
      exact ⟨this, by simpa using congrArg List.length hpp⟩
    have hpl : p.length < es.length := by rw [hes]; simp
    have hfm : pe.flatMap EdgeD.cells = p.flatMap EdgeD.cells := by rw [List.flatMap_def, List.flatMap_def, hpe.1]
    have hnew : pe.map EdgeD.sv ++ [e.sv] = (p ++ [e]).map EdgeD.sv := by rw [hpp]; simp
    rw [hnew]
    have n0 : (σ.next = σ1.next) = False := by simp; omega
    have n1 : (σ1.next = σ.next + 1) = False := by simp; omega
    have n2 : (σ.next = σ1.next + 1) = False := by simp; omega
    rw [show e.sv = .agg [.sc (.int .i64 e.f), .sc (.int .i64 e.a), .sc (.int .i64 e.t)] from rfl]
    repeat (first | (with_reducible refine Nx.go ?_) | ((with_reducible refine Ny.go ?_); (conv => arg 1; simp only [ev, sop, bounds, loI, hiI, fillParts, binSV, intBin, unSV, simprocAttr, ev2, recheck, wantedS, SV.same_self, Bool.and_self]); (first | (with_reducible refine Nz.go ?_) | refine Hold_some ?_)))
    refine ⟨by simp (disch := first | omega | (simp only [nx_push, nx_set]; done) | (simp only [nx_push, nx_set]; omega)) only [get_push_ne, get_set_ne, get_set_same, hg], ?_⟩
    rcases h3 with ⟨rfl, h4⟩ | ⟨id, hne, h3, h4, h5, h6⟩
    · have hp0 : p = [] := by simpa using hpe.2.symm
      subst hp0
      have n3 : (σ.next = σ1.next + 2) = False := by simp; omega
      repeat (first | (with_reducible refine Nx.go ?_) | ((with_reducible refine Ny.go ?_); (conv => arg 1; simp only [ev, sop, bounds, loI, hiI, fillParts, binSV, intBin, unSV, simprocAttr, ev2, h4, n0, n1, n2, n3, recheck, wantedS, SV.same_self, Bool.and_self]); (first | (with_reducible refine Nz.go ?_) | refine Hold_some ?_)))
      refine ⟨by simp (disch := first | omega | (simp only [nx_push, nx_set]; done) | (simp only [nx_push, nx_set]; omega)) only [get_push_ne, get_set_ne, get_set_same], by simp [next_push, next_set]; omega, ?_, by simp [next_push, next_set]; omega, [] ++ [e], rfl, .inr ⟨σ1.next + 2, by simp, by omega, by simp [next_push, next_set], by simp (disch := first | omega | (simp only [nx_push, nx_set]; done) | (simp only [nx_push, nx_set]; omega)) only [cells_push_ne, cells_push_eq, cells_set_ne, cells_set_eq]; rfl, by simp (disch := first | omega | (simp only [nx_push, nx_set]; done) | (simp only [nx_push, nx_set]; omega)) only [cells_push_ne, cells_push_eq, cells_set_ne, cells_set_eq]; rfl⟩⟩
      exact (((((h1.push _).set _ h1.1).set _ (by omega)).push _).push _).set _ (Nat.le_refl _)
    · have n3 : (σ.next = σ1.next + 2) = False := by simp; omega
      have n4 : (σ.next = id) = False := by simp; omega
      have n5 : (id = σ1.next) = False := by simp; omega
      have n6 : (id = σ1.next + 1) = False := by simp; omega
      have n7 : (id = σ.next + 1) = False := by simp; omega
      have hfl : (pe.flatMap EdgeD.cells).length = pe.length * 3 := flat_len (enc := EdgeD.cells) (sz := 3) (fun _ => rfl) _
      have hcw : cut (pe.flatMap EdgeD.cells) 0 (pe.length * 3) = some (pe.flatMap EdgeD.cells) := cut_whole hfl.symm
      have hb1 : (pe.length + 1) * 24 ≤ 2 ^ 40 ∧ pe.length + 1 ≤ 2 ^ 40 := by have := hpe.2; omega
      repeat (first | (with_reducible refine Nx.go ?_) | ((with_reducible refine Ny.go ?_); (conv => arg 1; simp only [ev, sop, bounds, loI, hiI, fillParts, binSV, intBin, unSV, simprocAttr, ev2, h5, h6, n0, n1, n2, n3, n4, n5, n6, n7, hcw, hb1, recheck, wantedS, SV.same_self, Bool.and_self]); (first | (with_reducible refine Nz.go ?_) | refine Hold_some ?_)))
      refine ⟨by simp (disch := first | omega | (simp only [nx_push, nx_set]; done) | (simp only [nx_push, nx_set]; omega)) only [get_push_ne, get_set_ne, get_set_same], by simp [next_push, next_set]; omega, ?_, by simp [next_push, next_set]; omega, p ++ [e], rfl, .inr ⟨σ1.next + 2, by simp, by omega, by simp [next_push, next_set], by simp (disch := first | omega | (simp only [nx_push, nx_set]; done) | (simp only [nx_push, nx_set]; omega)) only [cells_push_ne, cells_push_eq, cells_set_ne, cells_set_eq]; simp [hpe.2], by simp (disch := first | omega | (simp only [nx_push, nx_set]; done) | (simp only [nx_push, nx_set]; omega)) only [cells_push_ne, cells_push_eq, cells_set_ne, cells_set_eq]; simp [hfm, EdgeD.cells]⟩⟩
      exact ((((((h1.push _).set _ h1.1).set _ (by omega)).push _).set _ (by omega)).push _).set _ (Nat.le_refl _)
  · rintro σ1 ⟨h1, h2, pe, hpe, h3⟩
    have hpl : pe.map EdgeD.cells = es.map EdgeD.cells ∧ pe.length = es.length := by
      have := congrArg (List.map SV.flat) hpe.symm
      simp only [List.map_map] at this
      exact ⟨this, by simpa using congrArg List.length hpe.symm⟩
    have hfm : pe.flatMap EdgeD.cells = es.flatMap EdgeD.cells := by rw [List.flatMap_def, List.flatMap_def, hpl.1]
    simp only [next_push]
    have n0 : (σ.next = σ.next + 1) = False := by simp
    rcases h3 with ⟨rfl, h4⟩ | ⟨id, hne, h3, h4, h5, h6⟩
    · repeat (first | (with_reducible refine Nx.go ?_) | ((with_reducible refine Ny.go ?_); (conv => arg 1; simp only [ev, sop, bounds, loI, hiI, fillParts, binSV, intBin, unSV, simprocAttr, ev2, h4, n0, recheck, wantedS, SV.same_self, Bool.and_self]); (first | (with_reducible refine Nz.go ?_) | refine Hold_some ?_)))
      (refine Hold1_of ?_; (conv => arg 1; simp only [ev, sop, bounds, loI, hiI, fillParts, binSV, intBin, unSV, simprocAttr, ev2, resultsSV, resMany, resOne]); refine Hold1_some ?_)
      refine ⟨h1.set _ (by omega), .inl ⟨by simpa using hpl.2.symm, rfl⟩⟩
    · repeat (first | (with_reducible refine Nx.go ?_) | ((with_reducible refine Ny.go ?_); (conv => arg 1; simp only [ev, sop, bounds, loI, hiI, fillParts, binSV, intBin, unSV, simprocAttr, ev2, h5, n0, recheck, wantedS, SV.same_self, Bool.and_self]); (first | (with_reducible refine Nz.go ?_) | refine Hold_some ?_)))
      (refine Hold1_of ?_; (conv => arg 1; simp only [ev, sop, bounds, loI, hiI, fillParts, binSV, intBin, unSV, simprocAttr, ev2, resultsSV, resMany, resOne]); refine Hold1_some ?_)
      refine ⟨h1.set _ (by omega), .inr ⟨id, by rintro rfl; exact hne (by simpa using hpl.2), by rw [hpl.2], by omega, h4, by simp (disch := first | omega | (simp only [nx_push, nx_set]; done) | (simp only [nx_push, nx_set]; omega)) only [cells_push_ne, cells_push_eq, cells_set_ne, cells_set_eq, h6]; rw [hfm]⟩⟩
end Go.Proofs.Ytojjhcgbbmknmaa.Sh

/- All edges, as they are told; ends; spots. -/
namespace Go.Proofs.Ytojjhcgbbmknmaa.Sh
set_option linter.unusedSimpArgs false
set_option linter.unusedVariables false
open Go Go.Proofs

theorem pure_edge (e : EdgeD) : e.sv.pure = true := rfl
theorem pures_edge (e : EdgeD) : pures e.cells = true := rfl
def edgesV : Option (List EdgeD) → SV := recV 3 EdgeD.cells
theorem pure_edges (o : Option (List EdgeD)) : (edgesV o).pure = true := pure_rec pures_edge o
theorem ev3 : (∀ o, (edgesV o).flat = [edgesV o]) ∧ (∀ o, (edgesV o).lay = true) ∧ (∀ o, (edgesV o).one = true) ∧ (∀ o, lenSV (edgesV o) = some (ol o).length) := ⟨flat_recV, lay_recV, one_recV, lenSV_rec⟩
def nilE {α : Type} (l : List α) : Option (List α) := match l with
  | [] => none
  | l => some l
theorem ol_nilE {α : Type} (l : List α) : ol (nilE l) = l := by cases l <;> rfl
theorem eq_edge (e e' : EdgeD) : eqSV 6 3 (.agg [.sc (.int .i64 e.f), .sc (.int .i64 e.a), .sc (.int .i64 e.t)]) (.agg [.sc (.int .i64 e'.f), .sc (.int .i64 e'.a), .sc (.int .i64 e'.t)]) = some (decide (e = e')) := by
  obtain ⟨a, b, c⟩ := e
  obtain ⟨a', b', c'⟩ := e'
  show eqCells 2 _ _ = _
  by_cases h1 : a = a' <;> by_cases h2 : b = b' <;> by_cases h3 : c = c' <;> simp [eqCells, h1, h2, h3]

theorem edgesTo_len (f : FuncD) : ∀ n, (f.edgesTo n).length ≤ 2 * n
  | 0 => by simp [FuncD.edgesTo]
  | n + 1 => by
    have h := edgesTo_len f n
    have e : f.edgesTo (n + 1) = f.edgesTo n ++ edgesB n (ol (f.to.getD n none)) := by
      unfold FuncD.edgesTo; rw [List.range_succ, List.flatMap_append]; simp
    rw [e, List.length_append, edgesB_len]
    have : (ol (f.to.getD n none)).length ≤ 2 := by
      rw [List.getD_eq_getElem?_getD]
      cases e : f.to[n]? with
      | none => simp [ol]
      | some r =>
        obtain ⟨b, _, rfl⟩ := List.mem_map.1 (List.mem_of_getElem? e)
        exact term_to_len b.term
    omega

theorem c_each {m : Nat} {f : FuncD} {σ : St} : WPF (EV m) 40 [f.sv] σ (fun v σ' => v = .fn 75 [] [.ptr σ.next 0] ∧ σ' = σ.push (.cells f.cells)) := by
  refine inline_fn rfl rfl rfl rfl ?_
  unfold FuncD.sv
  repeat (first | (with_reducible refine Nx.go ?_) | ((with_reducible refine Ny.go ?_); (conv => arg 1; simp only [ev, sop, bounds, loI, hiI, fillParts, binSV, intBin, unSV, simprocAttr, ev2, ev3, recheck, wantedS, SV.same_self, Bool.and_self]); (first | (with_reducible refine Nz.go ?_) | refine Hold_some ?_)))
  (refine Hold1_of ?_; (conv => arg 1; simp only [ev, sop, bounds, loI, hiI, fillParts, binSV, intBin, unSV, simprocAttr, ev2, ev3, resultsSV, resMany, resOne]); refine Hold1_some ?_)
  exact ⟨rfl, rfl⟩

theorem c_collectE {m : Nat} {g : Nat} {first cap : List SV} {es : List EdgeD} {dom : St → Prop} {σ : St} (hit : Iter m g first cap (es.map EdgeD.sv) dom) (hdom : ∀ σ', Keeps σ σ' → dom σ') (hlen : es.length ≤ 2 ^ 30) :
    WPF (EV m) 39 [.fn g first cap] σ (fun v σ' => Keeps σ σ' ∧ ((es = [] ∧ v = .sc .nilsl) ∨ ∃ id, es ≠ [] ∧ v = .sl id 0 es.length 3 ∧ σ.next ≤ id ∧ id < σ'.next ∧ cellsOf σ' id = some (es.flatMap EdgeD.cells))) := by
  refine inline_fn rfl rfl rfl rfl ?_
  repeat (first | (with_reducible refine Nx.go ?_) | ((with_reducible refine Ny.go ?_); (conv => arg 1; simp only [ev, sop, bounds, loI, hiI, fillParts, binSV, intBin, unSV, simprocAttr, ev2, ev3, recheck, wantedS, SV.same_self, Bool.and_self]); (first | (with_reducible refine Nz.go ?_) | refine Hold_some ?_)))
  refine st_callf (by first | with_reducible exact wantedS_none | (refine wantedS_some ?_; simp only [ev, sop, bounds, loI, hiI, fillParts, binSV, intBin, unSV, simprocAttr, ev2, ev3]; done)) (by simp only [ev, sop, bounds, loI, hiI, fillParts, binSV, intBin, unSV, simprocAttr, ev2, ev3] <;> rfl) (by simp only [ev, sop, bounds, loI, hiI, fillParts, binSV, intBin, unSV, simprocAttr, ev2, ev3] <;> rfl) ?_
  refine (c_appendSeqE hit hdom hlen).mono ?_
  rintro v σ' h
  refine ⟨recheck_nil, ?_⟩
  repeat (first | (with_reducible refine Nx.go ?_) | ((with_reducible refine Ny.go ?_); (conv => arg 1; simp only [ev, sop, bounds, loI, hiI, fillParts, binSV, intBin, unSV, simprocAttr, ev2, ev3, recheck, wantedS, SV.same_self, Bool.and_self]); (first | (with_reducible refine Nz.go ?_) | refine Hold_some ?_)))
  (refine Hold1_of ?_; (conv => arg 1; simp only [ev, sop, bounds, loI, hiI, fillParts, binSV, intBin, unSV, simprocAttr, ev2, ev3, resultsSV, resMany, resOne]); refine Hold1_some ?_)
  exact h

theorem frz_rec {α : Type} {enc : α → List SV} {sz : Nat} (he : ∀ x, (enc x).length = sz) (hp : ∀ x, pures (enc x) = true) {σ : St} {id : Nat} {l : List α} (h : cellsOf σ id = some (l.flatMap enc)) : frz σ 20 (.sl id 0 l.length sz) = some (recV sz enc (some l)) :=
  frz_sl h (cut_whole (flat_len he l).symm) (pures_flat hp l)

noncomputable def FuncD.allE (f : FuncD) : Option (List EdgeD) := if f.fitsB = true then nilE f.edges else none
theorem t_All (f : FuncD) (hl : f.bl.length ≤ 2 ^ 47) : Tells 13 [f.sv] (edgesV f.allE) := by
  refine tells_fn rfl rfl rfl rfl ?_
  rw [show f.sv = .agg [intsV f.params, blksV f.blocks] from rfl]
  repeat (first | (with_reducible refine Nx.go ?_) | ((with_reducible refine Ny.go ?_); (conv => arg 1; simp only [ev, sop, bounds, loI, hiI, fillParts, binSV, intBin, unSV, simprocAttr, ev2, ev3, recheck, wantedS, SV.same_self, Bool.and_self]); (first | (with_reducible refine Nz.go ?_) | refine Hold_some ?_)))
  refine st_tellp (t_Fits f hl) ⟨_, rfl, by first | omega | decide⟩ wantedS_none (by simp only [ev, sop, bounds, loI, hiI, fillParts, binSV, intBin, unSV, simprocAttr, ev2, ev3] <;> rfl) (by first | rfl | simp [pures, SV.pure, *, pure_func, pure_ints, pure_blks, pure_insV, pure_rows, pure_edges, pure_edge]) (by first | with_reducible exact recheck_nil | (simp only [recheck, wantedS]; simp only [ev, sop, bounds, loI, hiI, fillParts, binSV, intBin, unSV, simprocAttr, ev2, ev3]; simp only [SV.same_self, Bool.and_self, beq_self_eq_true])) ?_
  cases hf : f.fitsB with
  | false =>
    repeat (first | (with_reducible refine Nx.go ?_) | ((with_reducible refine Ny.go ?_); (conv => arg 1; simp only [ev, sop, bounds, loI, hiI, fillParts, binSV, intBin, unSV, simprocAttr, ev2, ev3, hf, recheck, wantedS, SV.same_self, Bool.and_self]); (first | (with_reducible refine Nz.go ?_) | refine Hold_some ?_)))
    (refine Hold1_of ?_; (conv => arg 1; simp only [ev, sop, bounds, loI, hiI, fillParts, binSV, intBin, unSV, simprocAttr, ev2, ev3, resultsSV, resMany, resOne]); refine Hold1_some ?_)
    simp [FuncD.allE, hf, edgesV, recV, frz, SV.pure]
  | true =>
    have h200 := (FuncD.fitsB_iff.1 hf).1.2.1
    have hle : f.edges.length ≤ 2 ^ 30 := by have := edgesTo_len f f.bl.length; show (f.edgesTo f.bl.length).length ≤ _; omega
    repeat (first | (with_reducible refine Nx.go ?_) | ((with_reducible refine Ny.go ?_); (conv => arg 1; simp only [ev, sop, bounds, loI, hiI, fillParts, binSV, intBin, unSV, simprocAttr, ev2, ev3, hf, recheck, wantedS, SV.same_self, Bool.and_self]); (first | (with_reducible refine Nz.go ?_) | refine Hold_some ?_)))
    refine st_callf (by first | with_reducible exact wantedS_none | (refine wantedS_some ?_; simp only [ev, sop, bounds, loI, hiI, fillParts, binSV, intBin, unSV, simprocAttr, ev2, ev3]; done)) (by simp only [ev, sop, bounds, loI, hiI, fillParts, binSV, intBin, unSV, simprocAttr, ev2, ev3] <;> rfl) (by simp only [ev, sop, bounds, loI, hiI, fillParts, binSV, intBin, unSV, simprocAttr, ev2, ev3] <;> rfl) ?_
    refine (c_each (f := f)).mono ?_
    rintro v σ1 ⟨rfl, rfl⟩
    refine ⟨recheck_nil, ?_⟩
    refine st_callf (by first | with_reducible exact wantedS_none | (refine wantedS_some ?_; simp only [ev, sop, bounds, loI, hiI, fillParts, binSV, intBin, unSV, simprocAttr, ev2, ev3]; done)) (by simp only [ev, sop, bounds, loI, hiI, fillParts, binSV, intBin, unSV, simprocAttr, ev2, ev3] <;> rfl) (by simp only [ev, sop, bounds, loI, hiI, fillParts, binSV, intBin, unSV, simprocAttr, ev2, ev3] <;> rfl) ?_
    refine (c_collectE (it_each (m := 8) (box := 1) f hl (by decide)) (fun σ' hk => (hk.cells (by simp [next_push, next_empty])).trans (by simp only [ev, sop, bounds, loI, hiI, fillParts, binSV, intBin, unSV, simprocAttr, ev2, ev3] <;> rfl)) hle).mono ?_
    rintro v σ2 ⟨hk, h⟩
    refine ⟨recheck_nil, ?_⟩
    repeat (first | (with_reducible refine Nx.go ?_) | ((with_reducible refine Ny.go ?_); (conv => arg 1; simp only [ev, sop, bounds, loI, hiI, fillParts, binSV, intBin, unSV, simprocAttr, ev2, ev3, recheck, wantedS, SV.same_self, Bool.and_self]); (first | (with_reducible refine Nz.go ?_) | refine Hold_some ?_)))
    (refine Hold1_of ?_; (conv => arg 1; simp only [ev, sop, bounds, loI, hiI, fillParts, binSV, intBin, unSV, simprocAttr, ev2, ev3, resultsSV, resMany, resOne]); refine Hold1_some ?_)
    rcases h with ⟨he, rfl⟩ | ⟨id, hne, rfl, _, _, hc⟩
    · simp [FuncD.allE, hf, edgesV, recV, frz, SV.pure, he, nilE]
    · rw [frz_rec (enc := EdgeD.cells) (sz := 3) (fun _ => rfl) pures_edge hc]
      simp only [FuncD.allE, hf, if_true]
      cases he : f.edges with
      | nil => exact absurd he hne
      | cons x l => rfl

theorem edges_of_lt {o : Option (List EdgeD)} {k : Nat} (h : k < (ol o).length) : edgesV o = .lst (ol o).length 3 ((ol o).flatMap EdgeD.cells) := rec_of_lt h
theorem cut_edge {l : List EdgeD} {k : Nat} {e : EdgeD} (h : l[k]? = some e) : cut (l.flatMap EdgeD.cells) (k * 3) 3 = some [.sc (.int .i64 e.f), .sc (.int .i64 e.a), .sc (.int .i64 e.t)] := cut_flat0 (enc := EdgeD.cells) (sz := 3) (fun _ => rfl) h 3 (by omega)

theorem cut_edge0 {l : List EdgeD} {k : Nat} {e : EdgeD} (h : l[k]? = some e) : cut (l.flatMap EdgeD.cells) (k * 3) 1 = some [.sc (.int .i64 e.f)] := cut_flat0 (enc := EdgeD.cells) (sz := 3) (fun _ => rfl) h 1 (by omega)
theorem cut_edge2 {l : List EdgeD} {k : Nat} {e : EdgeD} (h : l[k]? = some e) : cut (l.flatMap EdgeD.cells) (k * 3 + 2) 1 = some [.sc (.int .i64 e.t)] := cut_flat (enc := EdgeD.cells) (sz := 3) (fun _ => rfl) h 2 1 (by omega)
theorem t_indexE (o : Option (List EdgeD)) (e : EdgeD) (hl : (ol o).length ≤ 2 ^ 62) : Tells 98 [edgesV o, e.sv] (.sc (.int .i64 (match (ol o).findIdx? (fun x => decide (e = x)) with | some i => i | none => -1))) := by
  refine tells_fn rfl rfl rfl rfl ?_
  unfold EdgeD.sv EdgeD.cells
  repeat (first | (with_reducible refine Nx.go ?_) | ((with_reducible refine Ny.go ?_); (conv => arg 1; simp only [ev, sop, bounds, loI, hiI, fillParts, binSV, intBin, unSV, simprocAttr, ev2, ev3, recheck, wantedS, SV.same_self, Bool.and_self]); (first | (with_reducible refine Nz.go ?_) | refine Hold_some ?_)))
  refine WP_range (N := (ol o).length) (fun k t σ1 => getT t 0 = edgesV o ∧ getT t 3 = .ptr 0 0 ∧ cellsOf σ1 0 = some [.sc (.int .i64 e.f), .sc (.int .i64 e.a), .sc (.int .i64 e.t)] ∧ ∀ j x, j < k → (ol o)[j]? = some x → e ≠ x) hl (by simp only [ev, sop, bounds, loI, hiI, fillParts, binSV, intBin, unSV, simprocAttr, ev2, ev3]) (by simp only [ev, sop, bounds, loI, hiI, fillParts, binSV, intBin, unSV, simprocAttr, ev2, ev3]) (by decide) ⟨by simp only [ev, sop, bounds, loI, hiI, fillParts, binSV, intBin, unSV, simprocAttr, ev2, ev3], by simp only [ev, sop, bounds, loI, hiI, fillParts, binSV, intBin, unSV, simprocAttr, ev2, ev3], by simp only [ev, sop, bounds, loI, hiI, fillParts, binSV, intBin, unSV, simprocAttr, ev2, ev3], by simp⟩ ?_ ?_
  · rintro k t σ1 hlt h7 h8 ⟨h0, h3, hc, hno⟩
    obtain ⟨x, hx⟩ := get_of_lt hlt
    rw [edges_of_lt hlt] at h0
    have hcx := cut_edge hx
    by_cases he : e = x
    · have hd : decide (e = x) = true := by simp [he]
      repeat (first | (with_reducible refine Nx.go ?_) | ((with_reducible refine Ny.go ?_); (conv => arg 1; simp only [ev, sop, bounds, loI, hiI, fillParts, binSV, intBin, unSV, simprocAttr, ev2, ev3, h0, h3, h8, hlt, hc, hcx, eq_edge, hd, recheck, wantedS, SV.same_self, Bool.and_self]); (first | (with_reducible refine Nz.go ?_) | refine Hold_some ?_)))
      (refine Hold1_of ?_; (conv => arg 1; simp only [ev, sop, bounds, loI, hiI, fillParts, binSV, intBin, unSV, simprocAttr, ev2, ev3, resultsSV, resMany, resOne]); refine Hold1_some ?_)
      rw [frz_of_pure rfl]
      have : (ol o).findIdx? (fun x => decide (e = x)) = some k := by
        rw [List.findIdx?_eq_some_iff_getElem]
        refine ⟨hlt, ?_, fun j hj => ?_⟩
        · rw [(List.getElem?_eq_some_iff.1 hx).2]; exact hd
        · have := hno j (ol o)[j] hj (List.getElem?_eq_getElem (by omega))
          simp [this]
      rw [this]
    · have hd : decide (e = x) = false := by simp [he]
      repeat (first | (with_reducible refine Nx.go ?_) | ((with_reducible refine Ny.go ?_); (conv => arg 1; simp only [ev, sop, bounds, loI, hiI, fillParts, binSV, intBin, unSV, simprocAttr, ev2, ev3, h0, h3, h8, hlt, hc, hcx, eq_edge, hd, recheck, wantedS, SV.same_self, Bool.and_self]); (first | (with_reducible refine Nz.go ?_) | refine Hold_some ?_)))
      refine ⟨by simp only [ev, sop, bounds, loI, hiI, fillParts, binSV, intBin, unSV, simprocAttr, ev2, ev3, h7], by simp only [ev, sop, bounds, loI, hiI, fillParts, binSV, intBin, unSV, simprocAttr, ev2, ev3, h8], fun v w => ⟨by simp only [ev, sop, bounds, loI, hiI, fillParts, binSV, intBin, unSV, simprocAttr, ev2, ev3, h0]; exact (edges_of_lt hlt).symm, by simp only [ev, sop, bounds, loI, hiI, fillParts, binSV, intBin, unSV, simprocAttr, ev2, ev3, h3], hc, fun j y hj hy => ?_⟩⟩
      by_cases ej : j = k
      · subst ej; rw [hx] at hy; cases hy; exact he
      · exact hno j y (by omega) hy
  · rintro t σ1 ⟨h0, h3, hc, hno⟩
    repeat (first | (with_reducible refine Nx.go ?_) | ((with_reducible refine Ny.go ?_); (conv => arg 1; simp only [ev, sop, bounds, loI, hiI, fillParts, binSV, intBin, unSV, simprocAttr, ev2, ev3, recheck, wantedS, SV.same_self, Bool.and_self]); (first | (with_reducible refine Nz.go ?_) | refine Hold_some ?_)))
    (refine Hold1_of ?_; (conv => arg 1; simp only [ev, sop, bounds, loI, hiI, fillParts, binSV, intBin, unSV, simprocAttr, ev2, ev3, resultsSV, resMany, resOne]); refine Hold1_some ?_)
    rw [frz_of_pure rfl]
    have : (ol o).findIdx? (fun x => decide (e = x)) = none := by
      rw [List.findIdx?_eq_none_iff]
      intro x hx
      obtain ⟨j, hj⟩ := List.mem_iff_getElem?.1 hx
      simp [hno j x (List.getElem?_eq_some_iff.1 hj).1 hj]
    rw [this]
theorem t_containsE (o : Option (List EdgeD)) (e : EdgeD) (hl : (ol o).length ≤ 2 ^ 62) : Tells 76 [edgesV o, e.sv] (.sc (.bool (decide (e ∈ ol o)))) := by
  refine tells_fn rfl rfl rfl rfl ?_
  rw [show e.sv = .agg [.sc (.int .i64 e.f), .sc (.int .i64 e.a), .sc (.int .i64 e.t)] from rfl]
  repeat (first | (with_reducible refine Nx.go ?_) | ((with_reducible refine Ny.go ?_); (conv => arg 1; simp only [ev, sop, bounds, loI, hiI, fillParts, binSV, intBin, unSV, simprocAttr, ev2, ev3, recheck, wantedS, SV.same_self, Bool.and_self]); (first | (with_reducible refine Nz.go ?_) | refine Hold_some ?_)))
  refine st_tellp (t_indexE o e hl) ⟨_, rfl, by first | omega | decide⟩ wantedS_none (by simp only [ev, sop, bounds, loI, hiI, fillParts, binSV, intBin, unSV, simprocAttr, ev2, ev3] <;> rfl) (by first | rfl | simp [pures, SV.pure, *, pure_func, pure_ints, pure_blks, pure_insV, pure_rows, pure_edges, pure_edge]) (by first | with_reducible exact recheck_nil | (simp only [recheck, wantedS]; simp only [ev, sop, bounds, loI, hiI, fillParts, binSV, intBin, unSV, simprocAttr, ev2, ev3]; simp only [SV.same_self, Bool.and_self, beq_self_eq_true])) ?_
  repeat (first | (with_reducible refine Nx.go ?_) | ((with_reducible refine Ny.go ?_); (conv => arg 1; simp only [ev, sop, bounds, loI, hiI, fillParts, binSV, intBin, unSV, simprocAttr, ev2, ev3, recheck, wantedS, SV.same_self, Bool.and_self]); (first | (with_reducible refine Nz.go ?_) | refine Hold_some ?_)))
  (refine Hold1_of ?_; (conv => arg 1; simp only [ev, sop, bounds, loI, hiI, fillParts, binSV, intBin, unSV, simprocAttr, ev2, ev3, resultsSV, resMany, resOne]); refine Hold1_some ?_)
  rw [frz_of_pure rfl]
  cases hf : (ol o).findIdx? (fun x => decide (e = x)) with
  | none =>
    rw [List.findIdx?_eq_none_iff] at hf
    have : ¬ e ∈ ol o := fun h => by have := hf e h; simp at this
    simp [this]
  | some i =>
    rw [List.findIdx?_eq_some_iff_getElem] at hf
    obtain ⟨hi, hp, _⟩ := hf
    have he : e = (ol o)[i] := of_decide_eq_true hp
    have : e ∈ ol o := by rw [he]; exact List.getElem_mem hi
    simp [this]

/-- How many of some edges come from where, go to where, one does. -/
def outs (l : List EdgeD) (e : EdgeD) : Nat := (l.filter fun x => decide (x.f = e.f)).length
def ins (l : List EdgeD) (e : EdgeD) : Nat := (l.filter fun x => decide (x.t = e.t)).length
noncomputable def FuncD.outE (f : FuncD) (e : EdgeD) : Nat := if e ∈ ol f.allE then outs (ol f.allE) e else 0
noncomputable def FuncD.inE (f : FuncD) (e : EdgeD) : Nat := if e ∈ ol f.allE then ins (ol f.allE) e else 0
theorem allE_len (f : FuncD) : (ol f.allE).length ≤ 400 := by
  unfold FuncD.allE
  split
  · rename_i h
    rw [ol_nilE]
    have h200 := (FuncD.fitsB_iff.1 h).1.2.1
    have := edgesTo_len f f.bl.length; show (f.edgesTo f.bl.length).length ≤ _; omega
  · simp [ol]
theorem filter_take_succ {α : Type} (p : α → Bool) {l : List α} {k : Nat} {x : α} (h : l[k]? = some x) : ((l.take (k + 1)).filter p).length = ((l.take k).filter p).length + (if p x = true then 1 else 0) := by
  rw [List.take_add_one, h, List.filter_append, List.length_append]
  simp [List.filter_cons]
  split <;> simp

set_option maxHeartbeats 1000000 in
theorem t_ends (f : FuncD) (e : EdgeD) (hl : f.bl.length ≤ 2 ^ 47) : Tells 44 [f.sv, e.sv] (.tup [.sc (.int .i64 (f.outE e : Nat)), .sc (.int .i64 (f.inE e : Nat))]) := by
  refine tells_fn rfl rfl rfl rfl ?_
  rw [show e.sv = .agg [.sc (.int .i64 e.f), .sc (.int .i64 e.a), .sc (.int .i64 e.t)] from rfl, show f.sv = .agg [intsV f.params, blksV f.blocks] from rfl]
  have h400 := allE_len f
  repeat (first | (with_reducible refine Nx.go ?_) | ((with_reducible refine Ny.go ?_); (conv => arg 1; simp only [ev, sop, bounds, loI, hiI, fillParts, binSV, intBin, unSV, simprocAttr, ev2, ev3, recheck, wantedS, SV.same_self, Bool.and_self]); (first | (with_reducible refine Nz.go ?_) | refine Hold_some ?_)))
  refine st_tellp (t_All f hl) ⟨_, rfl, by first | omega | decide⟩ wantedS_none (by simp only [ev, sop, bounds, loI, hiI, fillParts, binSV, intBin, unSV, simprocAttr, ev2, ev3] <;> rfl) (by first | rfl | simp [pures, SV.pure, *, pure_func, pure_ints, pure_blks, pure_insV, pure_rows, pure_edges, pure_edge]) (by first | with_reducible exact recheck_nil | (simp only [recheck, wantedS]; simp only [ev, sop, bounds, loI, hiI, fillParts, binSV, intBin, unSV, simprocAttr, ev2, ev3]; simp only [SV.same_self, Bool.and_self, beq_self_eq_true])) ?_
  repeat (first | (with_reducible refine Nx.go ?_) | ((with_reducible refine Ny.go ?_); (conv => arg 1; simp only [ev, sop, bounds, loI, hiI, fillParts, binSV, intBin, unSV, simprocAttr, ev2, ev3, recheck, wantedS, SV.same_self, Bool.and_self]); (first | (with_reducible refine Nz.go ?_) | refine Hold_some ?_)))
  refine st_tellp (t_containsE f.allE e (by omega)) ⟨_, rfl, by first | omega | decide⟩ wantedS_none (by simp only [ev, sop, bounds, loI, hiI, fillParts, binSV, intBin, unSV, simprocAttr, ev2, ev3] <;> rfl) (by first | rfl | simp [pures, SV.pure, *, pure_func, pure_ints, pure_blks, pure_insV, pure_rows, pure_edges, pure_edge]) (by first | with_reducible exact recheck_nil | (simp only [recheck, wantedS]; simp only [ev, sop, bounds, loI, hiI, fillParts, binSV, intBin, unSV, simprocAttr, ev2, ev3]; simp only [SV.same_self, Bool.and_self, beq_self_eq_true])) ?_
  by_cases he : e ∈ ol f.allE
  rotate_left
  · have hd : decide (e ∈ ol f.allE) = false := by simp [he]
    repeat (first | (with_reducible refine Nx.go ?_) | ((with_reducible refine Ny.go ?_); (conv => arg 1; simp only [ev, sop, bounds, loI, hiI, fillParts, binSV, intBin, unSV, simprocAttr, ev2, ev3, hd, recheck, wantedS, SV.same_self, Bool.and_self]); (first | (with_reducible refine Nz.go ?_) | refine Hold_some ?_)))
    (refine Hold1_of ?_; (conv => arg 1; simp only [ev, sop, bounds, loI, hiI, fillParts, binSV, intBin, unSV, simprocAttr, ev2, ev3, resultsSV, resMany, resOne]); refine Hold1_some ?_)
    simp [frz, SV.pure, pures, FuncD.outE, FuncD.inE, he]
  have hd : decide (e ∈ ol f.allE) = true := by simp [he]
  repeat (first | (with_reducible refine Nx.go ?_) | ((with_reducible refine Ny.go ?_); (conv => arg 1; simp only [ev, sop, bounds, loI, hiI, fillParts, binSV, intBin, unSV, simprocAttr, ev2, ev3, hd, recheck, wantedS, SV.same_self, Bool.and_self]); (first | (with_reducible refine Nz.go ?_) | refine Hold_some ?_)))
  refine WP_range (N := (ol f.allE).length) (fun k t σ1 => getT t 3 = .ptr 1 0 ∧ getT t 15 = edgesV f.allE ∧ cellsOf σ1 1 = some [.sc (.int .i64 e.f), .sc (.int .i64 e.a), .sc (.int .i64 e.t)] ∧ 2 ≤ σ1.next ∧
      getT t 4 = .sc (.int .i64 (outs ((ol f.allE).take k) e : Nat)) ∧ getT t 5 = .sc (.int .i64 (ins ((ol f.allE).take k) e : Nat))) (by omega) (by simp only [ev, sop, bounds, loI, hiI, fillParts, binSV, intBin, unSV, simprocAttr, ev2, ev3]) (by simp only [ev, sop, bounds, loI, hiI, fillParts, binSV, intBin, unSV, simprocAttr, ev2, ev3]) (by decide) ⟨by simp only [ev, sop, bounds, loI, hiI, fillParts, binSV, intBin, unSV, simprocAttr, ev2, ev3], by simp only [ev, sop, bounds, loI, hiI, fillParts, binSV, intBin, unSV, simprocAttr, ev2, ev3], by simp only [ev, sop, bounds, loI, hiI, fillParts, binSV, intBin, unSV, simprocAttr, ev2, ev3], by simp [next_push, next_empty], by simp only [ev, sop, bounds, loI, hiI, fillParts, binSV, intBin, unSV, simprocAttr, ev2, ev3]; rfl, by simp only [ev, sop, bounds, loI, hiI, fillParts, binSV, intBin, unSV, simprocAttr, ev2, ev3]; rfl⟩ ?_ ?_
  · rintro k t σ1 hlt h16 h17 ⟨h3, h15, hc, hnx, h4, h5⟩
    obtain ⟨x, hx⟩ := get_of_lt hlt
    rw [edges_of_lt hlt] at h15
    have hcx := cut_edge hx
    have n1 : (1 = σ1.next) = False := by simp; omega
    have b1 : outs ((ol f.allE).take k) e ≤ 400 := by unfold outs; exact Nat.le_trans (List.length_filter_le _ _) (by simp; omega)
    have b2 : ins ((ol f.allE).take k) e ≤ 400 := by unfold ins; exact Nat.le_trans (List.length_filter_le _ _) (by simp; omega)
    have w1 : IntKind.i64.wrap ((outs ((ol f.allE).take k) e : Nat) + 1 : Int) = ((outs ((ol f.allE).take k) e + 1 : Nat) : Int) := by rw [i64_in _ (by omega) (by omega)]; rfl
    have w2 : IntKind.i64.wrap ((ins ((ol f.allE).take k) e : Nat) + 1 : Int) = ((ins ((ol f.allE).take k) e + 1 : Nat) : Int) := by rw [i64_in _ (by omega) (by omega)]; rfl
    have s1 : outs ((ol f.allE).take (k + 1)) e = outs ((ol f.allE).take k) e + (if decide (x.f = e.f) = true then 1 else 0) := filter_take_succ _ hx
    have s2 : ins ((ol f.allE).take (k + 1)) e = ins ((ol f.allE).take k) e + (if decide (x.t = e.t) = true then 1 else 0) := filter_take_succ _ hx
    have d1 : decide (x.f = e.f) = (x.f == e.f) := by rw [Bool.eq_iff_iff]; simp
    have d2 : decide (x.t = e.t) = (x.t == e.t) := by rw [Bool.eq_iff_iff]; simp
    rw [s1, s2, d1, d2]
    cases g1 : (x.f == e.f) <;> cases g2 : (x.t == e.t)
    all_goals
      repeat (first | (with_reducible refine Nx.go ?_) | ((with_reducible refine Ny.go ?_); (conv => arg 1; simp only [ev, sop, bounds, loI, hiI, fillParts, binSV, intBin, unSV, simprocAttr, ev2, ev3, h3, h15, h17, hlt, hcx, hc, n1, g1, g2, h4, h5, w1, w2, recheck, wantedS, SV.same_self, Bool.and_self]); (first | (with_reducible refine Nz.go ?_) | refine Hold_some ?_)))
      refine ⟨by simp only [ev, sop, bounds, loI, hiI, fillParts, binSV, intBin, unSV, simprocAttr, ev2, ev3, h16], by simp only [ev, sop, bounds, loI, hiI, fillParts, binSV, intBin, unSV, simprocAttr, ev2, ev3, h17], fun v w => ⟨by simp only [ev, sop, bounds, loI, hiI, fillParts, binSV, intBin, unSV, simprocAttr, ev2, ev3, h3], by simp only [ev, sop, bounds, loI, hiI, fillParts, binSV, intBin, unSV, simprocAttr, ev2, ev3, h15]; exact (edges_of_lt hlt).symm, by simp (disch := first | omega | (simp only [nx_push, nx_set]; done) | (simp only [nx_push, nx_set]; omega)) only [cells_push_ne, cells_push_eq, cells_set_ne, cells_set_eq, hc], by simp [next_push, next_set]; omega, by simp only [ev, sop, bounds, loI, hiI, fillParts, binSV, intBin, unSV, simprocAttr, ev2, ev3, h4], by simp only [ev, sop, bounds, loI, hiI, fillParts, binSV, intBin, unSV, simprocAttr, ev2, ev3, h5]⟩⟩
  · rintro t σ1 ⟨h3, h15, hc, hnx, h4, h5⟩
    repeat (first | (with_reducible refine Nx.go ?_) | ((with_reducible refine Ny.go ?_); (conv => arg 1; simp only [ev, sop, bounds, loI, hiI, fillParts, binSV, intBin, unSV, simprocAttr, ev2, ev3, h4, h5, recheck, wantedS, SV.same_self, Bool.and_self]); (first | (with_reducible refine Nz.go ?_) | refine Hold_some ?_)))
    (refine Hold1_of ?_; (conv => arg 1; simp only [ev, sop, bounds, loI, hiI, fillParts, binSV, intBin, unSV, simprocAttr, ev2, ev3, resultsSV, resMany, resOne]); refine Hold1_some ?_)
    rw [frz_of_pure rfl]
    simp [FuncD.outE, FuncD.inE, he]
end Go.Proofs.Ytojjhcgbbmknmaa.Sh

/- Law 18: what is more than is gone through. -/
namespace Go.Proofs.Ytojjhcgbbmknmaa.Sh
set_option linter.unusedSimpArgs false
set_option linter.unusedVariables false
open Go Go.Proofs
set_option maxHeartbeats 4000000 in
theorem t_great18 (f : FuncD) (o : Option (List TileD)) (hw : f.within (2 ^ 47)) (ht : tilesWithin (2 ^ 47) (ol o)) : ∃ g : Bool, Tells 8 [f.sv, tilesV o] (.sc (.bool g)) ∧ (g = false → f.within 2000 ∧ tilesWithin 90 (ol o) ∧ (f.bl.length ≤ 30 ∨ 200 < f.bl.length)) := by
  suffices h : WPF (EV 3) 8 [f.sv, tilesV o] St.empty (fun v σ => ∃ g : Bool, v = .sc (.bool g) ∧ (g = false → f.within 2000 ∧ tilesWithin 90 (ol o) ∧ (f.bl.length ≤ 30 ∨ 200 < f.bl.length))) by
    obtain ⟨q, v, σ, h1, g, rfl, h2⟩ := h
    exact ⟨g, ⟨_, rfl, q, _, σ, h1, frz_of_pure rfl⟩, h2⟩
  refine told_fn rfl rfl rfl rfl ?_
  rw [show f.sv = .agg [intsV f.params, blksV f.blocks] from rfl]
  obtain ⟨N, hN1, hN2⟩ := t_funcOf f 2000 (by omega) hw
  have hlen : lenSV (tilesV o) = some (ol o).length := lenSV_rec o
  repeat (first | (with_reducible refine Nx.go ?_) | ((with_reducible refine Ny.go ?_); (conv => arg 1; simp only [ev, sop, bounds, loI, hiI, fillParts, binSV, intBin, unSV, simprocAttr, ev2, ev3, hlen, recheck, wantedS, SV.same_self, Bool.and_self]); (first | (with_reducible refine Nz.go ?_) | refine Hold_some ?_)))
  refine WP_blockloop (fun m t σ => ∃ i n : Nat, m = (ol o).length - i ∧ i ≤ (ol o).length ∧ n ≤ (ol o).length + 2 ^ 48 ∧ (ol o).length ≤ n ∧ getT t 1 = tilesV o ∧ getT t 2 = .ptr 0 0 ∧ getT t 5 = .sc (.int .i64 (n : Nat)) ∧ getT t 6 = .sc (.int .i64 (i : Nat)) ∧ cellsOf σ 0 = some [intsV f.params, blksV f.blocks] ∧
      (n ≤ 90 → ∀ j b, j < i → (ol o)[j]? = some b → (ol b.blocks).length ≤ n)) (k0 := (ol o).length) ⟨0, (ol o).length, by simp, by omega, by omega, by omega, by simp only [ev, sop, bounds, loI, hiI, fillParts, binSV, intBin, unSV, simprocAttr, ev2, ev3], by simp only [ev, sop, bounds, loI, hiI, fillParts, binSV, intBin, unSV, simprocAttr, ev2, ev3], by simp only [ev, sop, bounds, loI, hiI, fillParts, binSV, intBin, unSV, simprocAttr, ev2, ev3] <;> rfl, by simp only [ev, sop, bounds, loI, hiI, fillParts, binSV, intBin, unSV, simprocAttr, ev2, ev3] <;> rfl, by simp only [ev, sop, bounds, loI, hiI, fillParts, binSV, intBin, unSV, simprocAttr, ev2, ev3], by simp⟩ ?_
  rintro m t σ ⟨i, n, rfl, hi, hn, hn2, h1, h2, h5, h6, hc, hseen⟩
  have hblen : lenSV (blksV f.blocks) = some f.bl.length := lenSV_rec _
  by_cases hlt : i < (ol o).length
  rotate_left
  · skip
    by_cases hA : f.bl.length > 30 ∧ f.bl.length ≤ 200
    · obtain ⟨hA1, hA2⟩ := hA
      have hA1' : (f.bl.length : Int) > 30 := by omega
      have hA2' : (f.bl.length : Int) ≤ 200 := by omega
      repeat (first | (with_reducible refine Nx.go ?_) | ((with_reducible refine Ny.go ?_); (conv => arg 1; simp only [ev, sop, bounds, loI, hiI, fillParts, binSV, intBin, unSV, simprocAttr, ev2, ev3, h1, h2, h5, h6, hlt, hc, hlen, hblen, hA1', hA2', recheck, wantedS, SV.same_self, Bool.and_self]); (first | (with_reducible refine Nz.go ?_) | refine Hold_some ?_)))
      (refine Hold1_of ?_; (conv => arg 1; simp only [ev, sop, bounds, loI, hiI, fillParts, binSV, intBin, unSV, simprocAttr, ev2, ev3, resultsSV, resMany, resOne]); refine Hold1_some ?_)
      exact ⟨true, rfl, fun h => by cases h⟩
    have hA' : f.bl.length ≤ 30 ∨ 200 < f.bl.length := by omega
    by_cases hB : f.bl.length > 30
    · have hB1 : (f.bl.length : Int) > 30 := by omega
      have hB2 : ¬ (f.bl.length : Int) ≤ 200 := by omega
      repeat (first | (with_reducible refine Nx.go ?_) | ((with_reducible refine Ny.go ?_); (conv => arg 1; simp only [ev, sop, bounds, loI, hiI, fillParts, binSV, intBin, unSV, simprocAttr, ev2, ev3, h1, h2, h5, h6, hlt, hc, hlen, hblen, hB1, hB2, recheck, wantedS, SV.same_self, Bool.and_self]); (first | (with_reducible refine Nz.go ?_) | refine Hold_some ?_)))
      refine st_tellp (hN1) ⟨_, rfl, by first | omega | decide⟩ wantedS_none (by simp only [ev, sop, bounds, loI, hiI, fillParts, binSV, intBin, unSV, simprocAttr, ev2, ev3, h1, h2, h5, h6, hlt, hc, hblen, hB1, hB2] <;> rfl) (by first | rfl | simp [pures, SV.pure, *, pure_func, pure_ints, pure_blks, pure_insV, pure_rows, pure_edges, pure_edge]) (by first | with_reducible exact recheck_nil | (simp only [recheck, wantedS]; simp only [ev, sop, bounds, loI, hiI, fillParts, binSV, intBin, unSV, simprocAttr, ev2, ev3, h1, h2, h5, h6, hlt, hc, hblen, hB1, hB2]; simp only [SV.same_self, Bool.and_self, beq_self_eq_true])) ?_
      by_cases hC : N ≤ 2000
      · have hC' : ¬ (N : Int) > 2000 := by omega
        by_cases hD : n ≤ 90
        · have hD' : ¬ (n : Int) > 90 := by omega
          repeat (first | (with_reducible refine Nx.go ?_) | ((with_reducible refine Ny.go ?_); (conv => arg 1; simp only [ev, sop, bounds, loI, hiI, fillParts, binSV, intBin, unSV, simprocAttr, ev2, ev3, h1, h2, h5, h6, hlt, hc, hlen, hC', hD', recheck, wantedS, SV.same_self, Bool.and_self]); (first | (with_reducible refine Nz.go ?_) | refine Hold_some ?_)))
          (refine Hold1_of ?_; (conv => arg 1; simp only [ev, sop, bounds, loI, hiI, fillParts, binSV, intBin, unSV, simprocAttr, ev2, ev3, resultsSV, resMany, resOne]); refine Hold1_some ?_)
          refine ⟨false, rfl, fun _ => ⟨?_, ⟨by omega, fun t ht => ?_⟩, hA'⟩⟩
          · exact (hN2 hC).mono hC
          · obtain ⟨j, hj⟩ := List.mem_iff_getElem?.1 ht
            exact Nat.le_trans (hseen hD j t (by have := (List.getElem?_eq_some_iff.1 hj).1; omega) hj) hD
        · have hD' : (n : Int) > 90 := by omega
          repeat (first | (with_reducible refine Nx.go ?_) | ((with_reducible refine Ny.go ?_); (conv => arg 1; simp only [ev, sop, bounds, loI, hiI, fillParts, binSV, intBin, unSV, simprocAttr, ev2, ev3, h1, h2, h5, h6, hlt, hc, hlen, hC', hD', recheck, wantedS, SV.same_self, Bool.and_self]); (first | (with_reducible refine Nz.go ?_) | refine Hold_some ?_)))
          (refine Hold1_of ?_; (conv => arg 1; simp only [ev, sop, bounds, loI, hiI, fillParts, binSV, intBin, unSV, simprocAttr, ev2, ev3, resultsSV, resMany, resOne]); refine Hold1_some ?_)
          exact ⟨true, rfl, fun h => by cases h⟩
      · have hC' : (N : Int) > 2000 := by omega
        repeat (first | (with_reducible refine Nx.go ?_) | ((with_reducible refine Ny.go ?_); (conv => arg 1; simp only [ev, sop, bounds, loI, hiI, fillParts, binSV, intBin, unSV, simprocAttr, ev2, ev3, h1, h2, h5, h6, hlt, hc, hlen, hC', recheck, wantedS, SV.same_self, Bool.and_self]); (first | (with_reducible refine Nz.go ?_) | refine Hold_some ?_)))
        (refine Hold1_of ?_; (conv => arg 1; simp only [ev, sop, bounds, loI, hiI, fillParts, binSV, intBin, unSV, simprocAttr, ev2, ev3, resultsSV, resMany, resOne]); refine Hold1_some ?_)
        exact ⟨true, rfl, fun h => by cases h⟩
    · have hB1 : ¬ (f.bl.length : Int) > 30 := by omega
      repeat (first | (with_reducible refine Nx.go ?_) | ((with_reducible refine Ny.go ?_); (conv => arg 1; simp only [ev, sop, bounds, loI, hiI, fillParts, binSV, intBin, unSV, simprocAttr, ev2, ev3, h1, h2, h5, h6, hlt, hc, hlen, hblen, hB1, recheck, wantedS, SV.same_self, Bool.and_self]); (first | (with_reducible refine Nz.go ?_) | refine Hold_some ?_)))
      refine st_tellp (hN1) ⟨_, rfl, by first | omega | decide⟩ wantedS_none (by simp only [ev, sop, bounds, loI, hiI, fillParts, binSV, intBin, unSV, simprocAttr, ev2, ev3, h1, h2, h5, h6, hlt, hc, hblen, hB1] <;> rfl) (by first | rfl | simp [pures, SV.pure, *, pure_func, pure_ints, pure_blks, pure_insV, pure_rows, pure_edges, pure_edge]) (by first | with_reducible exact recheck_nil | (simp only [recheck, wantedS]; simp only [ev, sop, bounds, loI, hiI, fillParts, binSV, intBin, unSV, simprocAttr, ev2, ev3, h1, h2, h5, h6, hlt, hc, hblen, hB1]; simp only [SV.same_self, Bool.and_self, beq_self_eq_true])) ?_
      by_cases hC : N ≤ 2000
      · have hC' : ¬ (N : Int) > 2000 := by omega
        by_cases hD : n ≤ 90
        · have hD' : ¬ (n : Int) > 90 := by omega
          repeat (first | (with_reducible refine Nx.go ?_) | ((with_reducible refine Ny.go ?_); (conv => arg 1; simp only [ev, sop, bounds, loI, hiI, fillParts, binSV, intBin, unSV, simprocAttr, ev2, ev3, h1, h2, h5, h6, hlt, hc, hlen, hC', hD', recheck, wantedS, SV.same_self, Bool.and_self]); (first | (with_reducible refine Nz.go ?_) | refine Hold_some ?_)))
          (refine Hold1_of ?_; (conv => arg 1; simp only [ev, sop, bounds, loI, hiI, fillParts, binSV, intBin, unSV, simprocAttr, ev2, ev3, resultsSV, resMany, resOne]); refine Hold1_some ?_)
          refine ⟨false, rfl, fun _ => ⟨?_, ⟨by omega, fun t ht => ?_⟩, hA'⟩⟩
          · exact (hN2 hC).mono hC
          · obtain ⟨j, hj⟩ := List.mem_iff_getElem?.1 ht
            exact Nat.le_trans (hseen hD j t (by have := (List.getElem?_eq_some_iff.1 hj).1; omega) hj) hD
        · have hD' : (n : Int) > 90 := by omega
          repeat (first | (with_reducible refine Nx.go ?_) | ((with_reducible refine Ny.go ?_); (conv => arg 1; simp only [ev, sop, bounds, loI, hiI, fillParts, binSV, intBin, unSV, simprocAttr, ev2, ev3, h1, h2, h5, h6, hlt, hc, hlen, hC', hD', recheck, wantedS, SV.same_self, Bool.and_self]); (first | (with_reducible refine Nz.go ?_) | refine Hold_some ?_)))
          (refine Hold1_of ?_; (conv => arg 1; simp only [ev, sop, bounds, loI, hiI, fillParts, binSV, intBin, unSV, simprocAttr, ev2, ev3, resultsSV, resMany, resOne]); refine Hold1_some ?_)
          exact ⟨true, rfl, fun h => by cases h⟩
      · have hC' : (N : Int) > 2000 := by omega
        repeat (first | (with_reducible refine Nx.go ?_) | ((with_reducible refine Ny.go ?_); (conv => arg 1; simp only [ev, sop, bounds, loI, hiI, fillParts, binSV, intBin, unSV, simprocAttr, ev2, ev3, h1, h2, h5, h6, hlt, hc, hlen, hC', recheck, wantedS, SV.same_self, Bool.and_self]); (first | (with_reducible refine Nz.go ?_) | refine Hold_some ?_)))
        (refine Hold1_of ?_; (conv => arg 1; simp only [ev, sop, bounds, loI, hiI, fillParts, binSV, intBin, unSV, simprocAttr, ev2, ev3, resultsSV, resMany, resOne]); refine Hold1_some ?_)
        exact ⟨true, rfl, fun h => by cases h⟩

  by_cases hle : n ≤ 90
  rotate_left
  · have hle' : ¬ (n : Int) ≤ 90 := by omega
    by_cases hA : f.bl.length > 30 ∧ f.bl.length ≤ 200
    · obtain ⟨hA1, hA2⟩ := hA
      have hA1' : (f.bl.length : Int) > 30 := by omega
      have hA2' : (f.bl.length : Int) ≤ 200 := by omega
      repeat (first | (with_reducible refine Nx.go ?_) | ((with_reducible refine Ny.go ?_); (conv => arg 1; simp only [ev, sop, bounds, loI, hiI, fillParts, binSV, intBin, unSV, simprocAttr, ev2, ev3, h1, h2, h5, h6, hlt, hle', hc, hlen, hblen, hA1', hA2', recheck, wantedS, SV.same_self, Bool.and_self]); (first | (with_reducible refine Nz.go ?_) | refine Hold_some ?_)))
      (refine Hold1_of ?_; (conv => arg 1; simp only [ev, sop, bounds, loI, hiI, fillParts, binSV, intBin, unSV, simprocAttr, ev2, ev3, resultsSV, resMany, resOne]); refine Hold1_some ?_)
      exact ⟨true, rfl, fun h => by cases h⟩
    have hA' : f.bl.length ≤ 30 ∨ 200 < f.bl.length := by omega
    by_cases hB : f.bl.length > 30
    · have hB1 : (f.bl.length : Int) > 30 := by omega
      have hB2 : ¬ (f.bl.length : Int) ≤ 200 := by omega
      repeat (first | (with_reducible refine Nx.go ?_) | ((with_reducible refine Ny.go ?_); (conv => arg 1; simp only [ev, sop, bounds, loI, hiI, fillParts, binSV, intBin, unSV, simprocAttr, ev2, ev3, h1, h2, h5, h6, hlt, hle', hc, hlen, hblen, hB1, hB2, recheck, wantedS, SV.same_self, Bool.and_self]); (first | (with_reducible refine Nz.go ?_) | refine Hold_some ?_)))
      refine st_tellp (hN1) ⟨_, rfl, by first | omega | decide⟩ wantedS_none (by simp only [ev, sop, bounds, loI, hiI, fillParts, binSV, intBin, unSV, simprocAttr, ev2, ev3, h1, h2, h5, h6, hlt, hle', hc, hblen, hB1, hB2] <;> rfl) (by first | rfl | simp [pures, SV.pure, *, pure_func, pure_ints, pure_blks, pure_insV, pure_rows, pure_edges, pure_edge]) (by first | with_reducible exact recheck_nil | (simp only [recheck, wantedS]; simp only [ev, sop, bounds, loI, hiI, fillParts, binSV, intBin, unSV, simprocAttr, ev2, ev3, h1, h2, h5, h6, hlt, hle', hc, hblen, hB1, hB2]; simp only [SV.same_self, Bool.and_self, beq_self_eq_true])) ?_
      by_cases hC : N ≤ 2000
      · have hC' : ¬ (N : Int) > 2000 := by omega
        by_cases hD : n ≤ 90
        · have hD' : ¬ (n : Int) > 90 := by omega
          repeat (first | (with_reducible refine Nx.go ?_) | ((with_reducible refine Ny.go ?_); (conv => arg 1; simp only [ev, sop, bounds, loI, hiI, fillParts, binSV, intBin, unSV, simprocAttr, ev2, ev3, h1, h2, h5, h6, hlt, hle', hc, hlen, hC', hD', recheck, wantedS, SV.same_self, Bool.and_self]); (first | (with_reducible refine Nz.go ?_) | refine Hold_some ?_)))
          (refine Hold1_of ?_; (conv => arg 1; simp only [ev, sop, bounds, loI, hiI, fillParts, binSV, intBin, unSV, simprocAttr, ev2, ev3, resultsSV, resMany, resOne]); refine Hold1_some ?_)
          refine ⟨false, rfl, fun _ => ⟨?_, ⟨by omega, fun t ht => ?_⟩, hA'⟩⟩
          · exact (hN2 hC).mono hC
          · obtain ⟨j, hj⟩ := List.mem_iff_getElem?.1 ht
            exact absurd hD hle
        · have hD' : (n : Int) > 90 := by omega
          repeat (first | (with_reducible refine Nx.go ?_) | ((with_reducible refine Ny.go ?_); (conv => arg 1; simp only [ev, sop, bounds, loI, hiI, fillParts, binSV, intBin, unSV, simprocAttr, ev2, ev3, h1, h2, h5, h6, hlt, hle', hc, hlen, hC', hD', recheck, wantedS, SV.same_self, Bool.and_self]); (first | (with_reducible refine Nz.go ?_) | refine Hold_some ?_)))
          (refine Hold1_of ?_; (conv => arg 1; simp only [ev, sop, bounds, loI, hiI, fillParts, binSV, intBin, unSV, simprocAttr, ev2, ev3, resultsSV, resMany, resOne]); refine Hold1_some ?_)
          exact ⟨true, rfl, fun h => by cases h⟩
      · have hC' : (N : Int) > 2000 := by omega
        repeat (first | (with_reducible refine Nx.go ?_) | ((with_reducible refine Ny.go ?_); (conv => arg 1; simp only [ev, sop, bounds, loI, hiI, fillParts, binSV, intBin, unSV, simprocAttr, ev2, ev3, h1, h2, h5, h6, hlt, hle', hc, hlen, hC', recheck, wantedS, SV.same_self, Bool.and_self]); (first | (with_reducible refine Nz.go ?_) | refine Hold_some ?_)))
        (refine Hold1_of ?_; (conv => arg 1; simp only [ev, sop, bounds, loI, hiI, fillParts, binSV, intBin, unSV, simprocAttr, ev2, ev3, resultsSV, resMany, resOne]); refine Hold1_some ?_)
        exact ⟨true, rfl, fun h => by cases h⟩
    · have hB1 : ¬ (f.bl.length : Int) > 30 := by omega
      repeat (first | (with_reducible refine Nx.go ?_) | ((with_reducible refine Ny.go ?_); (conv => arg 1; simp only [ev, sop, bounds, loI, hiI, fillParts, binSV, intBin, unSV, simprocAttr, ev2, ev3, h1, h2, h5, h6, hlt, hle', hc, hlen, hblen, hB1, recheck, wantedS, SV.same_self, Bool.and_self]); (first | (with_reducible refine Nz.go ?_) | refine Hold_some ?_)))
      refine st_tellp (hN1) ⟨_, rfl, by first | omega | decide⟩ wantedS_none (by simp only [ev, sop, bounds, loI, hiI, fillParts, binSV, intBin, unSV, simprocAttr, ev2, ev3, h1, h2, h5, h6, hlt, hle', hc, hblen, hB1] <;> rfl) (by first | rfl | simp [pures, SV.pure, *, pure_func, pure_ints, pure_blks, pure_insV, pure_rows, pure_edges, pure_edge]) (by first | with_reducible exact recheck_nil | (simp only [recheck, wantedS]; simp only [ev, sop, bounds, loI, hiI, fillParts, binSV, intBin, unSV, simprocAttr, ev2, ev3, h1, h2, h5, h6, hlt, hle', hc, hblen, hB1]; simp only [SV.same_self, Bool.and_self, beq_self_eq_true])) ?_
      by_cases hC : N ≤ 2000
      · have hC' : ¬ (N : Int) > 2000 := by omega
        by_cases hD : n ≤ 90
        · have hD' : ¬ (n : Int) > 90 := by omega
          repeat (first | (with_reducible refine Nx.go ?_) | ((with_reducible refine Ny.go ?_); (conv => arg 1; simp only [ev, sop, bounds, loI, hiI, fillParts, binSV, intBin, unSV, simprocAttr, ev2, ev3, h1, h2, h5, h6, hlt, hle', hc, hlen, hC', hD', recheck, wantedS, SV.same_self, Bool.and_self]); (first | (with_reducible refine Nz.go ?_) | refine Hold_some ?_)))
          (refine Hold1_of ?_; (conv => arg 1; simp only [ev, sop, bounds, loI, hiI, fillParts, binSV, intBin, unSV, simprocAttr, ev2, ev3, resultsSV, resMany, resOne]); refine Hold1_some ?_)
          refine ⟨false, rfl, fun _ => ⟨?_, ⟨by omega, fun t ht => ?_⟩, hA'⟩⟩
          · exact (hN2 hC).mono hC
          · obtain ⟨j, hj⟩ := List.mem_iff_getElem?.1 ht
            exact absurd hD hle
        · have hD' : (n : Int) > 90 := by omega
          repeat (first | (with_reducible refine Nx.go ?_) | ((with_reducible refine Ny.go ?_); (conv => arg 1; simp only [ev, sop, bounds, loI, hiI, fillParts, binSV, intBin, unSV, simprocAttr, ev2, ev3, h1, h2, h5, h6, hlt, hle', hc, hlen, hC', hD', recheck, wantedS, SV.same_self, Bool.and_self]); (first | (with_reducible refine Nz.go ?_) | refine Hold_some ?_)))
          (refine Hold1_of ?_; (conv => arg 1; simp only [ev, sop, bounds, loI, hiI, fillParts, binSV, intBin, unSV, simprocAttr, ev2, ev3, resultsSV, resMany, resOne]); refine Hold1_some ?_)
          exact ⟨true, rfl, fun h => by cases h⟩
      · have hC' : (N : Int) > 2000 := by omega
        repeat (first | (with_reducible refine Nx.go ?_) | ((with_reducible refine Ny.go ?_); (conv => arg 1; simp only [ev, sop, bounds, loI, hiI, fillParts, binSV, intBin, unSV, simprocAttr, ev2, ev3, h1, h2, h5, h6, hlt, hle', hc, hlen, hC', recheck, wantedS, SV.same_self, Bool.and_self]); (first | (with_reducible refine Nz.go ?_) | refine Hold_some ?_)))
        (refine Hold1_of ?_; (conv => arg 1; simp only [ev, sop, bounds, loI, hiI, fillParts, binSV, intBin, unSV, simprocAttr, ev2, ev3, resultsSV, resMany, resOne]); refine Hold1_some ?_)
        exact ⟨true, rfl, fun h => by cases h⟩

  have hle' : (n : Int) ≤ 90 := by omega
  obtain ⟨x, hx⟩ := get_of_lt hlt
  have hv := tiles_of_lt hlt
  rw [hv] at h1
  have hcx := cut_tile2 hx
  have hbx := ht.2 x (List.mem_of_getElem? hx)
  have hw4 : IntKind.i64.wrap ((n : Int) + ((ol x.blocks).length : Int)) = ((n + (ol x.blocks).length : Nat) : Int) := by rw [i64_in _ (by omega) (by omega)]; rfl
  have hw5 : IntKind.i64.wrap ((i : Int) + 1) = ((i + 1 : Nat) : Int) := by have := ht.1; rw [i64_in _ (by omega) (by omega)]; rfl
  repeat (first | (with_reducible refine Nx.go ?_) | ((with_reducible refine Ny.go ?_); (conv => arg 1; simp only [ev, sop, bounds, loI, hiI, fillParts, binSV, intBin, unSV, simprocAttr, ev2, ev3, h1, h2, h5, h6, hlt, hle', hcx, hw4, hw5, recheck, wantedS, SV.same_self, Bool.and_self]); (first | (with_reducible refine Nz.go ?_) | refine Hold_some ?_)))
  refine ⟨_, by omega, i + 1, n + (ol x.blocks).length, rfl, by omega, by omega, by omega, by simp only [ev, sop, bounds, loI, hiI, fillParts, binSV, intBin, unSV, simprocAttr, ev2, ev3, h1]; exact hv.symm, by simp only [ev, sop, bounds, loI, hiI, fillParts, binSV, intBin, unSV, simprocAttr, ev2, ev3, h2], by simp only [ev, sop, bounds, loI, hiI, fillParts, binSV, intBin, unSV, simprocAttr, ev2, ev3], by simp only [ev, sop, bounds, loI, hiI, fillParts, binSV, intBin, unSV, simprocAttr, ev2, ev3], hc, fun h j y hj hy => ?_⟩
  by_cases e : j = i
  · subst e; rw [hx] at hy; cases hy; omega
  · have := hseen hle j y (by omega) hy; omega
end Go.Proofs.Ytojjhcgbbmknmaa.Sh
