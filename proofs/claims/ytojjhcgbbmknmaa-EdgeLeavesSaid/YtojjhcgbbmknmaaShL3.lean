/- Law 18, EdgeLeaves: it answers true. -/
import Derived.Test.YtojjhcgbbmknmaaXD
import Derived.Test.YtojjhcgbbmknmaaX8
import Derived.Test.YtojjhcgbbmknmaaShAw
namespace Go.Proofs.Ytojjhcgbbmknmaa.Sh
set_option linter.unusedSimpArgs false
set_option linter.unusedVariables false
open Go Go.Proofs

theorem blocksOf_len18 {N : Nat} : ∀ {l : List TileD}, (∀ t ∈ l, (ol t.blocks).length ≤ N) → (blocksOf l).length ≤ l.length * N
  | [], _ => by simp [blocksOf]
  | t :: l, h => by
    have h1 := blocksOf_len18 (l := l) (fun x hx => h x (by simp [hx]))
    have h2 := h t (by simp)
    have e : blocksOf (t :: l) = ol t.blocks ++ blocksOf l := by simp [blocksOf]
    rw [e, List.length_append, List.length_cons, Nat.add_mul]; omega
theorem rowsOf_filter (l : List TileD) (out : List Int) (asked : EdgeD → Bool) : ∀ E : List EdgeD, rowsOf l out asked E = (rowsOf l out (fun _ => true) E).filter fun r => asked r.e
  | [] => rfl
  | e :: E => by
    have ih := rowsOf_filter l out asked E
    unfold rowsOf at ih ⊢
    rw [List.filterMap_cons, List.filterMap_cons]
    by_cases h : out.getD e.f.toNat 0 = out.getD e.t.toNat 0
    · have h1 : rowOf l out asked e = none := by unfold rowOf; rw [if_pos (.inl h)]
      have h2 : rowOf l out (fun _ => true) e = none := by unfold rowOf; rw [if_pos (.inl h)]
      rw [h1, h2]; exact ih
    · cases ha : asked e with
      | false =>
        have h1 : rowOf l out asked e = none := by unfold rowOf; rw [if_pos (.inr ha)]
        have h2 : rowOf l out (fun _ => true) e = some ⟨e, nilRow (lessL (chainI l (out.getD e.f.toNat 0)) (chainI l (out.getD e.t.toNat 0))), nilRow ((lessL (chainI l (out.getD e.t.toNat 0)) (chainI l (out.getD e.f.toNat 0))).reverse)⟩ := by
          unfold rowOf; rw [if_neg]; rintro (h' | h'); exact h h'; cases h'
        rw [h1, h2, List.filter_cons_of_neg (by simp [ha])]; exact ih
      | true =>
        have h1 : rowOf l out asked e = some ⟨e, nilRow (lessL (chainI l (out.getD e.f.toNat 0)) (chainI l (out.getD e.t.toNat 0))), nilRow ((lessL (chainI l (out.getD e.t.toNat 0)) (chainI l (out.getD e.f.toNat 0))).reverse)⟩ := by
          unfold rowOf; rw [if_neg]; rintro (h' | h'); exact h h'; rw [ha] at h'; cases h'
        have h2 : rowOf l out (fun _ => true) e = some ⟨e, nilRow (lessL (chainI l (out.getD e.f.toNat 0)) (chainI l (out.getD e.t.toNat 0))), nilRow ((lessL (chainI l (out.getD e.t.toNat 0)) (chainI l (out.getD e.f.toNat 0))).reverse)⟩ := by
          unfold rowOf; rw [if_neg]; rintro (h' | h'); exact h h'; cases h'
        rw [h1, h2, List.filter_cons_of_pos (by simp [ha])]
        exact congrArg _ ih
theorem rowsOf_mem {l : List TileD} {out : List Int} {asked : EdgeD → Bool} {E : List EdgeD} {r : RowD} (h : r ∈ rowsOf l out asked E) : r.e ∈ E ∧ asked r.e = true ∧ out.getD r.e.f.toNat 0 ≠ out.getD r.e.t.toNat 0 := by
  unfold rowsOf at h
  obtain ⟨e, h1, h2⟩ := List.mem_filterMap.1 h
  unfold rowOf at h2
  split at h2
  · cases h2
  · rename_i hc
    cases h2
    exact ⟨h1, by simpa using fun h => hc (.inr h), fun h => hc (.inl h)⟩
theorem rowsOf_at {l : List TileD} {out : List Int} {asked : EdgeD → Bool} {E : List EdgeD} {i : Nat} {x : EdgeD} (h : E[i]? = some x) : rowsOf l out asked E = rowsOf l out asked (E.take i) ++ ((rowOf l out asked x).toList ++ rowsOf l out asked (E.drop (i + 1))) := by
  have e : E = E.take i ++ x :: E.drop (i + 1) := by
    conv => lhs; rw [← List.take_append_drop i E]
    rw [List.drop_eq_getElem_cons (List.getElem?_eq_some_iff.1 h).1, (List.getElem?_eq_some_iff.1 h).2]
  conv => lhs; rw [e]
  unfold rowsOf
  rw [List.filterMap_append, List.filterMap_cons]
  cases hh : rowOf l out asked x <;> simp
theorem count_step {α : Type} (v : α → Int) (k : Int) : ∀ R : List α, (R.filter fun r => decide (v r < k + 1)).length = (R.filter fun r => decide (v r < k)).length + (R.filter fun r => v r == k).length
  | [] => rfl
  | r :: R => by
    have ih := count_step v k R
    by_cases h1 : v r < k
    · have h2 : v r < k + 1 := by omega
      have h3 : (v r == k) = false := by rw [beq_eq_false_iff_ne]; omega
      rw [List.filter_cons_of_pos (by simpa using h2), List.filter_cons_of_pos (by simpa using h1), List.filter_cons_of_neg (by simp [h3])]
      simp only [List.length_cons]; omega
    · by_cases h4 : v r = k
      · have h2 : v r < k + 1 := by omega
        have h3 : (v r == k) = true := by simp [h4]
        rw [List.filter_cons_of_pos (by simpa using h2), List.filter_cons_of_neg (by simpa using h1), List.filter_cons_of_pos (by simp [h3])]
        simp only [List.length_cons]; omega
      · have h2 : ¬ v r < k + 1 := by omega
        have h3 : (v r == k) = false := by rw [beq_eq_false_iff_ne]; exact h4
        rw [List.filter_cons_of_neg (by simpa using h2), List.filter_cons_of_neg (by simpa using h1), List.filter_cons_of_neg (by simp [h3])]
        exact ih
/-- The row of an edge is as it should be. -/
theorem RightP.rowOk {f : FuncD} {l : List TileD} (h : RightP f l) {a b ka kb : Nat} {xa xb : TileD} {ea : Int} (ha : a < f.bl.length) (hb : b < f.bl.length) (hxa : l[ka]? = some xa) (hba : (a : Int) ∈ ol xa.blocks) (hxb : l[kb]? = some xb) (hbb : (b : Int) ∈ ol xb.blocks) (hne : ka ≠ kb) :
    RowOk l ⟨⟨(a : Int), ea, (b : Int)⟩, nilRow (lessL (chainI l (ka : Int)) (chainI l (kb : Int))), nilRow ((lessL (chainI l (kb : Int)) (chainI l (ka : Int))).reverse)⟩ a b := by
  have hka := (List.getElem?_eq_some_iff.1 hxa).1
  have hkb := (List.getElem?_eq_some_iff.1 hxb).1
  have hln := h.len
  have e1 : ∀ k : Nat, decide ((k : Int) ∈ chainI l (ka : Int)) = decide ((a : Int) ∈ allL l k) := fun k => decide_eq_decide.2 (h.inAll (j := k) ha hxa hba).symm
  have e2 : ∀ k : Nat, decide ((k : Int) ∈ chainI l (kb : Int)) = decide ((b : Int) ∈ allL l k) := fun k => decide_eq_decide.2 (h.inAll (j := k) hb hxb hbb).symm
  have l1 := lessL_len (chainI l (ka : Int)) (chainI l (kb : Int))
  have l2 := lessL_len (chainI l (kb : Int)) (chainI l (ka : Int))
  have l3 := chainI_len l (ka : Int)
  have l4 := chainI_len l (kb : Int)
  have dec : ∀ (x : Int) (A B : List Int), decide (x ∈ lessL A B) = (decide (x ∈ A) && !decide (x ∈ B)) := fun x A B => by
    rw [Bool.eq_iff_iff]; simp [lessL_mem]
  refine ⟨rfl, rfl, fun k _ => ?_, fun k _ => ?_, fun i x y hx hy => ?_, fun i x y hx hy => ?_, ?_, ?_, ?_⟩
  · simp only [ol_nilRow]; rw [dec, e1, e2]
  · simp only [ol_nilRow]
    rw [show decide ((k : Int) ∈ (lessL (chainI l (kb : Int)) (chainI l (ka : Int))).reverse) = decide ((k : Int) ∈ lessL (chainI l (kb : Int)) (chainI l (ka : Int))) from decide_eq_decide.2 List.mem_reverse, dec, e1, e2]
  · simp only [ol_nilRow] at hx hy
    exact (lessL_chain h.par (chain_closed h.par kb hkb) ka hka).1.at_ hx hy
  · simp only [ol_nilRow] at hx hy
    have g2 := (List.getElem?_eq_some_iff.1 hy).1
    rw [List.length_reverse] at g2
    rw [List.getElem?_reverse (by omega)] at hx hy
    refine (lessL_chain h.par (chain_closed h.par ka hka) kb hkb).1.at_ hy ?_
    rw [← hx]; congr 1; omega
  · simp only [ol_nilRow, List.length_reverse]
    exact lessL_some h.par hka hkb hne
  · simp only [ol_nilRow]; omega
  · simp only [ol_nilRow, List.length_reverse]; omega
theorem cut_row5 {rs : List RowD} {i : Nat} {r : RowD} (h : rs[i]? = some r) : cut (rs.flatMap RowD.cells) (i * 5) 5 = some [.sc (.int .i64 r.e.f), .sc (.int .i64 r.e.a), .sc (.int .i64 r.e.t), intsV r.lv, intsV r.en] := cut_flat0 (enc := RowD.cells) (sz := 5) (fun _ => rfl) h 5 (by omega)
theorem cut_row3 {rs : List RowD} {i : Nat} {r : RowD} (h : rs[i]? = some r) : cut (rs.flatMap RowD.cells) (i * 5) 3 = some [.sc (.int .i64 r.e.f), .sc (.int .i64 r.e.a), .sc (.int .i64 r.e.t)] := cut_flat0 (enc := RowD.cells) (sz := 5) (fun _ => rfl) h 3 (by omega)
theorem cut_rowt {rs : List RowD} {i : Nat} {r : RowD} (h : rs[i]? = some r) : cut (rs.flatMap RowD.cells) (i * 5 + 2) 1 = some [.sc (.int .i64 r.e.t)] := cut_flat (enc := RowD.cells) (sz := 5) (fun _ => rfl) h 2 1 (by omega)
theorem rowsR_len (o : Option (List RowD)) : lenSV (rowsR o) = some (ol o).length := lenSV_rec o
set_option maxHeartbeats 16000000 in
theorem t_edgeLeaves (f : FuncD) (o : Option (List TileD)) (hw : f.within (2 ^ 47)) (ht : tilesWithin (2 ^ 47) (ol o)) : Tells 3 [f.sv, tilesV o] (.sc (.bool true)) := by
  have hl : f.bl.length ≤ 2 ^ 47 := hw.2.1
  obtain ⟨g, hg1, hg2⟩ := t_great18 f o hw ht
  have hblen : lenSV (blksV f.blocks) = some f.bl.length := lenSV_rec _
  have hlen : lenSV (tilesV o) = some (ol o).length := lenSV_rec o
  have hfit := t_Fits f hl
  have hAll := t_All f hl
  refine tells_fn rfl rfl rfl rfl ?_
  rw [show f.sv = .agg [intsV f.params, blksV f.blocks] from rfl] at *
  repeat (first | (with_reducible refine Nx.go ?_) | ((with_reducible refine Ny.go ?_); (conv => arg 1; simp only [ev, sop, bounds, loI, hiI, fillParts, binSV, intBin, unSV, simprocAttr, ev2, ev3, ev4, recheck, wantedS, SV.same_self, Bool.and_self]); (first | (with_reducible refine Nz.go ?_) | refine Hold_some ?_)))
  refine st_tellp (awake18) ⟨_, rfl, by first | omega | decide⟩ wantedS_none (by simp only [ev, sop, bounds, loI, hiI, fillParts, binSV, intBin, unSV, simprocAttr, ev2, ev3, ev4] <;> rfl) (by first | rfl | simp [pures, SV.pure, *, pure_func, pure_ints, pure_blks, pure_insV, pure_rows, pure_tiles, pure_set, pures_set, pures_tiles, pure_edges, pure_edge, pures_row]) (by first | with_reducible exact recheck_nil | (simp only [recheck, wantedS]; simp only [ev, sop, bounds, loI, hiI, fillParts, binSV, intBin, unSV, simprocAttr, ev2, ev3, ev4]; simp only [SV.same_self, Bool.and_self, beq_self_eq_true])) ?_
  repeat (first | (with_reducible refine Nx.go ?_) | ((with_reducible refine Ny.go ?_); (conv => arg 1; simp only [ev, sop, bounds, loI, hiI, fillParts, binSV, intBin, unSV, simprocAttr, ev2, ev3, ev4, recheck, wantedS, SV.same_self, Bool.and_self]); (first | (with_reducible refine Nz.go ?_) | refine Hold_some ?_)))
  refine st_tellp (hg1) ⟨_, rfl, by first | omega | decide⟩ wantedS_none (by simp only [ev, sop, bounds, loI, hiI, fillParts, binSV, intBin, unSV, simprocAttr, ev2, ev3, ev4] <;> rfl) (by first | rfl | simp [pures, SV.pure, *, pure_func, pure_ints, pure_blks, pure_insV, pure_rows, pure_tiles, pure_set, pures_set, pures_tiles, pure_edges, pure_edge, pures_row]) (by first | with_reducible exact recheck_nil | (simp only [recheck, wantedS]; simp only [ev, sop, bounds, loI, hiI, fillParts, binSV, intBin, unSV, simprocAttr, ev2, ev3, ev4]; simp only [SV.same_self, Bool.and_self, beq_self_eq_true])) ?_
  cases g with
  | true =>
    repeat (first | (with_reducible refine Nx.go ?_) | ((with_reducible refine Ny.go ?_); (conv => arg 1; simp only [ev, sop, bounds, loI, hiI, fillParts, binSV, intBin, unSV, simprocAttr, ev2, ev3, ev4, recheck, wantedS, SV.same_self, Bool.and_self]); (first | (with_reducible refine Nz.go ?_) | refine Hold_some ?_)))
    (refine Hold1_of ?_; (conv => arg 1; simp only [ev, sop, bounds, loI, hiI, fillParts, binSV, intBin, unSV, simprocAttr, ev2, ev3, ev4, resultsSV, resMany, resOne]); refine Hold1_some ?_)
    exact frz_of_pure rfl
  | false =>
  obtain ⟨hw2, ht2, _⟩ := hg2 rfl
  have ht30 : tilesWithin (2 ^ 30) (ol o) := ⟨by have := ht2.1; omega, fun t h => by have := ht2.2 t h; omega⟩
  have htot : (blocksOf (ol o)).length ≤ 2 ^ 34 := by
    have h1 := blocksOf_len18 ht2.2
    have h2 := Nat.mul_le_mul_right 90 ht2.1
    omega
  obtain ⟨rb, eb, hB1, hB2⟩ := t_Between (f := f) (o := o) hl ht30 htot
  obtain ⟨ro, eo, hO1, hO2, hO3⟩ := t_Own f o hl ht
  obtain ⟨rr, hR1, hR2⟩ := t_Right f o hl ht30 htot
  rw [show f.sv = .agg [intsV f.params, blksV f.blocks] from rfl] at *
  rcases hB2 with ⟨hf, rfl, rfl⟩ | ⟨hf, hnR, rfl, rfl⟩ | ⟨hR, rfl, out, hO, hrb⟩
  · have hB := FuncD.fitsB_no hf
    have hB1 : Tells _ _ (.tup [.sc .nilsl, .sc (.int .i64 2)]) := hB1
    have e1 : ((2 : Int) != 0) = true := rfl
    have e2 : ((2 : Int) == 2) = true := rfl
    have e3 : ((0 : Int) == 0) = true := rfl
    repeat (first | (with_reducible refine Nx.go ?_) | ((with_reducible refine Ny.go ?_); (conv => arg 1; simp only [ev, sop, bounds, loI, hiI, fillParts, binSV, intBin, unSV, simprocAttr, ev2, ev3, ev4, recheck, wantedS, SV.same_self, Bool.and_self]); (first | (with_reducible refine Nz.go ?_) | refine Hold_some ?_)))
    refine st_tellp (hB1) ⟨_, rfl, by first | omega | decide⟩ wantedS_none (by simp only [ev, sop, bounds, loI, hiI, fillParts, binSV, intBin, unSV, simprocAttr, ev2, ev3, ev4] <;> rfl) (by first | rfl | simp [pures, SV.pure, *, pure_func, pure_ints, pure_blks, pure_insV, pure_rows, pure_tiles, pure_set, pures_set, pures_tiles, pure_edges, pure_edge, pures_row]) (by first | with_reducible exact recheck_nil | (simp only [recheck, wantedS]; simp only [ev, sop, bounds, loI, hiI, fillParts, binSV, intBin, unSV, simprocAttr, ev2, ev3, ev4]; simp only [SV.same_self, Bool.and_self, beq_self_eq_true])) ?_
    repeat (first | (with_reducible refine Nx.go ?_) | ((with_reducible refine Ny.go ?_); (conv => arg 1; simp only [ev, sop, bounds, loI, hiI, fillParts, binSV, intBin, unSV, simprocAttr, ev2, ev3, ev4, recheck, wantedS, SV.same_self, Bool.and_self]); (first | (with_reducible refine Nz.go ?_) | refine Hold_some ?_)))
    refine st_tellp (hO1) ⟨_, rfl, by first | omega | decide⟩ wantedS_none (by simp only [ev, sop, bounds, loI, hiI, fillParts, binSV, intBin, unSV, simprocAttr, ev2, ev3, ev4] <;> rfl) (by first | rfl | simp [pures, SV.pure, *, pure_func, pure_ints, pure_blks, pure_insV, pure_rows, pure_tiles, pure_set, pures_set, pures_tiles, pure_edges, pure_edge, pures_row]) (by first | with_reducible exact recheck_nil | (simp only [recheck, wantedS]; simp only [ev, sop, bounds, loI, hiI, fillParts, binSV, intBin, unSV, simprocAttr, ev2, ev3, ev4]; simp only [SV.same_self, Bool.and_self, beq_self_eq_true])) ?_
    repeat (first | (with_reducible refine Nx.go ?_) | ((with_reducible refine Ny.go ?_); (conv => arg 1; simp only [ev, sop, bounds, loI, hiI, fillParts, binSV, intBin, unSV, simprocAttr, ev2, ev3, ev4, e1, e2, e3, recheck, wantedS, SV.same_self, Bool.and_self]); (first | (with_reducible refine Nz.go ?_) | refine Hold_some ?_)))
    refine st_tellp (hfit) ⟨_, rfl, by first | omega | decide⟩ wantedS_none (by simp only [ev, sop, bounds, loI, hiI, fillParts, binSV, intBin, unSV, simprocAttr, ev2, ev3, ev4] <;> rfl) (by first | rfl | simp [pures, SV.pure, *, pure_func, pure_ints, pure_blks, pure_insV, pure_rows, pure_tiles, pure_set, pures_set, pures_tiles, pure_edges, pure_edge, pures_row]) (by first | with_reducible exact recheck_nil | (simp only [recheck, wantedS]; simp only [ev, sop, bounds, loI, hiI, fillParts, binSV, intBin, unSV, simprocAttr, ev2, ev3, ev4]; simp only [SV.same_self, Bool.and_self, beq_self_eq_true])) ?_
    repeat (first | (with_reducible refine Nx.go ?_) | ((with_reducible refine Ny.go ?_); (conv => arg 1; simp only [ev, sop, bounds, loI, hiI, fillParts, binSV, intBin, unSV, simprocAttr, ev2, ev3, ev4, hB, recheck, wantedS, SV.same_self, Bool.and_self]); (first | (with_reducible refine Nz.go ?_) | refine Hold_some ?_)))
    (refine Hold1_of ?_; (conv => arg 1; simp only [ev, sop, bounds, loI, hiI, fillParts, binSV, intBin, unSV, simprocAttr, ev2, ev3, ev4, resultsSV, resMany, resOne]); refine Hold1_some ?_)
    exact frz_of_pure rfl
  · have hB := FuncD.fitsB_iff.2 hf
    have hrr : rr = false := by rw [← Bool.not_eq_true, hR2]; exact hnR
    subst hrr
    have hB1 : Tells _ _ (.tup [.sc .nilsl, .sc (.int .i64 12)]) := hB1
    have e1 : ((12 : Int) != 0) = true := rfl
    have e2 : ((12 : Int) == 2) = false := rfl
    have e3 : ((0 : Int) == 0) = true := rfl
    have e4 : ((12 : Int) == 12) = true := rfl
    repeat (first | (with_reducible refine Nx.go ?_) | ((with_reducible refine Ny.go ?_); (conv => arg 1; simp only [ev, sop, bounds, loI, hiI, fillParts, binSV, intBin, unSV, simprocAttr, ev2, ev3, ev4, recheck, wantedS, SV.same_self, Bool.and_self]); (first | (with_reducible refine Nz.go ?_) | refine Hold_some ?_)))
    refine st_tellp (hB1) ⟨_, rfl, by first | omega | decide⟩ wantedS_none (by simp only [ev, sop, bounds, loI, hiI, fillParts, binSV, intBin, unSV, simprocAttr, ev2, ev3, ev4] <;> rfl) (by first | rfl | simp [pures, SV.pure, *, pure_func, pure_ints, pure_blks, pure_insV, pure_rows, pure_tiles, pure_set, pures_set, pures_tiles, pure_edges, pure_edge, pures_row]) (by first | with_reducible exact recheck_nil | (simp only [recheck, wantedS]; simp only [ev, sop, bounds, loI, hiI, fillParts, binSV, intBin, unSV, simprocAttr, ev2, ev3, ev4]; simp only [SV.same_self, Bool.and_self, beq_self_eq_true])) ?_
    repeat (first | (with_reducible refine Nx.go ?_) | ((with_reducible refine Ny.go ?_); (conv => arg 1; simp only [ev, sop, bounds, loI, hiI, fillParts, binSV, intBin, unSV, simprocAttr, ev2, ev3, ev4, recheck, wantedS, SV.same_self, Bool.and_self]); (first | (with_reducible refine Nz.go ?_) | refine Hold_some ?_)))
    refine st_tellp (hO1) ⟨_, rfl, by first | omega | decide⟩ wantedS_none (by simp only [ev, sop, bounds, loI, hiI, fillParts, binSV, intBin, unSV, simprocAttr, ev2, ev3, ev4] <;> rfl) (by first | rfl | simp [pures, SV.pure, *, pure_func, pure_ints, pure_blks, pure_insV, pure_rows, pure_tiles, pure_set, pures_set, pures_tiles, pure_edges, pure_edge, pures_row]) (by first | with_reducible exact recheck_nil | (simp only [recheck, wantedS]; simp only [ev, sop, bounds, loI, hiI, fillParts, binSV, intBin, unSV, simprocAttr, ev2, ev3, ev4]; simp only [SV.same_self, Bool.and_self, beq_self_eq_true])) ?_
    repeat (first | (with_reducible refine Nx.go ?_) | ((with_reducible refine Ny.go ?_); (conv => arg 1; simp only [ev, sop, bounds, loI, hiI, fillParts, binSV, intBin, unSV, simprocAttr, ev2, ev3, ev4, e1, e2, e3, e4, recheck, wantedS, SV.same_self, Bool.and_self]); (first | (with_reducible refine Nz.go ?_) | refine Hold_some ?_)))
    refine st_tellp (hR1) ⟨_, rfl, by first | omega | decide⟩ wantedS_none (by simp only [ev, sop, bounds, loI, hiI, fillParts, binSV, intBin, unSV, simprocAttr, ev2, ev3, ev4] <;> rfl) (by first | rfl | simp [pures, SV.pure, *, pure_func, pure_ints, pure_blks, pure_insV, pure_rows, pure_tiles, pure_set, pures_set, pures_tiles, pure_edges, pure_edge, pures_row]) (by first | with_reducible exact recheck_nil | (simp only [recheck, wantedS]; simp only [ev, sop, bounds, loI, hiI, fillParts, binSV, intBin, unSV, simprocAttr, ev2, ev3, ev4]; simp only [SV.same_self, Bool.and_self, beq_self_eq_true])) ?_
    repeat (first | (with_reducible refine Nx.go ?_) | ((with_reducible refine Ny.go ?_); (conv => arg 1; simp only [ev, sop, bounds, loI, hiI, fillParts, binSV, intBin, unSV, simprocAttr, ev2, ev3, ev4, recheck, wantedS, SV.same_self, Bool.and_self]); (first | (with_reducible refine Nz.go ?_) | refine Hold_some ?_)))
    (refine Hold1_of ?_; (conv => arg 1; simp only [ev, sop, bounds, loI, hiI, fillParts, binSV, intBin, unSV, simprocAttr, ev2, ev3, ev4, resultsSV, resMany, resOne]); refine Hold1_some ?_)
    exact frz_of_pure rfl
  obtain ⟨hO4, hO5⟩ := hO2 hR.fits
  cases ro with
  | none => exact absurd hR.parts (hO4.no rfl)
  | some out' =>
  have : out' = out := hO4.uniq hO
  subst this
  have he : eo = 0 := by rw [hO5]; rfl
  subst he
  obtain ⟨_, hol, hoat⟩ := hO.yes out' rfl
  have e0 : ((0 : Int) != 0) = false := rfl
  have hfB := FuncD.fitsB_iff.2 hR.fits
  repeat (first | (with_reducible refine Nx.go ?_) | ((with_reducible refine Ny.go ?_); (conv => arg 1; simp only [ev, sop, bounds, loI, hiI, fillParts, binSV, intBin, unSV, simprocAttr, ev2, ev3, ev4, recheck, wantedS, SV.same_self, Bool.and_self]); (first | (with_reducible refine Nz.go ?_) | refine Hold_some ?_)))
  refine st_tellp (hB1) ⟨_, rfl, by first | omega | decide⟩ wantedS_none (by simp only [ev, sop, bounds, loI, hiI, fillParts, binSV, intBin, unSV, simprocAttr, ev2, ev3, ev4] <;> rfl) (by first | rfl | simp [pures, SV.pure, *, pure_func, pure_ints, pure_blks, pure_insV, pure_rows, pure_tiles, pure_set, pures_set, pures_tiles, pure_edges, pure_edge, pures_row]) (by first | with_reducible exact recheck_nil | (simp only [recheck, wantedS]; simp only [ev, sop, bounds, loI, hiI, fillParts, binSV, intBin, unSV, simprocAttr, ev2, ev3, ev4]; simp only [SV.same_self, Bool.and_self, beq_self_eq_true])) ?_
  repeat (first | (with_reducible refine Nx.go ?_) | ((with_reducible refine Ny.go ?_); (conv => arg 1; simp only [ev, sop, bounds, loI, hiI, fillParts, binSV, intBin, unSV, simprocAttr, ev2, ev3, ev4, recheck, wantedS, SV.same_self, Bool.and_self]); (first | (with_reducible refine Nz.go ?_) | refine Hold_some ?_)))
  refine st_tellp (hO1) ⟨_, rfl, by first | omega | decide⟩ wantedS_none (by simp only [ev, sop, bounds, loI, hiI, fillParts, binSV, intBin, unSV, simprocAttr, ev2, ev3, ev4] <;> rfl) (by first | rfl | simp [pures, SV.pure, *, pure_func, pure_ints, pure_blks, pure_insV, pure_rows, pure_tiles, pure_set, pures_set, pures_tiles, pure_edges, pure_edge, pures_row]) (by first | with_reducible exact recheck_nil | (simp only [recheck, wantedS]; simp only [ev, sop, bounds, loI, hiI, fillParts, binSV, intBin, unSV, simprocAttr, ev2, ev3, ev4]; simp only [SV.same_self, Bool.and_self, beq_self_eq_true])) ?_
  repeat (first | (with_reducible refine Nx.go ?_) | ((with_reducible refine Ny.go ?_); (conv => arg 1; simp only [ev, sop, bounds, loI, hiI, fillParts, binSV, intBin, unSV, simprocAttr, ev2, ev3, ev4, e0, recheck, wantedS, SV.same_self, Bool.and_self]); (first | (with_reducible refine Nz.go ?_) | refine Hold_some ?_)))
  refine st_tellp (hAll) ⟨_, rfl, by first | omega | decide⟩ wantedS_none (by simp only [ev, sop, bounds, loI, hiI, fillParts, binSV, intBin, unSV, simprocAttr, ev2, ev3, ev4] <;> rfl) (by first | rfl | simp [pures, SV.pure, *, pure_func, pure_ints, pure_blks, pure_insV, pure_rows, pure_tiles, pure_set, pures_set, pures_tiles, pure_edges, pure_edge, pures_row]) (by first | with_reducible exact recheck_nil | (simp only [recheck, wantedS]; simp only [ev, sop, bounds, loI, hiI, fillParts, binSV, intBin, unSV, simprocAttr, ev2, ev3, ev4]; simp only [SV.same_self, Bool.and_self, beq_self_eq_true])) ?_
  repeat (first | (with_reducible refine Nx.go ?_) | ((with_reducible refine Ny.go ?_); (conv => arg 1; simp only [ev, sop, bounds, loI, hiI, fillParts, binSV, intBin, unSV, simprocAttr, ev2, ev3, ev4, recheck, wantedS, SV.same_self, Bool.and_self]); (first | (with_reducible refine Nz.go ?_) | refine Hold_some ?_)))
  have hes : ol f.allE = f.edges := by unfold FuncD.allE; rw [if_pos hfB, ol_nilE]
  have hal : lenSV (edgesV f.allE) = some f.edges.length := by rw [← hes]; exact lenSV_rec _
  have hE4 : f.edges.length ≤ 400 := by have := allE_len f; rw [hes] at this; exact this
  obtain ⟨R, hRR⟩ : ∃ R, R = rowsOf (ol o) out' (fun _ => true) f.edges := ⟨_, rfl⟩
  have hrb : rb = nilRs R := by rw [hRR]; exact hrb
  have hRl : R.length ≤ 400 := by rw [hRR]; have := rowsOf_len (ol o) out' (fun _ => true) f.edges; omega
  have hrl : lenSV (rowsR rb) = some R.length := by rw [hrb, rowsR_len, ol_nilRs]
  have hio : intsV (some out') = .lst out'.length 1 (out'.map SV.int) := rfl
  have hn200 := hR.fits.1.2.1
  have hln := hR.len
  have hown : ∀ b : Nat, b < f.bl.length → ∃ (k : Nat) (x : TileD), out'.getD b 0 = (k : Int) ∧ (ol o)[k]? = some x ∧ (b : Int) ∈ ol x.blocks ∧ out'[b]? = some (k : Int) := fun b hb => by
    obtain ⟨k, x, h1, h2, h3⟩ := hoat b hb
    exact ⟨k, x, by rw [List.getD_eq_getElem?_getD, h3]; rfl, h1, h2, h3⟩
  refine WP_blockloop (fun q t σ => ∃ i : Nat, q = f.edges.length - i ∧ i ≤ f.edges.length ∧ getT t 1 = tilesV o ∧ getT t 2 = .ptr 0 0 ∧ getT t 5 = rowsR rb ∧ getT t 7 = intsV (some out') ∧ getT t 9 = edgesV f.allE ∧ getT t 10 = .sc (.int .i64 ((rowsOf (ol o) out' (fun _ => true) (f.edges.take i)).length : Nat)) ∧ getT t 11 = .sc (.int .i64 (i : Int)) ∧ 1 ≤ σ.next ∧ cellsOf σ 0 = some [intsV f.params, blksV f.blocks]) (k0 := f.edges.length)
    ⟨0, by simp, by omega, by simp only [ev, sop, bounds, loI, hiI, fillParts, binSV, intBin, unSV, simprocAttr, ev2, ev3, ev4], by simp only [ev, sop, bounds, loI, hiI, fillParts, binSV, intBin, unSV, simprocAttr, ev2, ev3, ev4], by simp only [ev, sop, bounds, loI, hiI, fillParts, binSV, intBin, unSV, simprocAttr, ev2, ev3, ev4], by simp only [ev, sop, bounds, loI, hiI, fillParts, binSV, intBin, unSV, simprocAttr, ev2, ev3, ev4], by simp only [ev, sop, bounds, loI, hiI, fillParts, binSV, intBin, unSV, simprocAttr, ev2, ev3, ev4], by simp only [ev, sop, bounds, loI, hiI, fillParts, binSV, intBin, unSV, simprocAttr, ev2, ev3, ev4]; rfl, by simp only [ev, sop, bounds, loI, hiI, fillParts, binSV, intBin, unSV, simprocAttr, ev2, ev3, ev4], by simp [next_push], by simp only [ev, sop, bounds, loI, hiI, fillParts, binSV, intBin, unSV, simprocAttr, ev2, ev3, ev4]⟩ ?_
  rintro q t σ ⟨i, rfl, hi, g1, g2, g5, g7, g9, g10, g11, hnx, c0⟩
  by_cases hit : i < f.edges.length
  · have hit' : (i : Int) < (f.edges.length : Int) := by omega
    have hi0 : 0 ≤ (i : Int) := by omega
    obtain ⟨x, hx⟩ := get_of_lt hit
    have hw1 : IntKind.i64.wrap ((i : Int) + 1) = ((i + 1 : Nat) : Int) := by rw [i64_in _ (by omega) (by omega)]; rfl
    obtain ⟨⟨hf0, hf1⟩, ht0, ht1⟩ := hR.fits.edgeV (List.mem_of_getElem? hx)
    obtain ⟨ef, ea, et⟩ := x
    simp only at hf0 hf1 ht0 ht1
    obtain ⟨a, rfl⟩ := Int.eq_ofNat_of_zero_le hf0
    obtain ⟨b, rfl⟩ := Int.eq_ofNat_of_zero_le (show 0 ≤ et by omega)
    obtain ⟨ka, xa, hga, hxa, hba, hka⟩ := hown a (by omega)
    obtain ⟨kb, xb, hgb, hxb, hbb, hkb⟩ := hown b (by omega)
    have hca := cut_intsN hka
    have hcb := cut_intsN hkb
    have ha0 : 0 ≤ (a : Int) := by omega
    have hb0 : 0 ≤ (b : Int) := by omega
    have hal2 : a < out'.length := by omega
    have hbl2 : b < out'.length := by omega
    have hal3 : (a : Int) < (out'.length : Int) := by omega
    have hbl3 : (b : Int) < (out'.length : Int) := by omega
    have hce : cut (f.edges.flatMap EdgeD.cells) (i * 3) 3 = some [.sc (.int .i64 (a : Int)), .sc (.int .i64 ea), .sc (.int .i64 (b : Int))] := cut_flat0 (enc := EdgeD.cells) (sz := 3) (fun _ => rfl) hx 3 (by omega)
    have hve : edgesV f.allE = .lst f.edges.length 3 (f.edges.flatMap EdgeD.cells) := by
      have := rec_of_lt (sz := 3) (enc := EdgeD.cells) (o := f.allE) (k := i) (by rw [hes]; exact hit)
      rw [hes] at this; exact this
    have htk : f.edges.take (i + 1) = f.edges.take i ++ [⟨(a : Int), ea, (b : Int)⟩] := by rw [List.take_add_one, hx]; rfl
    have hat := rowsOf_at (l := ol o) (out := out') (asked := fun _ => true) hx
    rw [← hRR] at hat
    rw [hve] at g9
    have m0 : (0 = σ.next) = False := by simp; omega
    by_cases hkk : ka = kb
    · have hz : ((ka : Int) == (kb : Int)) = true := by rw [hkk]; simp
      have hno : rowOf (ol o) out' (fun _ => true) ⟨(a : Int), ea, (b : Int)⟩ = none := by
        unfold rowOf; rw [if_pos]; left; simp only [Int.toNat_natCast, hga, hgb, hkk]
      repeat (first | (with_reducible refine Nx.go ?_) | ((with_reducible refine Ny.go ?_); (conv => arg 1; simp only [ev, sop, bounds, loI, hiI, fillParts, binSV, intBin, unSV, simprocAttr, ev2, ev3, ev4, g1, g2, g5, g7, g9, g10, g11, hit, hit', hi0, hce, hio, hca, hcb, ha0, hb0, hal2, hbl2, hal3, hbl3, hz, hw1, recheck, wantedS, SV.same_self, Bool.and_self]); (first | (with_reducible refine Nz.go ?_) | refine Hold_some ?_)))
      exact ⟨f.edges.length - (i + 1), by omega, i + 1, rfl, by omega, by simp only [ev, sop, bounds, loI, hiI, fillParts, binSV, intBin, unSV, simprocAttr, ev2, ev3, ev4, g1], by simp only [ev, sop, bounds, loI, hiI, fillParts, binSV, intBin, unSV, simprocAttr, ev2, ev3, ev4, g2], by simp only [ev, sop, bounds, loI, hiI, fillParts, binSV, intBin, unSV, simprocAttr, ev2, ev3, ev4, g5], by simp only [ev, sop, bounds, loI, hiI, fillParts, binSV, intBin, unSV, simprocAttr, ev2, ev3, ev4, g7] <;> rfl, by simp only [ev, sop, bounds, loI, hiI, fillParts, binSV, intBin, unSV, simprocAttr, ev2, ev3, ev4, g9]; exact hve.symm, by simp only [ev, sop, bounds, loI, hiI, fillParts, binSV, intBin, unSV, simprocAttr, ev2, ev3, ev4, g10]; rw [htk, rowsOf_add, hno]; simp, by simp only [ev, sop, bounds, loI, hiI, fillParts, binSV, intBin, unSV, simprocAttr, ev2, ev3, ev4], by simp [next_push, next_set], by simp (disch := first | omega | (simp only [nx_push, nx_set]; done) | (simp only [nx_push, nx_set]; omega)) only [cells_push_ne, cells_push_eq, cells_set_ne, cells_set_eq, c0]⟩
    have hz : ((ka : Int) == (kb : Int)) = false := by rw [beq_eq_false_iff_ne]; omega
    obtain ⟨rw0, hrw0⟩ : ∃ r, r = (⟨⟨(a : Int), ea, (b : Int)⟩, nilRow (lessL (chainI (ol o) (ka : Int)) (chainI (ol o) (kb : Int))), nilRow ((lessL (chainI (ol o) (kb : Int)) (chainI (ol o) (ka : Int))).reverse)⟩ : RowD) := ⟨_, rfl⟩
    have hyes : rowOf (ol o) out' (fun _ => true) ⟨(a : Int), ea, (b : Int)⟩ = some rw0 := by
      unfold rowOf
      simp only [Int.toNat_natCast, hga, hgb]
      rw [if_neg, hrw0]
      rintro (h | h)
      · omega
      · cases h
    have hok : RowOk (ol o) rw0 a b := by rw [hrw0]; exact hR.rowOk (by omega) (by omega) hxa hba hxb hbb hkk
    obtain ⟨at_, hat_⟩ : ∃ n, n = (rowsOf (ol o) out' (fun _ => true) (f.edges.take i)).length := ⟨_, rfl⟩
    rw [← hat_] at g10
    have hRat : R[at_]? = some rw0 := by
      rw [hat, hyes, List.getElem?_append_right (by omega), hat_, Nat.sub_self]; rfl
    have hatl := (List.getElem?_eq_some_iff.1 hRat).1
    have hat1 : ((at_ : Int) == (R.length : Int)) = false := by rw [beq_eq_false_iff_ne]; omega
    have hat2 : (at_ : Int) < (R.length : Int) := by omega
    have hat3 : 0 ≤ (at_ : Int) := by omega
    have hvr : rowsR rb = .lst R.length 5 (R.flatMap RowD.cells) := by
      rw [hrb]; unfold nilRs; rw [if_neg (by intro h; rw [h] at hatl; simp at hatl)]; rfl
    have hc5 := cut_row5 hRat
    have hc3 := cut_row3 hRat
    rw [hok.ha, hok.hb] at hc5 hc3
    have hea : rw0.e.a = ea := by rw [hrw0]
    rw [hea] at hc5 hc3
    have hcr := t_crosses hR.par ht30 htot hok
    rw [show rw0.sv = .agg [.sc (.int .i64 rw0.e.f), .sc (.int .i64 rw0.e.a), .sc (.int .i64 rw0.e.t), intsV rw0.lv, intsV rw0.en] from rfl, hok.ha, hok.hb, hea] at hcr
    have hee := eq_edge ⟨(a : Int), ea, (b : Int)⟩ ⟨(a : Int), ea, (b : Int)⟩
    simp only [decide_true] at hee
    have hwa : IntKind.i64.wrap ((at_ : Int) + 1) = ((at_ + 1 : Nat) : Int) := by rw [i64_in _ (by omega) (by omega)]; rfl
    rw [hvr] at g5
    repeat (first | (with_reducible refine Nx.go ?_) | ((with_reducible refine Ny.go ?_); (conv => arg 1; simp only [ev, sop, bounds, loI, hiI, fillParts, binSV, intBin, unSV, simprocAttr, ev2, ev3, ev4, g1, g2, g5, g7, g9, g10, g11, hit, hit', hi0, hce, hio, hca, hcb, ha0, hb0, hal2, hbl2, hal3, hbl3, hz, hat1, hat2, hat3, hatl, hc5, hc3, hee, recheck, wantedS, SV.same_self, Bool.and_self]); (first | (with_reducible refine Nz.go ?_) | refine Hold_some ?_)))
    refine st_tellp (hcr) ⟨_, rfl, by first | omega | decide⟩ wantedS_none (by simp only [ev, sop, bounds, loI, hiI, fillParts, binSV, intBin, unSV, simprocAttr, ev2, ev3, ev4, g1, g5, g10, hat2, hat3, hatl, hc5] <;> rfl) (by first | rfl | simp [pures, SV.pure, *, pure_func, pure_ints, pure_blks, pure_insV, pure_rows, pure_tiles, pure_set, pures_set, pures_tiles, pure_edges, pure_edge, pures_row]) (by first | with_reducible exact recheck_nil | (simp only [recheck, wantedS]; simp only [ev, sop, bounds, loI, hiI, fillParts, binSV, intBin, unSV, simprocAttr, ev2, ev3, ev4, g1, g5, g10, hat2, hat3, hatl, hc5]; simp only [SV.same_self, Bool.and_self, beq_self_eq_true])) ?_
    repeat (first | (with_reducible refine Nx.go ?_) | ((with_reducible refine Ny.go ?_); (conv => arg 1; simp only [ev, sop, bounds, loI, hiI, fillParts, binSV, intBin, unSV, simprocAttr, ev2, ev3, ev4, g10, g11, hwa, hw1, recheck, wantedS, SV.same_self, Bool.and_self]); (first | (with_reducible refine Nz.go ?_) | refine Hold_some ?_)))
    exact ⟨f.edges.length - (i + 1), by omega, i + 1, rfl, by omega, by simp only [ev, sop, bounds, loI, hiI, fillParts, binSV, intBin, unSV, simprocAttr, ev2, ev3, ev4, g1], by simp only [ev, sop, bounds, loI, hiI, fillParts, binSV, intBin, unSV, simprocAttr, ev2, ev3, ev4, g2], by simp only [ev, sop, bounds, loI, hiI, fillParts, binSV, intBin, unSV, simprocAttr, ev2, ev3, ev4, g5]; exact hvr.symm, by simp only [ev, sop, bounds, loI, hiI, fillParts, binSV, intBin, unSV, simprocAttr, ev2, ev3, ev4, g7] <;> rfl, by simp only [ev, sop, bounds, loI, hiI, fillParts, binSV, intBin, unSV, simprocAttr, ev2, ev3, ev4, g9]; exact hve.symm, by simp only [ev, sop, bounds, loI, hiI, fillParts, binSV, intBin, unSV, simprocAttr, ev2, ev3, ev4]; rw [htk, rowsOf_add, hyes, hat_]; simp, by simp only [ev, sop, bounds, loI, hiI, fillParts, binSV, intBin, unSV, simprocAttr, ev2, ev3, ev4], by simp [next_push, next_set], by simp (disch := first | omega | (simp only [nx_push, nx_set]; done) | (simp only [nx_push, nx_set]; omega)) only [cells_push_ne, cells_push_eq, cells_set_ne, cells_set_eq, c0]⟩
  have hit' : ¬ (i : Int) < (f.edges.length : Int) := by omega
  have hiE : i = f.edges.length := by omega
  subst hiE
  rw [List.take_length, ← hRR] at g10
  repeat (first | (with_reducible refine Nx.go ?_) | ((with_reducible refine Ny.go ?_); (conv => arg 1; simp only [ev, sop, bounds, loI, hiI, fillParts, binSV, intBin, unSV, simprocAttr, ev2, ev3, ev4, g9, g11, hal, hit', recheck, wantedS, SV.same_self, Bool.and_self]); (first | (with_reducible refine Nz.go ?_) | refine Hold_some ?_)))
  -- into and out of all tiles they are all
  have hval : ∀ r ∈ R, ∃ (ka kb : Nat) (xa xb : TileD), out'.getD r.e.f.toNat 0 = (ka : Int) ∧ out'.getD r.e.t.toNat 0 = (kb : Int) ∧ (ol o)[ka]? = some xa ∧ (ol o)[kb]? = some xb := by
    intro r hr
    rw [hRR] at hr
    obtain ⟨h1, _, _⟩ := rowsOf_mem hr
    obtain ⟨⟨hf0, hf1⟩, ht0, ht1⟩ := hR.fits.edgeV h1
    obtain ⟨ka, xa, g1, g2, _⟩ := hown r.e.f.toNat (by omega)
    obtain ⟨kb, xb, g3, g4, _⟩ := hown r.e.t.toNat (by omega)
    exact ⟨ka, kb, xa, xb, g1, g3, g2, g4⟩
  obtain ⟨cT, hcT⟩ : ∃ cT : Nat → Nat, cT = fun k : Nat => (R.filter fun r => decide (out'.getD r.e.t.toNat 0 < (k : Int))).length := ⟨_, rfl⟩
  obtain ⟨cF, hcF⟩ : ∃ cF : Nat → Nat, cF = fun k : Nat => (R.filter fun r => decide (out'.getD r.e.f.toNat 0 < (k : Int))).length := ⟨_, rfl⟩
  have hT0 : cT 0 = 0 := by
    rw [hcT]
    refine List.length_eq_zero_iff.2 (List.filter_eq_nil_iff.2 fun r hr => ?_)
    obtain ⟨ka, kb, _, _, _, h2, _⟩ := hval r hr
    simp only [h2]; simp
  have hF0 : cF 0 = 0 := by
    rw [hcF]
    refine List.length_eq_zero_iff.2 (List.filter_eq_nil_iff.2 fun r hr => ?_)
    obtain ⟨ka, kb, _, _, h1, _⟩ := hval r hr
    simp only [h1]; simp
  have hTl : ∀ k, cT k ≤ R.length := fun k => by rw [hcT]; exact List.length_filter_le _ _
  have hFl : ∀ k, cF k ≤ R.length := fun k => by rw [hcF]; exact List.length_filter_le _ _
  have hTe : cT (ol o).length = R.length := by
    rw [hcT]
    refine congrArg List.length (List.filter_eq_self.2 fun r hr => ?_)
    obtain ⟨ka, kb, xa, xb, _, h2, _, h4⟩ := hval r hr
    have := (List.getElem?_eq_some_iff.1 h4).1
    rw [h2]; simp; omega
  have hFe : cF (ol o).length = R.length := by
    rw [hcF]
    refine congrArg List.length (List.filter_eq_self.2 fun r hr => ?_)
    obtain ⟨ka, kb, xa, xb, h1, _, h3, _⟩ := hval r hr
    have := (List.getElem?_eq_some_iff.1 h3).1
    rw [h1]; simp; omega
  have hTs : ∀ k : Nat, cT (k + 1) = cT k + (R.filter fun r => out'.getD r.e.t.toNat 0 == (k : Int)).length := fun k => by
    rw [hcT]
    have := count_step (fun r : RowD => out'.getD r.e.t.toNat 0) (k : Int) R
    simp only [Int.natCast_add, Int.cast_ofNat_Int] at this ⊢
    exact this
  have hFs : ∀ k : Nat, cF (k + 1) = cF k + (R.filter fun r => out'.getD r.e.f.toNat 0 == (k : Int)).length := fun k => by
    rw [hcF]
    have := count_step (fun r : RowD => out'.getD r.e.f.toNat 0) (k : Int) R
    simp only [Int.natCast_add, Int.cast_ofNat_Int] at this ⊢
    exact this
  refine WP_blockloop (fun q t σ => ∃ k : Nat, q = (ol o).length - k ∧ k ≤ (ol o).length ∧ getT t 1 = tilesV o ∧ getT t 2 = .ptr 0 0 ∧ getT t 5 = rowsR rb ∧ getT t 7 = intsV (some out') ∧ getT t 10 = .sc (.int .i64 (R.length : Nat)) ∧ getT t 13 = .sc (.int .i64 ((cT k + cF k : Nat) : Int)) ∧ getT t 14 = .sc (.int .i64 (k : Int)) ∧ cellsOf σ 0 = some [intsV f.params, blksV f.blocks]) (k0 := (ol o).length)
    ⟨0, by simp, by omega, by simp only [ev, sop, bounds, loI, hiI, fillParts, binSV, intBin, unSV, simprocAttr, ev2, ev3, ev4, g1], by simp only [ev, sop, bounds, loI, hiI, fillParts, binSV, intBin, unSV, simprocAttr, ev2, ev3, ev4, g2], by simp only [ev, sop, bounds, loI, hiI, fillParts, binSV, intBin, unSV, simprocAttr, ev2, ev3, ev4, g5], by simp only [ev, sop, bounds, loI, hiI, fillParts, binSV, intBin, unSV, simprocAttr, ev2, ev3, ev4, g7] <;> rfl, by simp only [ev, sop, bounds, loI, hiI, fillParts, binSV, intBin, unSV, simprocAttr, ev2, ev3, ev4, g10], by rw [hT0, hF0]; simp only [ev, sop, bounds, loI, hiI, fillParts, binSV, intBin, unSV, simprocAttr, ev2, ev3, ev4] <;> rfl, by simp only [ev, sop, bounds, loI, hiI, fillParts, binSV, intBin, unSV, simprocAttr, ev2, ev3, ev4], c0⟩ ?_
  clear g1 g2 g5 g7 g9 g10 g11 hnx c0 hit hit'
  rintro q t σ ⟨k, rfl, hk, g1, g2, g5, g7, g10, g13, g14, c0⟩
  have hTk := hTl k
  have hFk := hFl k
  by_cases hkt : k < (ol o).length
  rotate_left
  · have hkt' : ¬ (k : Int) < ((ol o).length : Int) := by omega
    have hkl : k = (ol o).length := by omega
    rw [hkl, hTe, hFe] at g13
    have e1 : ((R.length : Int) == (R.length : Int)) = true := by simp
    have hw2 : IntKind.i64.wrap (2 * (R.length : Int)) = ((R.length + R.length : Nat) : Int) := by rw [i64_in _ (by omega) (by omega)]; omega
    have e2 : (((R.length + R.length : Nat) : Int) == ((R.length + R.length : Nat) : Int)) = true := by simp
    repeat (first | (with_reducible refine Nx.go ?_) | ((with_reducible refine Ny.go ?_); (conv => arg 1; simp only [ev, sop, bounds, loI, hiI, fillParts, binSV, intBin, unSV, simprocAttr, ev2, ev3, ev4, g1, g5, g10, g13, g14, hlen, hrl, hkt', e1, hw2, e2, recheck, wantedS, SV.same_self, Bool.and_self]); (first | (with_reducible refine Nz.go ?_) | refine Hold_some ?_)))
    (refine Hold1_of ?_; (conv => arg 1; simp only [ev, sop, bounds, loI, hiI, fillParts, binSV, intBin, unSV, simprocAttr, ev2, ev3, ev4, resultsSV, resMany, resOne]); refine Hold1_some ?_)
    exact frz_of_pure rfl
  have hkt' : (k : Int) < ((ol o).length : Int) := by omega
  obtain ⟨ri, ei, hI1, hI2⟩ := t_Into (f := f) (o := o) (k : Int) hl ht30 htot
  obtain ⟨rq, eq, hQ1, hQ2⟩ := t_Out (f := f) (o := o) (k : Int) hl ht30 htot
  rcases hI2 with ⟨hf, _⟩ | ⟨_, hnR, _⟩ | ⟨_, rfl, out2, hOa, hri⟩
  · exact absurd hR.fits hf
  · exact absurd hR hnR
  rcases hQ2 with ⟨hf, _⟩ | ⟨_, hnR, _⟩ | ⟨_, rfl, out3, hOb, hrq⟩
  · exact absurd hR.fits hf
  · exact absurd hR hnR
  have := hOa.uniq hO
  subst this
  have := hOb.uniq hO
  subst this
  obtain ⟨RI, hRI⟩ : ∃ RI, RI = rowsOf (ol o) out3 (fun e => out3.getD e.t.toNat 0 == (k : Int)) f.edges := ⟨_, rfl⟩
  obtain ⟨RQ, hRQ⟩ : ∃ RQ, RQ = rowsOf (ol o) out3 (fun e => out3.getD e.f.toNat 0 == (k : Int)) f.edges := ⟨_, rfl⟩
  have hri : ri = nilRs RI := by rw [hRI]; exact hri
  have hrq : rq = nilRs RQ := by rw [hRQ]; exact hrq
  have hRIl : RI.length = (R.filter fun r => out3.getD r.e.t.toNat 0 == (k : Int)).length := by rw [hRI, rowsOf_filter, ← hRR]
  have hRQl : RQ.length = (R.filter fun r => out3.getD r.e.f.toNat 0 == (k : Int)).length := by rw [hRQ, rowsOf_filter, ← hRR]
  have hTs' := hTs k
  have hFs' := hFs k
  rw [← hRIl] at hTs'
  rw [← hRQl] at hFs'
  have hTk1 := hTl (k + 1)
  have hFk1 := hFl (k + 1)
  have hil : lenSV (rowsR ri) = some RI.length := by rw [hri, rowsR_len, ol_nilRs]
  have hql : lenSV (rowsR rq) = some RQ.length := by rw [hrq, rowsR_len, ol_nilRs]
  have hwA : IntKind.i64.wrap (((cT k + cF k : Nat) : Int) + (RI.length : Int)) = ((cT k + cF k + RI.length : Nat) : Int) := by rw [i64_in _ (by omega) (by omega)]; omega
  have hwB : IntKind.i64.wrap (((cT k + cF k + RI.length : Nat) : Int) + (RQ.length : Int)) = ((cT (k + 1) + cF (k + 1) : Nat) : Int) := by rw [i64_in _ (by omega) (by omega)]; omega
  rw [show f.sv = .agg [intsV f.params, blksV f.blocks] from rfl] at *
  repeat (first | (with_reducible refine Nx.go ?_) | ((with_reducible refine Ny.go ?_); (conv => arg 1; simp only [ev, sop, bounds, loI, hiI, fillParts, binSV, intBin, unSV, simprocAttr, ev2, ev3, ev4, g1, g2, g14, c0, hlen, hkt', recheck, wantedS, SV.same_self, Bool.and_self]); (first | (with_reducible refine Nz.go ?_) | refine Hold_some ?_)))
  refine st_tellp (hI1) ⟨_, rfl, by first | omega | decide⟩ wantedS_none (by simp only [ev, sop, bounds, loI, hiI, fillParts, binSV, intBin, unSV, simprocAttr, ev2, ev3, ev4, g1, g2, g14, c0] <;> rfl) (by first | rfl | simp [pures, SV.pure, *, pure_func, pure_ints, pure_blks, pure_insV, pure_rows, pure_tiles, pure_set, pures_set, pures_tiles, pure_edges, pure_edge, pures_row]) (by first | with_reducible exact recheck_nil | (simp only [recheck, wantedS]; simp only [ev, sop, bounds, loI, hiI, fillParts, binSV, intBin, unSV, simprocAttr, ev2, ev3, ev4, g1, g2, g14, c0]; simp only [SV.same_self, Bool.and_self, beq_self_eq_true])) ?_
  repeat (first | (with_reducible refine Nx.go ?_) | ((with_reducible refine Ny.go ?_); (conv => arg 1; simp only [ev, sop, bounds, loI, hiI, fillParts, binSV, intBin, unSV, simprocAttr, ev2, ev3, ev4, g1, g2, g14, c0, recheck, wantedS, SV.same_self, Bool.and_self]); (first | (with_reducible refine Nz.go ?_) | refine Hold_some ?_)))
  refine st_tellp (hQ1) ⟨_, rfl, by first | omega | decide⟩ wantedS_none (by simp only [ev, sop, bounds, loI, hiI, fillParts, binSV, intBin, unSV, simprocAttr, ev2, ev3, ev4, g1, g2, g14, c0] <;> rfl) (by first | rfl | simp [pures, SV.pure, *, pure_func, pure_ints, pure_blks, pure_insV, pure_rows, pure_tiles, pure_set, pures_set, pures_tiles, pure_edges, pure_edge, pures_row]) (by first | with_reducible exact recheck_nil | (simp only [recheck, wantedS]; simp only [ev, sop, bounds, loI, hiI, fillParts, binSV, intBin, unSV, simprocAttr, ev2, ev3, ev4, g1, g2, g14, c0]; simp only [SV.same_self, Bool.and_self, beq_self_eq_true])) ?_
  repeat (first | (with_reducible refine Nx.go ?_) | ((with_reducible refine Ny.go ?_); (conv => arg 1; simp only [ev, sop, bounds, loI, hiI, fillParts, binSV, intBin, unSV, simprocAttr, ev2, ev3, ev4, g13, e0, hil, hql, hwA, hwB, recheck, wantedS, SV.same_self, Bool.and_self]); (first | (with_reducible refine Nz.go ?_) | refine Hold_some ?_)))
  refine WP_blockloop (fun q t σ => ∃ i : Nat, q = RI.length - i ∧ i ≤ RI.length ∧ getT t 1 = tilesV o ∧ getT t 2 = .ptr 0 0 ∧ getT t 5 = rowsR rb ∧ getT t 7 = intsV (some out3) ∧ getT t 10 = .sc (.int .i64 (R.length : Nat)) ∧ getT t 13 = .sc (.int .i64 ((cT (k + 1) + cF (k + 1) : Nat) : Int)) ∧ getT t 14 = .sc (.int .i64 (k : Int)) ∧ getT t 15 = rowsR ri ∧ getT t 19 = .sc (.int .i64 (i : Int)) ∧ cellsOf σ 0 = some [intsV f.params, blksV f.blocks]) (k0 := RI.length)
    ⟨0, by simp, by omega, by simp only [ev, sop, bounds, loI, hiI, fillParts, binSV, intBin, unSV, simprocAttr, ev2, ev3, ev4, g1], by simp only [ev, sop, bounds, loI, hiI, fillParts, binSV, intBin, unSV, simprocAttr, ev2, ev3, ev4, g2], by simp only [ev, sop, bounds, loI, hiI, fillParts, binSV, intBin, unSV, simprocAttr, ev2, ev3, ev4, g5], by simp only [ev, sop, bounds, loI, hiI, fillParts, binSV, intBin, unSV, simprocAttr, ev2, ev3, ev4, g7] <;> rfl, by simp only [ev, sop, bounds, loI, hiI, fillParts, binSV, intBin, unSV, simprocAttr, ev2, ev3, ev4, g10], by simp only [ev, sop, bounds, loI, hiI, fillParts, binSV, intBin, unSV, simprocAttr, ev2, ev3, ev4], by simp only [ev, sop, bounds, loI, hiI, fillParts, binSV, intBin, unSV, simprocAttr, ev2, ev3, ev4, g14], by simp only [ev, sop, bounds, loI, hiI, fillParts, binSV, intBin, unSV, simprocAttr, ev2, ev3, ev4], by simp only [ev, sop, bounds, loI, hiI, fillParts, binSV, intBin, unSV, simprocAttr, ev2, ev3, ev4], c0⟩ ?_
  clear g1 g2 g5 g7 g10 g13 g14 c0
  rintro q t σ ⟨i, rfl, hi, g1, g2, g5, g7, g10, g13, g14, g15, g19, c0⟩
  by_cases hit : i < RI.length
  · have hit' : (i : Int) < (RI.length : Int) := by omega
    have hi0 : 0 ≤ (i : Int) := by omega
    have hw1 : IntKind.i64.wrap ((i : Int) + 1) = ((i + 1 : Nat) : Int) := by rw [i64_in _ (by omega) (by omega)]; rfl
    obtain ⟨r, hr⟩ := get_of_lt hit
    have hrm := List.mem_of_getElem? hr
    rw [hRI] at hrm
    obtain ⟨hm1, hm2, _⟩ := rowsOf_mem hrm
    obtain ⟨⟨hf0, hf1⟩, ht0, ht1⟩ := hR.fits.edgeV hm1
    obtain ⟨b, hb⟩ := Int.eq_ofNat_of_zero_le (show 0 ≤ r.e.t by omega)
    obtain ⟨kb, xb, hgb, _, _, hkb⟩ := hown b (by omega)
    have hkk : kb = k := by
      rw [hb, Int.toNat_natCast, hgb] at hm2
      have : (kb : Int) = (k : Int) := by simpa using hm2
      omega
    have hcb := cut_intsN hkb
    have hct := cut_rowt hr
    rw [hb] at hct
    rw [hkk] at hcb
    have hb0 : 0 ≤ (b : Int) := by omega
    have hbl2 : b < out3.length := by omega
    have hbl3 : (b : Int) < (out3.length : Int) := by omega
    have hne : ((k : Int) != (k : Int)) = false := by simp
    have hvr : rowsR ri = .lst RI.length 5 (RI.flatMap RowD.cells) := by
      rw [hri]; unfold nilRs; rw [if_neg (by intro h; rw [h] at hit; simp at hit)]; rfl
    rw [hvr] at g15
    repeat (first | (with_reducible refine Nx.go ?_) | ((with_reducible refine Ny.go ?_); (conv => arg 1; simp only [ev, sop, bounds, loI, hiI, fillParts, binSV, intBin, unSV, simprocAttr, ev2, ev3, ev4, g1, g7, g14, g15, g19, hio, hit, hit', hi0, hct, hb0, hbl2, hbl3, hcb, hne, hw1, recheck, wantedS, SV.same_self, Bool.and_self]); (first | (with_reducible refine Nz.go ?_) | refine Hold_some ?_)))
    exact ⟨RI.length - (i + 1), by omega, i + 1, rfl, by omega, by simp only [ev, sop, bounds, loI, hiI, fillParts, binSV, intBin, unSV, simprocAttr, ev2, ev3, ev4, g1], by simp only [ev, sop, bounds, loI, hiI, fillParts, binSV, intBin, unSV, simprocAttr, ev2, ev3, ev4, g2], by simp only [ev, sop, bounds, loI, hiI, fillParts, binSV, intBin, unSV, simprocAttr, ev2, ev3, ev4, g5], by simp only [ev, sop, bounds, loI, hiI, fillParts, binSV, intBin, unSV, simprocAttr, ev2, ev3, ev4, g7] <;> rfl, by simp only [ev, sop, bounds, loI, hiI, fillParts, binSV, intBin, unSV, simprocAttr, ev2, ev3, ev4, g10], by simp only [ev, sop, bounds, loI, hiI, fillParts, binSV, intBin, unSV, simprocAttr, ev2, ev3, ev4, g13], by simp only [ev, sop, bounds, loI, hiI, fillParts, binSV, intBin, unSV, simprocAttr, ev2, ev3, ev4, g14], by simp only [ev, sop, bounds, loI, hiI, fillParts, binSV, intBin, unSV, simprocAttr, ev2, ev3, ev4, g15]; exact hvr.symm, by simp only [ev, sop, bounds, loI, hiI, fillParts, binSV, intBin, unSV, simprocAttr, ev2, ev3, ev4], c0⟩
  have hit' : ¬ (i : Int) < (RI.length : Int) := by omega
  have hw1 : IntKind.i64.wrap ((k : Int) + 1) = ((k + 1 : Nat) : Int) := by rw [i64_in _ (by omega) (by omega)]; rfl
  repeat (first | (with_reducible refine Nx.go ?_) | ((with_reducible refine Ny.go ?_); (conv => arg 1; simp only [ev, sop, bounds, loI, hiI, fillParts, binSV, intBin, unSV, simprocAttr, ev2, ev3, ev4, g14, g15, g19, hil, hit', hw1, recheck, wantedS, SV.same_self, Bool.and_self]); (first | (with_reducible refine Nz.go ?_) | refine Hold_some ?_)))
  exact ⟨(ol o).length - (k + 1), by omega, k + 1, rfl, by omega, by simp only [ev, sop, bounds, loI, hiI, fillParts, binSV, intBin, unSV, simprocAttr, ev2, ev3, ev4, g1], by simp only [ev, sop, bounds, loI, hiI, fillParts, binSV, intBin, unSV, simprocAttr, ev2, ev3, ev4, g2], by simp only [ev, sop, bounds, loI, hiI, fillParts, binSV, intBin, unSV, simprocAttr, ev2, ev3, ev4, g5], by simp only [ev, sop, bounds, loI, hiI, fillParts, binSV, intBin, unSV, simprocAttr, ev2, ev3, ev4, g7] <;> rfl, by simp only [ev, sop, bounds, loI, hiI, fillParts, binSV, intBin, unSV, simprocAttr, ev2, ev3, ev4, g10], by simp only [ev, sop, bounds, loI, hiI, fillParts, binSV, intBin, unSV, simprocAttr, ev2, ev3, ev4, g13], by simp only [ev, sop, bounds, loI, hiI, fillParts, binSV, intBin, unSV, simprocAttr, ev2, ev3, ev4], c0⟩
end Go.Proofs.Ytojjhcgbbmknmaa.Sh
