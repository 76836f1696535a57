/- All edges, as they are told; ends; spots. -/
import Derived.Test.YtojjhcgbbmknmaaShT6
namespace Go.Proofs.Ytojjhcgbbmknmaa.Sh
set_option linter.unusedSimpArgs false
set_option linter.unusedVariables false
open Go Go.Proofs

theorem pure_edge (e : EdgeD) : e.sv.pure = true := rfl
theorem pures_edge (e : EdgeD) : pures e.cells = true := rfl
def edgesV : Option (List EdgeD) → SV := recV 3 EdgeD.cells
theorem pure_edges (o : Option (List EdgeD)) : (edgesV o).pure = true := pure_rec pures_edge o
theorem ev3 : (∀ o, (edgesV o).flat = [edgesV o]) ∧ (∀ o, (edgesV o).lay = true) ∧ (∀ o, (edgesV o).one = true) ∧ (∀ o, lenSV (edgesV o) = some (ol o).length) := ⟨flat_recV, lay_recV, one_recV, lenSV_rec⟩
def nilE {α : Type} (l : List α) : Option (List α) := match l with
  | [] => none
  | l => some l
theorem ol_nilE {α : Type} (l : List α) : ol (nilE l) = l := by cases l <;> rfl
theorem eq_edge (e e' : EdgeD) : eqSV 6 3 (.agg [.sc (.int .i64 e.f), .sc (.int .i64 e.a), .sc (.int .i64 e.t)]) (.agg [.sc (.int .i64 e'.f), .sc (.int .i64 e'.a), .sc (.int .i64 e'.t)]) = some (decide (e = e')) := by
  obtain ⟨a, b, c⟩ := e
  obtain ⟨a', b', c'⟩ := e'
  show eqCells 2 _ _ = _
  by_cases h1 : a = a' <;> by_cases h2 : b = b' <;> by_cases h3 : c = c' <;> simp [eqCells, h1, h2, h3]

theorem edgesTo_len (f : FuncD) : ∀ n, (f.edgesTo n).length ≤ 2 * n
  | 0 => by simp [FuncD.edgesTo]
  | n + 1 => by
    have h := edgesTo_len f n
    have e : f.edgesTo (n + 1) = f.edgesTo n ++ edgesB n (ol (f.to.getD n none)) := by
      unfold FuncD.edgesTo; rw [List.range_succ, List.flatMap_append]; simp
    rw [e, List.length_append, edgesB_len]
    have : (ol (f.to.getD n none)).length ≤ 2 := by
      rw [List.getD_eq_getElem?_getD]
      cases e : f.to[n]? with
      | none => simp [ol]
      | some r =>
        obtain ⟨b, _, rfl⟩ := List.mem_map.1 (List.mem_of_getElem? e)
        exact term_to_len b.term
    omega

theorem c_each {m : Nat} {f : FuncD} {σ : St} : WPF (EV m) 40 [f.sv] σ (fun v σ' => v = .fn 75 [] [.ptr σ.next 0] ∧ σ' = σ.push (.cells f.cells)) := by
  refine inline_fn rfl rfl rfl ?_
  unfold FuncD.sv
  repeat (first | (with_reducible refine Nx.go ?_) | ((with_reducible refine Ny.go ?_); (conv => arg 1; simp only [ev, sop, bounds, loI, hiI, fillParts, binSV, intBin, unSV, simprocAttr, ev2, ev3, recheck, wantedS, SV.same_self, Bool.and_self]); (first | (with_reducible refine Nz.go ?_) | refine Hold_some ?_)))
  (refine Hold1_of ?_; (conv => arg 1; simp only [ev, sop, bounds, loI, hiI, fillParts, binSV, intBin, unSV, simprocAttr, ev2, ev3, resultsSV, resMany, resOne]); refine Hold1_some ?_)
  exact ⟨rfl, rfl⟩

theorem c_collectE {m : Nat} {g : Nat} {first cap : List SV} {es : List EdgeD} {dom : St → Prop} {σ : St} (hit : Iter m g first cap (es.map EdgeD.sv) dom) (hdom : ∀ σ', Keeps σ σ' → dom σ') (hlen : es.length ≤ 2 ^ 30) :
    WPF (EV m) 39 [.fn g first cap] σ (fun v σ' => Keeps σ σ' ∧ ((es = [] ∧ v = .sc .nilsl) ∨ ∃ id, es ≠ [] ∧ v = .sl id 0 es.length 3 ∧ σ.next ≤ id ∧ id < σ'.next ∧ cellsOf σ' id = some (es.flatMap EdgeD.cells))) := by
  refine inline_fn rfl rfl rfl ?_
  repeat (first | (with_reducible refine Nx.go ?_) | ((with_reducible refine Ny.go ?_); (conv => arg 1; simp only [ev, sop, bounds, loI, hiI, fillParts, binSV, intBin, unSV, simprocAttr, ev2, ev3, recheck, wantedS, SV.same_self, Bool.and_self]); (first | (with_reducible refine Nz.go ?_) | refine Hold_some ?_)))
  refine st_callf (by first | with_reducible exact wantedS_none | (refine wantedS_some ?_; simp only [ev, sop, bounds, loI, hiI, fillParts, binSV, intBin, unSV, simprocAttr, ev2, ev3]; done)) (by simp only [ev, sop, bounds, loI, hiI, fillParts, binSV, intBin, unSV, simprocAttr, ev2, ev3] <;> rfl) (by simp only [ev, sop, bounds, loI, hiI, fillParts, binSV, intBin, unSV, simprocAttr, ev2, ev3] <;> rfl) ?_
  refine (c_appendSeqE hit hdom hlen).mono ?_
  rintro v σ' h
  refine ⟨recheck_nil, ?_⟩
  repeat (first | (with_reducible refine Nx.go ?_) | ((with_reducible refine Ny.go ?_); (conv => arg 1; simp only [ev, sop, bounds, loI, hiI, fillParts, binSV, intBin, unSV, simprocAttr, ev2, ev3, recheck, wantedS, SV.same_self, Bool.and_self]); (first | (with_reducible refine Nz.go ?_) | refine Hold_some ?_)))
  (refine Hold1_of ?_; (conv => arg 1; simp only [ev, sop, bounds, loI, hiI, fillParts, binSV, intBin, unSV, simprocAttr, ev2, ev3, resultsSV, resMany, resOne]); refine Hold1_some ?_)
  exact h

theorem frz_rec {α : Type} {enc : α → List SV} {sz : Nat} (he : ∀ x, (enc x).length = sz) (hp : ∀ x, pures (enc x) = true) {σ : St} {id : Nat} {l : List α} (h : cellsOf σ id = some (l.flatMap enc)) : frz σ 20 (.sl id 0 l.length sz) = some (recV sz enc (some l)) :=
  frz_sl h (cut_whole (flat_len he l).symm) (pures_flat hp l)

noncomputable def FuncD.allE (f : FuncD) : Option (List EdgeD) := if f.fitsB = true then nilE f.edges else none
theorem t_All (f : FuncD) (hl : f.bl.length ≤ 2 ^ 47) : Tells 13 [f.sv] (edgesV f.allE) := by
  refine tells_fn rfl rfl rfl ?_
  rw [show f.sv = .agg [intsV f.params, blksV f.blocks] from rfl]
  repeat (first | (with_reducible refine Nx.go ?_) | ((with_reducible refine Ny.go ?_); (conv => arg 1; simp only [ev, sop, bounds, loI, hiI, fillParts, binSV, intBin, unSV, simprocAttr, ev2, ev3, recheck, wantedS, SV.same_self, Bool.and_self]); (first | (with_reducible refine Nz.go ?_) | refine Hold_some ?_)))
  refine st_tellp (t_Fits f hl) ⟨_, rfl, by first | omega | decide⟩ (by first | with_reducible exact wantedS_none | (refine wantedS_some ?_; simp only [ev, sop, bounds, loI, hiI, fillParts, binSV, intBin, unSV, simprocAttr, ev2, ev3]; done)) (by simp only [ev, sop, bounds, loI, hiI, fillParts, binSV, intBin, unSV, simprocAttr, ev2, ev3] <;> rfl) (by first | rfl | simp [pures, SV.pure, *, pure_func, pure_ints, pure_blks, pure_insV, pure_rows, pure_edges, pure_edge]) (by first | with_reducible exact recheck_nil | (simp only [recheck, wantedS]; simp only [ev, sop, bounds, loI, hiI, fillParts, binSV, intBin, unSV, simprocAttr, ev2, ev3]; simp only [SV.same_self, Bool.and_self])) ?_
  cases hf : f.fitsB with
  | false =>
    repeat (first | (with_reducible refine Nx.go ?_) | ((with_reducible refine Ny.go ?_); (conv => arg 1; simp only [ev, sop, bounds, loI, hiI, fillParts, binSV, intBin, unSV, simprocAttr, ev2, ev3, hf, recheck, wantedS, SV.same_self, Bool.and_self]); (first | (with_reducible refine Nz.go ?_) | refine Hold_some ?_)))
    (refine Hold1_of ?_; (conv => arg 1; simp only [ev, sop, bounds, loI, hiI, fillParts, binSV, intBin, unSV, simprocAttr, ev2, ev3, resultsSV, resMany, resOne]); refine Hold1_some ?_)
    simp [FuncD.allE, hf, edgesV, recV, frz, SV.pure]
  | true =>
    have h200 := (FuncD.fitsB_iff.1 hf).1.2.1
    have hle : f.edges.length ≤ 2 ^ 30 := by have := edgesTo_len f f.bl.length; show (f.edgesTo f.bl.length).length ≤ _; omega
    repeat (first | (with_reducible refine Nx.go ?_) | ((with_reducible refine Ny.go ?_); (conv => arg 1; simp only [ev, sop, bounds, loI, hiI, fillParts, binSV, intBin, unSV, simprocAttr, ev2, ev3, hf, recheck, wantedS, SV.same_self, Bool.and_self]); (first | (with_reducible refine Nz.go ?_) | refine Hold_some ?_)))
    refine st_callf (by first | with_reducible exact wantedS_none | (refine wantedS_some ?_; simp only [ev, sop, bounds, loI, hiI, fillParts, binSV, intBin, unSV, simprocAttr, ev2, ev3]; done)) (by simp only [ev, sop, bounds, loI, hiI, fillParts, binSV, intBin, unSV, simprocAttr, ev2, ev3] <;> rfl) (by simp only [ev, sop, bounds, loI, hiI, fillParts, binSV, intBin, unSV, simprocAttr, ev2, ev3] <;> rfl) ?_
    refine (c_each (f := f)).mono ?_
    rintro v σ1 ⟨rfl, rfl⟩
    refine ⟨recheck_nil, ?_⟩
    refine st_callf (by first | with_reducible exact wantedS_none | (refine wantedS_some ?_; simp only [ev, sop, bounds, loI, hiI, fillParts, binSV, intBin, unSV, simprocAttr, ev2, ev3]; done)) (by simp only [ev, sop, bounds, loI, hiI, fillParts, binSV, intBin, unSV, simprocAttr, ev2, ev3] <;> rfl) (by simp only [ev, sop, bounds, loI, hiI, fillParts, binSV, intBin, unSV, simprocAttr, ev2, ev3] <;> rfl) ?_
    refine (c_collectE (it_each (m := 8) (box := 1) f hl (by decide)) (fun σ' hk => (hk.cells (by simp [next_push, next_empty])).trans (by simp only [ev, sop, bounds, loI, hiI, fillParts, binSV, intBin, unSV, simprocAttr, ev2, ev3] <;> rfl)) hle).mono ?_
    rintro v σ2 ⟨hk, h⟩
    refine ⟨recheck_nil, ?_⟩
    repeat (first | (with_reducible refine Nx.go ?_) | ((with_reducible refine Ny.go ?_); (conv => arg 1; simp only [ev, sop, bounds, loI, hiI, fillParts, binSV, intBin, unSV, simprocAttr, ev2, ev3, recheck, wantedS, SV.same_self, Bool.and_self]); (first | (with_reducible refine Nz.go ?_) | refine Hold_some ?_)))
    (refine Hold1_of ?_; (conv => arg 1; simp only [ev, sop, bounds, loI, hiI, fillParts, binSV, intBin, unSV, simprocAttr, ev2, ev3, resultsSV, resMany, resOne]); refine Hold1_some ?_)
    rcases h with ⟨he, rfl⟩ | ⟨id, hne, rfl, _, _, hc⟩
    · simp [FuncD.allE, hf, edgesV, recV, frz, SV.pure, he, nilE]
    · rw [frz_rec (enc := EdgeD.cells) (sz := 3) (fun _ => rfl) pures_edge hc]
      simp only [FuncD.allE, hf, if_true]
      cases he : f.edges with
      | nil => exact absurd he hne
      | cons x l => rfl

theorem edges_of_lt {o : Option (List EdgeD)} {k : Nat} (h : k < (ol o).length) : edgesV o = .lst (ol o).length 3 ((ol o).flatMap EdgeD.cells) := rec_of_lt h
theorem cut_edge {l : List EdgeD} {k : Nat} {e : EdgeD} (h : l[k]? = some e) : cut (l.flatMap EdgeD.cells) (k * 3) 3 = some [.sc (.int .i64 e.f), .sc (.int .i64 e.a), .sc (.int .i64 e.t)] := cut_flat0 (enc := EdgeD.cells) (sz := 3) (fun _ => rfl) h 3 (by omega)

theorem cut_edge0 {l : List EdgeD} {k : Nat} {e : EdgeD} (h : l[k]? = some e) : cut (l.flatMap EdgeD.cells) (k * 3) 1 = some [.sc (.int .i64 e.f)] := cut_flat0 (enc := EdgeD.cells) (sz := 3) (fun _ => rfl) h 1 (by omega)
theorem cut_edge2 {l : List EdgeD} {k : Nat} {e : EdgeD} (h : l[k]? = some e) : cut (l.flatMap EdgeD.cells) (k * 3 + 2) 1 = some [.sc (.int .i64 e.t)] := cut_flat (enc := EdgeD.cells) (sz := 3) (fun _ => rfl) h 2 1 (by omega)
theorem t_indexE (o : Option (List EdgeD)) (e : EdgeD) (hl : (ol o).length ≤ 2 ^ 62) : Tells 98 [edgesV o, e.sv] (.sc (.int .i64 (match (ol o).findIdx? (fun x => decide (e = x)) with | some i => i | none => -1))) := by
  refine tells_fn rfl rfl rfl ?_
  unfold EdgeD.sv EdgeD.cells
  repeat (first | (with_reducible refine Nx.go ?_) | ((with_reducible refine Ny.go ?_); (conv => arg 1; simp only [ev, sop, bounds, loI, hiI, fillParts, binSV, intBin, unSV, simprocAttr, ev2, ev3, recheck, wantedS, SV.same_self, Bool.and_self]); (first | (with_reducible refine Nz.go ?_) | refine Hold_some ?_)))
  refine WP_range (N := (ol o).length) (fun k t σ1 => getT t 0 = edgesV o ∧ getT t 3 = .ptr 0 0 ∧ cellsOf σ1 0 = some [.sc (.int .i64 e.f), .sc (.int .i64 e.a), .sc (.int .i64 e.t)] ∧ ∀ j x, j < k → (ol o)[j]? = some x → e ≠ x) hl (by simp only [ev, sop, bounds, loI, hiI, fillParts, binSV, intBin, unSV, simprocAttr, ev2, ev3]) (by simp only [ev, sop, bounds, loI, hiI, fillParts, binSV, intBin, unSV, simprocAttr, ev2, ev3]) (by decide) ⟨by simp only [ev, sop, bounds, loI, hiI, fillParts, binSV, intBin, unSV, simprocAttr, ev2, ev3], by simp only [ev, sop, bounds, loI, hiI, fillParts, binSV, intBin, unSV, simprocAttr, ev2, ev3], by simp only [ev, sop, bounds, loI, hiI, fillParts, binSV, intBin, unSV, simprocAttr, ev2, ev3], by simp⟩ ?_ ?_
  · rintro k t σ1 hlt h7 h8 ⟨h0, h3, hc, hno⟩
    obtain ⟨x, hx⟩ := get_of_lt hlt
    rw [edges_of_lt hlt] at h0
    have hcx := cut_edge hx
    by_cases he : e = x
    · have hd : decide (e = x) = true := by simp [he]
      repeat (first | (with_reducible refine Nx.go ?_) | ((with_reducible refine Ny.go ?_); (conv => arg 1; simp only [ev, sop, bounds, loI, hiI, fillParts, binSV, intBin, unSV, simprocAttr, ev2, ev3, h0, h3, h8, hlt, hc, hcx, eq_edge, hd, recheck, wantedS, SV.same_self, Bool.and_self]); (first | (with_reducible refine Nz.go ?_) | refine Hold_some ?_)))
      (refine Hold1_of ?_; (conv => arg 1; simp only [ev, sop, bounds, loI, hiI, fillParts, binSV, intBin, unSV, simprocAttr, ev2, ev3, resultsSV, resMany, resOne]); refine Hold1_some ?_)
      rw [frz_of_pure rfl]
      have : (ol o).findIdx? (fun x => decide (e = x)) = some k := by
        rw [List.findIdx?_eq_some_iff_getElem]
        refine ⟨hlt, ?_, fun j hj => ?_⟩
        · rw [(List.getElem?_eq_some_iff.1 hx).2]; exact hd
        · have := hno j (ol o)[j] hj (List.getElem?_eq_getElem (by omega))
          simp [this]
      rw [this]
    · have hd : decide (e = x) = false := by simp [he]
      repeat (first | (with_reducible refine Nx.go ?_) | ((with_reducible refine Ny.go ?_); (conv => arg 1; simp only [ev, sop, bounds, loI, hiI, fillParts, binSV, intBin, unSV, simprocAttr, ev2, ev3, h0, h3, h8, hlt, hc, hcx, eq_edge, hd, recheck, wantedS, SV.same_self, Bool.and_self]); (first | (with_reducible refine Nz.go ?_) | refine Hold_some ?_)))
      refine ⟨by simp only [ev, sop, bounds, loI, hiI, fillParts, binSV, intBin, unSV, simprocAttr, ev2, ev3, h7], by simp only [ev, sop, bounds, loI, hiI, fillParts, binSV, intBin, unSV, simprocAttr, ev2, ev3, h8], fun v w => ⟨by simp only [ev, sop, bounds, loI, hiI, fillParts, binSV, intBin, unSV, simprocAttr, ev2, ev3, h0]; exact (edges_of_lt hlt).symm, by simp only [ev, sop, bounds, loI, hiI, fillParts, binSV, intBin, unSV, simprocAttr, ev2, ev3, h3], hc, fun j y hj hy => ?_⟩⟩
      by_cases ej : j = k
      · subst ej; rw [hx] at hy; cases hy; exact he
      · exact hno j y (by omega) hy
  · rintro t σ1 ⟨h0, h3, hc, hno⟩
    repeat (first | (with_reducible refine Nx.go ?_) | ((with_reducible refine Ny.go ?_); (conv => arg 1; simp only [ev, sop, bounds, loI, hiI, fillParts, binSV, intBin, unSV, simprocAttr, ev2, ev3, recheck, wantedS, SV.same_self, Bool.and_self]); (first | (with_reducible refine Nz.go ?_) | refine Hold_some ?_)))
    (refine Hold1_of ?_; (conv => arg 1; simp only [ev, sop, bounds, loI, hiI, fillParts, binSV, intBin, unSV, simprocAttr, ev2, ev3, resultsSV, resMany, resOne]); refine Hold1_some ?_)
    rw [frz_of_pure rfl]
    have : (ol o).findIdx? (fun x => decide (e = x)) = none := by
      rw [List.findIdx?_eq_none_iff]
      intro x hx
      obtain ⟨j, hj⟩ := List.mem_iff_getElem?.1 hx
      simp [hno j x (List.getElem?_eq_some_iff.1 hj).1 hj]
    rw [this]
theorem t_containsE (o : Option (List EdgeD)) (e : EdgeD) (hl : (ol o).length ≤ 2 ^ 62) : Tells 76 [edgesV o, e.sv] (.sc (.bool (decide (e ∈ ol o)))) := by
  refine tells_fn rfl rfl rfl ?_
  rw [show e.sv = .agg [.sc (.int .i64 e.f), .sc (.int .i64 e.a), .sc (.int .i64 e.t)] from rfl]
  repeat (first | (with_reducible refine Nx.go ?_) | ((with_reducible refine Ny.go ?_); (conv => arg 1; simp only [ev, sop, bounds, loI, hiI, fillParts, binSV, intBin, unSV, simprocAttr, ev2, ev3, recheck, wantedS, SV.same_self, Bool.and_self]); (first | (with_reducible refine Nz.go ?_) | refine Hold_some ?_)))
  refine st_tellp (t_indexE o e hl) ⟨_, rfl, by first | omega | decide⟩ (by first | with_reducible exact wantedS_none | (refine wantedS_some ?_; simp only [ev, sop, bounds, loI, hiI, fillParts, binSV, intBin, unSV, simprocAttr, ev2, ev3]; done)) (by simp only [ev, sop, bounds, loI, hiI, fillParts, binSV, intBin, unSV, simprocAttr, ev2, ev3] <;> rfl) (by first | rfl | simp [pures, SV.pure, *, pure_func, pure_ints, pure_blks, pure_insV, pure_rows, pure_edges, pure_edge]) (by first | with_reducible exact recheck_nil | (simp only [recheck, wantedS]; simp only [ev, sop, bounds, loI, hiI, fillParts, binSV, intBin, unSV, simprocAttr, ev2, ev3]; simp only [SV.same_self, Bool.and_self])) ?_
  repeat (first | (with_reducible refine Nx.go ?_) | ((with_reducible refine Ny.go ?_); (conv => arg 1; simp only [ev, sop, bounds, loI, hiI, fillParts, binSV, intBin, unSV, simprocAttr, ev2, ev3, recheck, wantedS, SV.same_self, Bool.and_self]); (first | (with_reducible refine Nz.go ?_) | refine Hold_some ?_)))
  (refine Hold1_of ?_; (conv => arg 1; simp only [ev, sop, bounds, loI, hiI, fillParts, binSV, intBin, unSV, simprocAttr, ev2, ev3, resultsSV, resMany, resOne]); refine Hold1_some ?_)
  rw [frz_of_pure rfl]
  cases hf : (ol o).findIdx? (fun x => decide (e = x)) with
  | none =>
    rw [List.findIdx?_eq_none_iff] at hf
    have : ¬ e ∈ ol o := fun h => by have := hf e h; simp at this
    simp [this]
  | some i =>
    rw [List.findIdx?_eq_some_iff_getElem] at hf
    obtain ⟨hi, hp, _⟩ := hf
    have he : e = (ol o)[i] := of_decide_eq_true hp
    have : e ∈ ol o := by rw [he]; exact List.getElem_mem hi
    simp [this]

/-- How many of some edges come from where, go to where, one does. -/
def outs (l : List EdgeD) (e : EdgeD) : Nat := (l.filter fun x => decide (x.f = e.f)).length
def ins (l : List EdgeD) (e : EdgeD) : Nat := (l.filter fun x => decide (x.t = e.t)).length
noncomputable def FuncD.outE (f : FuncD) (e : EdgeD) : Nat := if e ∈ ol f.allE then outs (ol f.allE) e else 0
noncomputable def FuncD.inE (f : FuncD) (e : EdgeD) : Nat := if e ∈ ol f.allE then ins (ol f.allE) e else 0
theorem allE_len (f : FuncD) : (ol f.allE).length ≤ 400 := by
  unfold FuncD.allE
  split
  · rename_i h
    rw [ol_nilE]
    have h200 := (FuncD.fitsB_iff.1 h).1.2.1
    have := edgesTo_len f f.bl.length; show (f.edgesTo f.bl.length).length ≤ _; omega
  · simp [ol]
theorem filter_take_succ {α : Type} (p : α → Bool) {l : List α} {k : Nat} {x : α} (h : l[k]? = some x) : ((l.take (k + 1)).filter p).length = ((l.take k).filter p).length + (if p x = true then 1 else 0) := by
  rw [List.take_add_one, h, List.filter_append, List.length_append]
  simp [List.filter_cons]
  split <;> simp

set_option maxHeartbeats 1000000 in
theorem t_ends (f : FuncD) (e : EdgeD) (hl : f.bl.length ≤ 2 ^ 47) : Tells 44 [f.sv, e.sv] (.tup [.sc (.int .i64 (f.outE e : Nat)), .sc (.int .i64 (f.inE e : Nat))]) := by
  refine tells_fn rfl rfl rfl ?_
  rw [show e.sv = .agg [.sc (.int .i64 e.f), .sc (.int .i64 e.a), .sc (.int .i64 e.t)] from rfl, show f.sv = .agg [intsV f.params, blksV f.blocks] from rfl]
  have h400 := allE_len f
  repeat (first | (with_reducible refine Nx.go ?_) | ((with_reducible refine Ny.go ?_); (conv => arg 1; simp only [ev, sop, bounds, loI, hiI, fillParts, binSV, intBin, unSV, simprocAttr, ev2, ev3, recheck, wantedS, SV.same_self, Bool.and_self]); (first | (with_reducible refine Nz.go ?_) | refine Hold_some ?_)))
  refine st_tellp (t_All f hl) ⟨_, rfl, by first | omega | decide⟩ (by first | with_reducible exact wantedS_none | (refine wantedS_some ?_; simp only [ev, sop, bounds, loI, hiI, fillParts, binSV, intBin, unSV, simprocAttr, ev2, ev3]; done)) (by simp only [ev, sop, bounds, loI, hiI, fillParts, binSV, intBin, unSV, simprocAttr, ev2, ev3] <;> rfl) (by first | rfl | simp [pures, SV.pure, *, pure_func, pure_ints, pure_blks, pure_insV, pure_rows, pure_edges, pure_edge]) (by first | with_reducible exact recheck_nil | (simp only [recheck, wantedS]; simp only [ev, sop, bounds, loI, hiI, fillParts, binSV, intBin, unSV, simprocAttr, ev2, ev3]; simp only [SV.same_self, Bool.and_self])) ?_
  repeat (first | (with_reducible refine Nx.go ?_) | ((with_reducible refine Ny.go ?_); (conv => arg 1; simp only [ev, sop, bounds, loI, hiI, fillParts, binSV, intBin, unSV, simprocAttr, ev2, ev3, recheck, wantedS, SV.same_self, Bool.and_self]); (first | (with_reducible refine Nz.go ?_) | refine Hold_some ?_)))
  refine st_tellp (t_containsE f.allE e (by omega)) ⟨_, rfl, by first | omega | decide⟩ (by first | with_reducible exact wantedS_none | (refine wantedS_some ?_; simp only [ev, sop, bounds, loI, hiI, fillParts, binSV, intBin, unSV, simprocAttr, ev2, ev3]; done)) (by simp only [ev, sop, bounds, loI, hiI, fillParts, binSV, intBin, unSV, simprocAttr, ev2, ev3] <;> rfl) (by first | rfl | simp [pures, SV.pure, *, pure_func, pure_ints, pure_blks, pure_insV, pure_rows, pure_edges, pure_edge]) (by first | with_reducible exact recheck_nil | (simp only [recheck, wantedS]; simp only [ev, sop, bounds, loI, hiI, fillParts, binSV, intBin, unSV, simprocAttr, ev2, ev3]; simp only [SV.same_self, Bool.and_self])) ?_
  by_cases he : e ∈ ol f.allE
  rotate_left
  · have hd : decide (e ∈ ol f.allE) = false := by simp [he]
    repeat (first | (with_reducible refine Nx.go ?_) | ((with_reducible refine Ny.go ?_); (conv => arg 1; simp only [ev, sop, bounds, loI, hiI, fillParts, binSV, intBin, unSV, simprocAttr, ev2, ev3, hd, recheck, wantedS, SV.same_self, Bool.and_self]); (first | (with_reducible refine Nz.go ?_) | refine Hold_some ?_)))
    (refine Hold1_of ?_; (conv => arg 1; simp only [ev, sop, bounds, loI, hiI, fillParts, binSV, intBin, unSV, simprocAttr, ev2, ev3, resultsSV, resMany, resOne]); refine Hold1_some ?_)
    simp [frz, SV.pure, pures, FuncD.outE, FuncD.inE, he]
  have hd : decide (e ∈ ol f.allE) = true := by simp [he]
  repeat (first | (with_reducible refine Nx.go ?_) | ((with_reducible refine Ny.go ?_); (conv => arg 1; simp only [ev, sop, bounds, loI, hiI, fillParts, binSV, intBin, unSV, simprocAttr, ev2, ev3, hd, recheck, wantedS, SV.same_self, Bool.and_self]); (first | (with_reducible refine Nz.go ?_) | refine Hold_some ?_)))
  refine WP_range (N := (ol f.allE).length) (fun k t σ1 => getT t 3 = .ptr 1 0 ∧ getT t 15 = edgesV f.allE ∧ cellsOf σ1 1 = some [.sc (.int .i64 e.f), .sc (.int .i64 e.a), .sc (.int .i64 e.t)] ∧ 2 ≤ σ1.next ∧
      getT t 4 = .sc (.int .i64 (outs ((ol f.allE).take k) e : Nat)) ∧ getT t 5 = .sc (.int .i64 (ins ((ol f.allE).take k) e : Nat))) (by omega) (by simp only [ev, sop, bounds, loI, hiI, fillParts, binSV, intBin, unSV, simprocAttr, ev2, ev3]) (by simp only [ev, sop, bounds, loI, hiI, fillParts, binSV, intBin, unSV, simprocAttr, ev2, ev3]) (by decide) ⟨by simp only [ev, sop, bounds, loI, hiI, fillParts, binSV, intBin, unSV, simprocAttr, ev2, ev3], by simp only [ev, sop, bounds, loI, hiI, fillParts, binSV, intBin, unSV, simprocAttr, ev2, ev3], by simp only [ev, sop, bounds, loI, hiI, fillParts, binSV, intBin, unSV, simprocAttr, ev2, ev3], by simp [next_push, next_empty], by simp only [ev, sop, bounds, loI, hiI, fillParts, binSV, intBin, unSV, simprocAttr, ev2, ev3]; rfl, by simp only [ev, sop, bounds, loI, hiI, fillParts, binSV, intBin, unSV, simprocAttr, ev2, ev3]; rfl⟩ ?_ ?_
  · rintro k t σ1 hlt h16 h17 ⟨h3, h15, hc, hnx, h4, h5⟩
    obtain ⟨x, hx⟩ := get_of_lt hlt
    rw [edges_of_lt hlt] at h15
    have hcx := cut_edge hx
    have n1 : (1 = σ1.next) = False := by simp; omega
    have b1 : outs ((ol f.allE).take k) e ≤ 400 := by unfold outs; exact Nat.le_trans (List.length_filter_le _ _) (by simp; omega)
    have b2 : ins ((ol f.allE).take k) e ≤ 400 := by unfold ins; exact Nat.le_trans (List.length_filter_le _ _) (by simp; omega)
    have w1 : IntKind.i64.wrap ((outs ((ol f.allE).take k) e : Nat) + 1 : Int) = ((outs ((ol f.allE).take k) e + 1 : Nat) : Int) := by rw [i64_in _ (by omega) (by omega)]; rfl
    have w2 : IntKind.i64.wrap ((ins ((ol f.allE).take k) e : Nat) + 1 : Int) = ((ins ((ol f.allE).take k) e + 1 : Nat) : Int) := by rw [i64_in _ (by omega) (by omega)]; rfl
    have s1 : outs ((ol f.allE).take (k + 1)) e = outs ((ol f.allE).take k) e + (if decide (x.f = e.f) = true then 1 else 0) := filter_take_succ _ hx
    have s2 : ins ((ol f.allE).take (k + 1)) e = ins ((ol f.allE).take k) e + (if decide (x.t = e.t) = true then 1 else 0) := filter_take_succ _ hx
    have d1 : decide (x.f = e.f) = (x.f == e.f) := by rw [Bool.eq_iff_iff]; simp
    have d2 : decide (x.t = e.t) = (x.t == e.t) := by rw [Bool.eq_iff_iff]; simp
    rw [s1, s2, d1, d2]
    cases g1 : (x.f == e.f) <;> cases g2 : (x.t == e.t)
    all_goals
      repeat (first | (with_reducible refine Nx.go ?_) | ((with_reducible refine Ny.go ?_); (conv => arg 1; simp only [ev, sop, bounds, loI, hiI, fillParts, binSV, intBin, unSV, simprocAttr, ev2, ev3, h3, h15, h17, hlt, hcx, hc, n1, g1, g2, h4, h5, w1, w2, recheck, wantedS, SV.same_self, Bool.and_self]); (first | (with_reducible refine Nz.go ?_) | refine Hold_some ?_)))
      refine ⟨by simp only [ev, sop, bounds, loI, hiI, fillParts, binSV, intBin, unSV, simprocAttr, ev2, ev3, h16], by simp only [ev, sop, bounds, loI, hiI, fillParts, binSV, intBin, unSV, simprocAttr, ev2, ev3, h17], fun v w => ⟨by simp only [ev, sop, bounds, loI, hiI, fillParts, binSV, intBin, unSV, simprocAttr, ev2, ev3, h3], by simp only [ev, sop, bounds, loI, hiI, fillParts, binSV, intBin, unSV, simprocAttr, ev2, ev3, h15]; exact (edges_of_lt hlt).symm, by simp (disch := first | omega | (simp only [nx_push, nx_set]; done) | (simp only [nx_push, nx_set]; omega)) only [cells_push_ne, cells_push_eq, cells_set_ne, cells_set_eq, hc], by simp [next_push, next_set]; omega, by simp only [ev, sop, bounds, loI, hiI, fillParts, binSV, intBin, unSV, simprocAttr, ev2, ev3, h4], by simp only [ev, sop, bounds, loI, hiI, fillParts, binSV, intBin, unSV, simprocAttr, ev2, ev3, h5]⟩⟩
  · rintro t σ1 ⟨h3, h15, hc, hnx, h4, h5⟩
    repeat (first | (with_reducible refine Nx.go ?_) | ((with_reducible refine Ny.go ?_); (conv => arg 1; simp only [ev, sop, bounds, loI, hiI, fillParts, binSV, intBin, unSV, simprocAttr, ev2, ev3, h4, h5, recheck, wantedS, SV.same_self, Bool.and_self]); (first | (with_reducible refine Nz.go ?_) | refine Hold_some ?_)))
    (refine Hold1_of ?_; (conv => arg 1; simp only [ev, sop, bounds, loI, hiI, fillParts, binSV, intBin, unSV, simprocAttr, ev2, ev3, resultsSV, resMany, resOne]); refine Hold1_some ?_)
    rw [frz_of_pure rfl]
    simp [FuncD.outE, FuncD.inE, he]
end Go.Proofs.Ytojjhcgbbmknmaa.Sh
