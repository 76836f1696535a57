/- Several texts, merged: Rows of edges between tiles: gone through. And more. -/
import Derived.Test.YtojjhcgbbmknmaaXC
import Derived.Test.YtojjhcgbbmknmaaXA

/- Rows of edges between tiles: gone through. -/
namespace Go.Proofs.Ytojjhcgbbmknmaa.Sh
set_option linter.unusedSimpArgs false
set_option linter.unusedVariables false
open Go Go.Proofs

theorem edgesTo_memV {f : FuncD} {e : EdgeD} : ∀ {n : Nat}, e ∈ f.edgesTo n → ∃ k r, k < n ∧ f.to[k]? = some r ∧ e.f = (k : Int) ∧ e.t ∈ ol r
  | 0, h => by simp [FuncD.edgesTo] at h
  | n + 1, h => by
    have e' : f.edgesTo (n + 1) = f.edgesTo n ++ edgesB n (ol (f.to.getD n none)) := by
      unfold FuncD.edgesTo; rw [List.range_succ, List.flatMap_append]; simp
    rw [e'] at h
    rcases List.mem_append.1 h with h | h
    · obtain ⟨k, r, h1, h2⟩ := edgesTo_memV h
      exact ⟨k, r, by omega, h2⟩
    · unfold edgesB at h
      obtain ⟨j, hj, rfl⟩ := List.mem_map.1 h
      have hj := List.mem_range.1 hj
      cases hr : f.to[n]? with
      | none => rw [List.getD_eq_getElem?_getD, hr] at hj; simp [ol] at hj
      | some r =>
        have e2 : ol (f.to.getD n none) = ol r := by rw [List.getD_eq_getElem?_getD, hr]; rfl
        rw [e2] at hj
        refine ⟨n, r, by omega, hr, rfl, ?_⟩
        simp only [e2]
        rw [List.getD_eq_getElem?_getD, List.getElem?_eq_getElem hj]
        exact List.getElem_mem hj
theorem FuncD.fits.edgeV {f : FuncD} (h : f.fits) {e : EdgeD} (he : e ∈ f.edges) : (0 ≤ e.f ∧ e.f < (f.bl.length : Int)) ∧ 1 ≤ e.t ∧ e.t < (f.bl.length : Int) := by
  obtain ⟨k, r, h1, h2, h3, h4⟩ := edgesTo_memV he
  obtain ⟨b, hb, rfl⟩ := List.mem_map.1 (List.mem_of_getElem? h2)
  have := (h.1.2.2 b hb).2 _ h4
  refine ⟨by omega, this⟩

theorem edge_sv_inj : ∀ {p q : List EdgeD}, p.map EdgeD.sv = q.map EdgeD.sv → p = q
  | [], [], _ => rfl
  | [], _ :: _, h => by simp at h
  | _ :: _, [], h => by simp at h
  | ⟨a, b, c⟩ :: p, ⟨a', b', c'⟩ :: q, h => by
    simp only [List.map_cons, List.cons.injEq] at h
    have h1 := h.1
    simp only [EdgeD.sv, EdgeD.cells, SV.agg.injEq, List.cons.injEq, SV.sc.injEq, Sc.int.injEq, true_and, and_true] at h1
    rw [edge_sv_inj h.2, h1.1, h1.2.1, h1.2.2]
/-- A function that says of an edge whether it is asked for. -/
def Asks (m g : Nat) (first cap : List SV) (asked : List Int → EdgeD → Bool) : Prop := ∀ (o : Option (List TileD)) (out : List Int) (M : Nat) (e : EdgeD) (σ : St), 0 ≤ e.f → e.f < (out.length : Int) → 0 ≤ e.t → e.t < (out.length : Int) → out.length ≤ 200 →
  WPC (EV m) (.fn g first cap) [aroundV o out M, e.sv] σ (fun v σ' => v = .sc (.bool (asked out e)) ∧ Keeps σ σ')
theorem WP_gen {E : Env} {c : SC} {t : Tr SV} {σ0 : St} {Q : Ex → Tr SV → St → Prop} {F : St → Prop} (hF : F σ0) (h : ∀ σ, F σ → WP E c t σ Q) : WP E c t σ0 Q := h _ hF
theorem RowN.set {σ : St} {v : SV} {lo j : Nat} {o : Ob} {L : List Int} (h : RowN σ v lo L) (hj : j < lo) : RowN (σ.set j o) v lo L := by
  rcases h with h | ⟨id, h0, h1, h2, h3, h4⟩
  · exact .inl h
  · exact .inr ⟨id, h0, h1, h2, h3, by rw [cells_set_ne (by omega)]; exact h4⟩
theorem RowN.get {σ σ' : St} {v : SV} {lo hi : Nat} {L : List Int} (h : RowN σ v lo L) (hn : σ.next ≤ hi) (hn2 : σ.next ≤ σ'.next) (hc : ∀ i, lo ≤ i → i < hi → σ'.get i = σ.get i) : RowN σ' v lo L := by
  rcases h with h | ⟨id, h0, h1, h2, h3, h4⟩
  · exact .inl h
  · exact .inr ⟨id, h0, h1, h2, by omega, by unfold cellsOf at h4 ⊢; rw [hc id h2 (by omega)]; exact h4⟩
theorem FrzV.less {σ : St} {lo lo' g : Nat} {v : SV} {o : Option (List Int)} (h : FrzV σ lo g v o) (hl : lo' ≤ lo) : FrzV σ lo' g v o := by
  rcases h with h | ⟨id, L, h1, h2, h3, h4, h5, h6⟩
  · exact .inl h
  · exact .inr ⟨id, L, h1, h2, by omega, h4, h5, h6⟩
/-- What edge.rows lays. -/
def RowsTold (f : FuncD) (o : Option (List TileD)) (asked : List Int → EdgeD → Bool) (σ' : St) (v : SV) : Prop :=
  (¬ f.fits ∧ v = .tup [.sc .nilsl, .sc (.int .i64 2)]) ∨ (f.fits ∧ ¬ RightP f (ol o) ∧ v = .tup [.sc .nilsl, .sc (.int .i64 12)]) ∨
    (RightP f (ol o) ∧ ∃ out rv, v = .tup [rv, .sc (.int .i64 0)] ∧ OwnIs f.bl.length (ol o) (some out) ∧ frz σ' 20 v = some (.tup [rowsR (let rs := rowsOf (ol o) out (asked out) f.edges; if rs = [] then none else some rs), .sc (.int .i64 0)]))

set_option maxHeartbeats 16000000 in
theorem c_rows {m : Nat} (hm : 10 < m) (f : FuncD) (o : Option (List TileD)) (hl : f.bl.length ≤ 2 ^ 47) (ht : tilesWithin (2 ^ 30) (ol o)) (htot : (blocksOf (ol o)).length ≤ 2 ^ 34) {g : Nat} {first cap : List SV} {asked : List Int → EdgeD → Bool} (hask : Asks m g first cap asked) {σ : St} :
    WPF (EV m) 31 [f.sv, tilesV o, .fn g first cap] σ (fun v σ' => RowsTold f o asked σ' v) := by
  refine inline_fn rfl rfl rfl rfl ?_
  have hover := fun σ => c_over hm f o hl ht htot (σ := σ)
  rw [show f.sv = .agg [intsV f.params, blksV f.blocks] from rfl] at *
  repeat (first | (with_reducible refine Nx.go ?_) | ((with_reducible refine Ny.go ?_); (conv => arg 1; simp only [ev, sop, bounds, loI, hiI, fillParts, binSV, intBin, unSV, simprocAttr, ev2, ev3, ev4, cellsOf_pushm, recheck, wantedS, SV.same_self, Bool.and_self]); (first | (with_reducible refine Nz.go ?_) | refine Hold_some ?_)))
  refine st_callf (by first | with_reducible exact wantedS_none | (refine wantedS_some ?_; simp only [ev, sop, bounds, loI, hiI, fillParts, binSV, intBin, unSV, simprocAttr, ev2, ev3, ev4, cellsOf_pushm]; done)) (by simp only [ev, sop, bounds, loI, hiI, fillParts, binSV, intBin, unSV, simprocAttr, ev2, ev3, ev4, cellsOf_pushm] <;> rfl) (by simp only [ev, sop, bounds, loI, hiI, fillParts, binSV, intBin, unSV, simprocAttr, ev2, ev3, ev4, cellsOf_pushm] <;> rfl) ?_
  refine (hover _).mono ?_
  rintro v σ1 ⟨hk, h⟩
  refine ⟨recheck_nil, ?_⟩
  have c5 : cellsOf σ1 (σ.next + 1) = some [.fn g first cap] := by rw [hk.cells (by simp [next_push])]; simp only [ev, sop, bounds, loI, hiI, fillParts, binSV, intBin, unSV, simprocAttr, ev2, ev3, ev4, cellsOf_pushm]
  have c6 : cellsOf σ1 (σ.next + 2) = some [.sc .nilsl] := by rw [hk.cells (by simp [next_push])]; simp only [ev, sop, bounds, loI, hiI, fillParts, binSV, intBin, unSV, simprocAttr, ev2, ev3, ev4, cellsOf_pushm]
  have c3 : cellsOf σ1 σ.next = some [intsV f.params, blksV f.blocks] := by rw [hk.cells (by simp [next_push]; omega)]; simp only [ev, sop, bounds, loI, hiI, fillParts, binSV, intBin, unSV, simprocAttr, ev2, ev3, ev4, cellsOf_pushm]
  have hn1 : σ.next + 3 ≤ σ1.next := by have := hk.1; simpa [next_push] using this
  have hk0 : Keeps σ σ1 := (((Keeps.refl σ).push _).push _ |>.push _).trans hk
  simp only [next_push] at h
  clear hk
  have q0 : (σ.next = σ1.next) = False := by simp; omega
  have q1 : (σ.next + 1 = σ1.next) = False := by simp; omega
  have q2 : (σ.next + 2 = σ1.next) = False := by simp; omega
  rcases h with ⟨hf, rfl⟩ | ⟨hf, hR, rfl⟩ | ⟨hR, out, M, rfl, hM1, hM2, hO, es, hMes, hI⟩
  · have h2 : ((2 : Int) != 0) = true := rfl
    repeat (first | (with_reducible refine Nx.go ?_) | ((with_reducible refine Ny.go ?_); (conv => arg 1; simp only [ev, sop, bounds, loI, hiI, fillParts, binSV, intBin, unSV, simprocAttr, ev2, ev3, ev4, cellsOf_pushm, c6, q2, h2, recheck, wantedS, SV.same_self, Bool.and_self]); (first | (with_reducible refine Nz.go ?_) | refine Hold_some ?_)))
    (refine Hold1_of ?_; (conv => arg 1; simp only [ev, sop, bounds, loI, hiI, fillParts, binSV, intBin, unSV, simprocAttr, ev2, ev3, ev4, cellsOf_pushm, c6, q2, resultsSV, resMany, resOne]); refine Hold1_some ?_)
    exact .inl ⟨hf, rfl⟩
  · have h2 : ((12 : Int) != 0) = true := rfl
    repeat (first | (with_reducible refine Nx.go ?_) | ((with_reducible refine Ny.go ?_); (conv => arg 1; simp only [ev, sop, bounds, loI, hiI, fillParts, binSV, intBin, unSV, simprocAttr, ev2, ev3, ev4, cellsOf_pushm, c6, q2, h2, recheck, wantedS, SV.same_self, Bool.and_self]); (first | (with_reducible refine Nz.go ?_) | refine Hold_some ?_)))
    (refine Hold1_of ?_; (conv => arg 1; simp only [ev, sop, bounds, loI, hiI, fillParts, binSV, intBin, unSV, simprocAttr, ev2, ev3, ev4, cellsOf_pushm, c6, q2, resultsSV, resMany, resOne]); refine Hold1_some ?_)
    exact .inr (.inl ⟨hf, hR, rfl⟩)
  have h00 : ((0 : Int) != 0) = false := rfl
  unfold aroundV
  repeat (first | (with_reducible refine Nx.go ?_) | ((with_reducible refine Ny.go ?_); (conv => arg 1; simp only [ev, sop, bounds, loI, hiI, fillParts, binSV, intBin, unSV, simprocAttr, ev2, ev3, ev4, cellsOf_pushm, c3, c6, q0, q2, h00, recheck, wantedS, SV.same_self, Bool.and_self]); (first | (with_reducible refine Nz.go ?_) | refine Hold_some ?_)))
  refine st_callf (by first | with_reducible exact wantedS_none | (refine wantedS_some ?_; simp only [ev, sop, bounds, loI, hiI, fillParts, binSV, intBin, unSV, simprocAttr, ev2, ev3, ev4, cellsOf_pushm]; done)) (by simp only [ev, sop, bounds, loI, hiI, fillParts, binSV, intBin, unSV, simprocAttr, ev2, ev3, ev4, cellsOf_pushm] <;> rfl) (by simp only [ev, sop, bounds, loI, hiI, fillParts, binSV, intBin, unSV, simprocAttr, ev2, ev3, ev4, cellsOf_pushm] <;> rfl) ?_
  refine c_each.mono ?_
  rintro v σ2 ⟨rfl, rfl⟩
  refine ⟨recheck_nil, ?_⟩
  repeat (first | (with_reducible refine Nx.go ?_) | ((with_reducible refine Ny.go ?_); (conv => arg 1; simp only [ev, sop, bounds, loI, hiI, fillParts, binSV, intBin, unSV, simprocAttr, ev2, ev3, ev4, cellsOf_pushm, recheck, wantedS, SV.same_self, Bool.and_self]); (first | (with_reducible refine Nz.go ?_) | refine Hold_some ?_)))
  have hn200 := hR.fits.1.2.1
  obtain ⟨_, hol, hoat⟩ := hO.yes out rfl
  have hio : intsV (some out) = .lst out.length 1 (out.map SV.int) := rfl
  have p5 : (σ1.next = σ.next + 1) = False := by simp; omega
  refine WP_rng_it (fun pre σ' => ∃ p : List EdgeD, pre = p.map EdgeD.sv ∧ σ1.next + 3 ≤ σ'.next ∧ cellsOf σ' (σ.next + 1) = some [.fn g first cap] ∧ cellsOf σ' σ1.next = some [tilesV o, intsV (some out), .mp M] ∧ cellsOf σ' (σ1.next + 1) = some f.cells ∧ (∀ i, M ≤ i → i < σ1.next → σ'.get i = σ1.get i) ∧ OutAt σ' (σ.next + 2) (σ1.next + 3) (rowsOf (ol o) out (asked out) p))
    (by simp only [ev, sop, bounds, loI, hiI, fillParts, binSV, intBin, unSV, simprocAttr, ev2, ev3, ev4, cellsOf_pushm] <;> rfl) rfl (it_each f hl (box := σ1.next + 1) (by omega)) ⟨[], rfl, by simp [next_push, next_set], by simp (disch := first | omega | (simp only [nx_push, nx_set]; done) | (simp only [nx_push, nx_set]; omega)) only [cells_push_ne, cells_push_eq, cells_set_ne, cells_set_eq, c5], by simp (disch := first | omega | (simp only [nx_push, nx_set]; done) | (simp only [nx_push, nx_set]; omega)) only [cells_push_ne, cells_push_eq, cells_set_ne, cells_set_eq], by simp (disch := first | omega | (simp only [nx_push, nx_set]; done) | (simp only [nx_push, nx_set]; omega)) only [cells_push_ne, cells_push_eq, cells_set_ne, cells_set_eq], ?_, .inl ⟨rfl, by simp (disch := first | omega | (simp only [nx_push, nx_set]; done) | (simp only [nx_push, nx_set]; omega)) only [cells_push_ne, cells_push_eq, cells_set_ne, cells_set_eq, c6]⟩⟩ ?_ ?_ ?_ ?_ ?_
  · intro i h1 h2
    rw [get_push_ne (by simp [next_push, next_set]; omega), get_push_ne (by simp [next_push, next_set]; omega), get_set_ne (by omega), get_push_ne (by omega)]
  · rintro pre σ3 σ4 ⟨p, rfl, hn, g5, g8, gE, hfr, hout⟩ kk
    exact ⟨p, rfl, Nat.le_trans hn kk.1, by rw [kk.cells (by omega)]; exact g5, by rw [kk.cells (by omega)]; exact g8, by rw [kk.cells (by omega)]; exact gE, fun i h1 h2 => by rw [kk.2 i (by omega)]; exact hfr i h1 h2,
      hout.move kk.1 (kk.cells (by omega)) (fun i h1 h2 => kk.cells h2)⟩
  · rintro pre σ3 ob ⟨p, rfl, hn, g5, g8, gE, hfr, hout⟩
    simp only [next_push, next_set]
    exact ⟨p, rfl, hn, by simp (disch := first | omega | (simp only [nx_push, nx_set]; done) | (simp only [nx_push, nx_set]; omega)) only [cells_push_ne, cells_push_eq, cells_set_ne, cells_set_eq, g5], by simp (disch := first | omega | (simp only [nx_push, nx_set]; done) | (simp only [nx_push, nx_set]; omega)) only [cells_push_ne, cells_push_eq, cells_set_ne, cells_set_eq, g8], by simp (disch := first | omega | (simp only [nx_push, nx_set]; done) | (simp only [nx_push, nx_set]; omega)) only [cells_push_ne, cells_push_eq, cells_set_ne, cells_set_eq, gE], fun i h1 h2 => by rw [get_set_ne (by omega)]; exact hfr i h1 h2,
      hout.move (by simp [next_set]) (by simp (disch := first | omega | (simp only [nx_push, nx_set]; done) | (simp only [nx_push, nx_set]; omega)) only [cells_push_ne, cells_push_eq, cells_set_ne, cells_set_eq]) (fun i h1 h2 => by simp (disch := first | omega | (simp only [nx_push, nx_set]; done) | (simp only [nx_push, nx_set]; omega)) only [cells_push_ne, cells_push_eq, cells_set_ne, cells_set_eq])⟩
  · rintro pre σ3 ⟨p, rfl, hn, g5, g8, gE, hfr, hout⟩ _
    exact gE
  · rintro pre v σ3 lr lb hpre hlt ⟨p, rfl, hn, g5, g8, gE, hfr, hout⟩ hg
    simp only [next_push, next_set, setMany_one] at hlt hg ⊢
    obtain ⟨p', e, r, hes, hpp, rfl⟩ := prefix_map hpre
    cases edge_sv_inj hpp
    have hee : e ∈ f.edges := by rw [hes]; simp
    obtain ⟨⟨hf0, hf1⟩, ht0, ht1⟩ := hR.fits.edgeV hee
    have hpl : p.length ≤ 400 := by
      have h1 := edgesTo_len f f.bl.length
      have h2 := congrArg List.length hes
      have h3 : f.edges.length = (f.edgesTo f.bl.length).length := rfl
      simp only [List.length_append, List.length_cons] at h2
      omega
    have hnew : p.map EdgeD.sv ++ [e.sv] = (p ++ [e]).map EdgeD.sv := by simp
    rw [hnew]
    obtain ⟨ef, ea, et⟩ := e
    simp only at hf0 hf1 ht0 ht1
    obtain ⟨a, rfl⟩ := Int.eq_ofNat_of_zero_le hf0
    obtain ⟨b, rfl⟩ := Int.eq_ofNat_of_zero_le (show 0 ≤ et by omega)
    rw [show EdgeD.sv ⟨(a : Int), ea, (b : Int)⟩ = .agg [.sc (.int .i64 (a : Int)), .sc (.int .i64 ea), .sc (.int .i64 (b : Int))] from rfl]
    obtain ⟨ka, xa, hxa, _, hka⟩ := hoat a (by omega)
    obtain ⟨kb, xb, hxb, _, hkb⟩ := hoat b (by omega)
    have hca := cut_intsN hka
    have hcb := cut_intsN hkb
    have ha0 : 0 ≤ (a : Int) := by omega
    have hb0 : 0 ≤ (b : Int) := by omega
    have hal : (a : Int) < (out.length : Int) := by omega
    have hbl : (b : Int) < (out.length : Int) := by omega
    have hal2 : a < out.length := by omega
    have hbl2 : b < out.length := by omega
    repeat (first | (with_reducible refine Nx.go ?_) | ((with_reducible refine Ny.go ?_); (conv => arg 1; simp only [ev, sop, bounds, loI, hiI, fillParts, binSV, intBin, unSV, simprocAttr, ev2, ev3, ev4, cellsOf_pushm, recheck, wantedS, SV.same_self, Bool.and_self]); (first | (with_reducible refine Nz.go ?_) | refine Hold_some ?_)))
    refine ⟨by simp (disch := first | omega | (simp only [nx_push, nx_set]; done) | (simp only [nx_push, nx_set]; omega)) only [get_push_ne, get_set_ne, get_set_same, hg], ?_⟩
    refine WP_gen (F := fun σ' => σ'.next = σ3.next + 1 ∧ σ'.get (σ1.next + 2) = some lb ∧ cellsOf σ' σ3.next = some [.sc (.int .i64 (a : Int)), .sc (.int .i64 ea), .sc (.int .i64 (b : Int))] ∧ cellsOf σ' (σ.next + 1) = some [.fn g first cap] ∧ cellsOf σ' σ1.next = some [tilesV o, intsV (some out), .mp M] ∧ cellsOf σ' (σ1.next + 1) = some f.cells ∧
      (∀ i, M ≤ i → i < σ1.next → σ'.get i = σ1.get i) ∧ OutAt σ' (σ.next + 2) (σ1.next + 3) (rowsOf (ol o) out (asked out) p))
      ⟨by simp [next_push, next_set], get_set_eq, by simp (disch := first | omega | (simp only [nx_push, nx_set]; done) | (simp only [nx_push, nx_set]; omega)) only [cells_push_ne, cells_push_eq, cells_set_ne, cells_set_eq], by simp (disch := first | omega | (simp only [nx_push, nx_set]; done) | (simp only [nx_push, nx_set]; omega)) only [cells_push_ne, cells_push_eq, cells_set_ne, cells_set_eq, g5], by simp (disch := first | omega | (simp only [nx_push, nx_set]; done) | (simp only [nx_push, nx_set]; omega)) only [cells_push_ne, cells_push_eq, cells_set_ne, cells_set_eq, g8], by simp (disch := first | omega | (simp only [nx_push, nx_set]; done) | (simp only [nx_push, nx_set]; omega)) only [cells_push_ne, cells_push_eq, cells_set_ne, cells_set_eq, gE], fun i h1 h2 => by rw [get_set_ne (by omega), get_set_ne (by omega), get_push_ne (by omega)]; exact hfr i h1 h2, hout.move (by simp [next_push, next_set]) (by simp (disch := first | omega | (simp only [nx_push, nx_set]; done) | (simp only [nx_push, nx_set]; omega)) only [cells_push_ne, cells_push_eq, cells_set_ne, cells_set_eq]) (fun i h1 h2 => by simp (disch := first | omega | (simp only [nx_push, nx_set]; done) | (simp only [nx_push, nx_set]; omega)) only [cells_push_ne, cells_push_eq, cells_set_ne, cells_set_eq])⟩ ?_
    have hn3 := hn
    clear hg g5 g8 gE hfr hout hn
    rintro S ⟨hSn, e4, c9, g5, g8, gE, hfr, hout⟩
    have hga : out.getD a 0 = (ka : Int) := by rw [List.getD_eq_getElem?_getD, hka]; rfl
    have hgb : out.getD b 0 = (kb : Int) := by rw [List.getD_eq_getElem?_getD, hkb]; rfl
    by_cases hkk : ka = kb
    · have hz : ((ka : Int) == (kb : Int)) = true := by rw [hkk]; simp
      have hno : rowOf (ol o) out (asked out) ⟨(a : Int), ea, (b : Int)⟩ = none := by
        unfold rowOf
        rw [if_pos]
        left
        simp only [Int.toNat_natCast, hga, hgb, hkk]
      repeat (first | (with_reducible refine Nx.go ?_) | ((with_reducible refine Ny.go ?_); (conv => arg 1; simp only [ev, sop, bounds, loI, hiI, fillParts, binSV, intBin, unSV, simprocAttr, ev2, ev3, ev4, cellsOf_pushm, c9, g8, hio, hca, hcb, ha0, hb0, hal, hbl, hal2, hbl2, hz, recheck, wantedS, SV.same_self, Bool.and_self]); (first | (with_reducible refine Nz.go ?_) | refine Hold_some ?_)))
      exact ⟨e4, by omega, p ++ [⟨(a : Int), ea, (b : Int)⟩], rfl, by omega, g5, g8, gE, hfr, by rw [rowsOf_add, hno]; simpa using hout⟩
    have hz : ((ka : Int) == (kb : Int)) = false := by rw [beq_eq_false_iff_ne]; omega
    repeat (first | (with_reducible refine Nx.go ?_) | ((with_reducible refine Ny.go ?_); (conv => arg 1; simp only [ev, sop, bounds, loI, hiI, fillParts, binSV, intBin, unSV, simprocAttr, ev2, ev3, ev4, cellsOf_pushm, c9, g5, g8, hio, hca, hcb, ha0, hb0, hal, hbl, hal2, hbl2, hz, recheck, wantedS, SV.same_self, Bool.and_self]); (first | (with_reducible refine Nz.go ?_) | refine Hold_some ?_)))
    rw [← hio]
    refine st_callv (by first | with_reducible exact wantedS_none | (refine wantedS_some ?_; simp only [ev, sop, bounds, loI, hiI, fillParts, binSV, intBin, unSV, simprocAttr, ev2, ev3, ev4, cellsOf_pushm, c9, g5, g8]; done)) (by simp only [ev, sop, bounds, loI, hiI, fillParts, binSV, intBin, unSV, simprocAttr, ev2, ev3, ev4, cellsOf_pushm, c9, g5, g8] <;> rfl) (by simp only [ev, sop, bounds, loI, hiI, fillParts, binSV, intBin, unSV, simprocAttr, ev2, ev3, ev4, cellsOf_pushm, c9, g5, g8] <;> rfl) ?_
    refine (hask o out M ⟨(a : Int), ea, (b : Int)⟩ S (by omega) hal (by simp only; omega) hbl (by omega)).mono ?_
    rintro v S2 ⟨rfl, hk2⟩
    refine ⟨recheck_nil, ?_⟩
    have hS2n := hk2.1
    have c9 : cellsOf S2 σ3.next = some [.sc (.int .i64 (a : Int)), .sc (.int .i64 ea), .sc (.int .i64 (b : Int))] := by rw [hk2.cells (by omega)]; exact c9
    have g5 : cellsOf S2 (σ.next + 1) = some [.fn g first cap] := by rw [hk2.cells (by omega)]; exact g5
    have g8 : cellsOf S2 σ1.next = some [tilesV o, intsV (some out), .mp M] := by rw [hk2.cells (by omega)]; exact g8
    have gE : cellsOf S2 (σ1.next + 1) = some f.cells := by rw [hk2.cells (by omega)]; exact gE
    have e4 : S2.get (σ1.next + 2) = some lb := by rw [hk2.2 _ (by omega)]; exact e4
    have hfr : ∀ i, M ≤ i → i < σ1.next → S2.get i = σ1.get i := fun i h1 h2 => by rw [hk2.2 i (by omega)]; exact hfr i h1 h2
    have hout : OutAt S2 (σ.next + 2) (σ1.next + 3) (rowsOf (ol o) out (asked out) p) := hout.move hk2.1 (hk2.cells (by omega)) (fun i h1 h2 => hk2.cells h2)
    cases hasked : asked out ⟨(a : Int), ea, (b : Int)⟩ with
    | false =>
      have hno : rowOf (ol o) out (asked out) ⟨(a : Int), ea, (b : Int)⟩ = none := by
        unfold rowOf
        rw [if_pos (.inr hasked)]
      repeat (first | (with_reducible refine Nx.go ?_) | ((with_reducible refine Ny.go ?_); (conv => arg 1; simp only [ev, sop, bounds, loI, hiI, fillParts, binSV, intBin, unSV, simprocAttr, ev2, ev3, ev4, cellsOf_pushm, recheck, wantedS, SV.same_self, Bool.and_self]); (first | (with_reducible refine Nz.go ?_) | refine Hold_some ?_)))
      exact ⟨e4, by omega, p ++ [⟨(a : Int), ea, (b : Int)⟩], rfl, by omega, g5, g8, gE, hfr, by rw [rowsOf_add, hno]; simpa using hout⟩
    | true =>
    have q9 : (σ3.next = S2.next) = False := by simp; omega
    have q8 : (σ1.next = S2.next) = False := by simp; omega
    repeat (first | (with_reducible refine Nx.go ?_) | ((with_reducible refine Ny.go ?_); (conv => arg 1; simp only [ev, sop, bounds, loI, hiI, fillParts, binSV, intBin, unSV, simprocAttr, ev2, ev3, ev4, cellsOf_pushm, c9, g8, q9, q8, recheck, wantedS, SV.same_self, Bool.and_self]); (first | (with_reducible refine Nz.go ?_) | refine Hold_some ?_)))
    -- what the one lies in and the other does not
    have hLa : (out.map (chainI (ol o)))[a]? = some (chainI (ol o) (ka : Int)) := by rw [List.getElem?_map, hka]; rfl
    have hLb : (out.map (chainI (ol o)))[b]? = some (chainI (ol o) (kb : Int)) := by rw [List.getElem?_map, hkb]; rfl
    have hll := hR.len
    have hkal := (List.getElem?_eq_some_iff.1 hxa).1
    have hkbl := (List.getElem?_eq_some_iff.1 hxb).1
    have hla := chainI_len (ol o) (ka : Int)
    have hlb := chainI_len (ol o) (kb : Int)
    have hRM : ∀ σx : St, σ1.next ≤ σx.next → (∀ i, M ≤ i → i < σ1.next → σx.get i = σ1.get i) → σx.get M = some (.map es) ∧ RowsM σx (M + 1) es (out.map (chainI (ol o))) := fun σx h1 h2 =>
      ⟨by rw [h2 M (Nat.le_refl _) hM2]; exact hMes, hI.same h1 (fun i g1 g2 => by unfold cellsOf; rw [h2 i (by omega) g2])⟩
    obtain ⟨S3, hS3⟩ : ∃ S3, S3 = S2.push (.cells [.sc (.int .i64 0), .sc (.int .i64 0), .sc (.int .i64 0), .sc .nilsl, .sc .nilsl]) := ⟨_, rfl⟩
    have n3 : S3.next = S2.next + 1 := by rw [hS3]; simp [next_push]
    have k3 : Keeps S2 S3 := by rw [hS3]; exact (Keeps.refl _).push _
    have hfr3 : ∀ i, M ≤ i → i < σ1.next → S3.get i = σ1.get i := fun i h1 h2 => by rw [k3.2 i (by omega)]; exact hfr i h1 h2
    have c10 : cellsOf S3 S2.next = some [.sc (.int .i64 0), .sc (.int .i64 0), .sc (.int .i64 0), .sc .nilsl, .sc .nilsl] := by rw [hS3]; simp only [ev, sop, bounds, loI, hiI, fillParts, binSV, intBin, unSV, simprocAttr, ev2, ev3, ev4, cellsOf_pushm]
    rw [← hS3]
    obtain ⟨hM3, hI3⟩ := hRM S3 (by omega) hfr3
    have c9' : cellsOf S3 σ3.next = some [.sc (.int .i64 (a : Int)), .sc (.int .i64 ea), .sc (.int .i64 (b : Int))] := by rw [k3.cells (by omega)]; exact c9
    have g8' : cellsOf S3 σ1.next = some [tilesV o, intsV (some out), .mp M] := by rw [k3.cells (by omega)]; exact g8
    refine st_callf (by first | with_reducible exact wantedS_none | (refine wantedS_some ?_; simp only [ev, sop, bounds, loI, hiI, fillParts, binSV, intBin, unSV, simprocAttr, ev2, ev3, ev4, cellsOf_pushm]; done)) (by simp only [ev, sop, bounds, loI, hiI, fillParts, binSV, intBin, unSV, simprocAttr, ev2, ev3, ev4, cellsOf_pushm] <;> rfl) (by simp only [ev, sop, bounds, loI, hiI, fillParts, binSV, intBin, unSV, simprocAttr, ev2, ev3, ev4, cellsOf_pushm] <;> rfl) ?_
    refine (c_besides (o := o) (out := out) (b := a) (c := b) (by omega) hM3 (by omega) hI3 hLa hLb (by omega) (by omega)).mono ?_
    rintro v1 S4 ⟨k4, hv1⟩
    have c9'' : cellsOf S4 σ3.next = some [.sc (.int .i64 (a : Int)), .sc (.int .i64 ea), .sc (.int .i64 (b : Int))] := by rw [k4.cells (by omega)]; exact c9'
    have g8'' : cellsOf S4 σ1.next = some [tilesV o, intsV (some out), .mp M] := by rw [k4.cells (by omega)]; exact g8'
    have n4 := k4.1
    refine ⟨by simp only [recheck, wantedS]; simp only [ev, sop, bounds, loI, hiI, fillParts, binSV, intBin, unSV, simprocAttr, ev2, ev3, ev4, cellsOf_pushm, c9'', g8'']; simp only [SV.same_self, Bool.and_self, beq_self_eq_true], ?_⟩
    have hfr4 : ∀ i, M ≤ i → i < σ1.next → S4.get i = σ1.get i := fun i h1 h2 => by rw [k4.2 i (by omega)]; exact hfr3 i h1 h2
    obtain ⟨hM4, hI4⟩ := hRM S4 (by omega) hfr4
    repeat (first | (with_reducible refine Nx.go ?_) | ((with_reducible refine Ny.go ?_); (conv => arg 1; simp only [ev, sop, bounds, loI, hiI, fillParts, binSV, intBin, unSV, simprocAttr, ev2, ev3, ev4, cellsOf_pushm, recheck, wantedS, SV.same_self, Bool.and_self]); (first | (with_reducible refine Nz.go ?_) | refine Hold_some ?_)))
    refine st_callf (by first | with_reducible exact wantedS_none | (refine wantedS_some ?_; simp only [ev, sop, bounds, loI, hiI, fillParts, binSV, intBin, unSV, simprocAttr, ev2, ev3, ev4, cellsOf_pushm]; done)) (by simp only [ev, sop, bounds, loI, hiI, fillParts, binSV, intBin, unSV, simprocAttr, ev2, ev3, ev4, cellsOf_pushm] <;> rfl) (by simp only [ev, sop, bounds, loI, hiI, fillParts, binSV, intBin, unSV, simprocAttr, ev2, ev3, ev4, cellsOf_pushm] <;> rfl) ?_
    refine (c_besides (o := o) (out := out) (b := b) (c := a) (by omega) hM4 (by omega) hI4 hLb hLa (by omega) (by omega)).mono ?_
    rintro v2 S5 ⟨k5, hv2⟩
    have n5 := k5.1
    have c95 : cellsOf S5 σ3.next = some [.sc (.int .i64 (a : Int)), .sc (.int .i64 ea), .sc (.int .i64 (b : Int))] := by rw [k5.cells (by omega)]; exact c9''
    have c10' : cellsOf S5 S2.next = some [.sc (.int .i64 0), .sc (.int .i64 0), .sc (.int .i64 0), .sc .nilsl, .sc .nilsl] := by rw [k5.cells (by omega), k4.cells (by omega)]; exact c10
    refine ⟨by simp only [recheck, wantedS]; simp only [ev, sop, bounds, loI, hiI, fillParts, binSV, intBin, unSV, simprocAttr, ev2, ev3, ev4, cellsOf_pushm, c95]; simp only [SV.same_self, Bool.and_self, beq_self_eq_true], ?_⟩
    obtain ⟨s1f, s1l, s1o⟩ := hv1.shape
    obtain ⟨s2f, s2l, s2o⟩ := hv2.shape
    repeat (first | (with_reducible refine Nx.go ?_) | ((with_reducible refine Ny.go ?_); (conv => arg 1; simp only [ev, sop, bounds, loI, hiI, fillParts, binSV, intBin, unSV, simprocAttr, ev2, ev3, ev4, cellsOf_pushm, c10', s1f, s1l, s1o, s2f, s2l, s2o, recheck, wantedS, SV.same_self, Bool.and_self]); (first | (with_reducible refine Nz.go ?_) | refine Hold_some ?_)))
    refine st_callf (by first | with_reducible exact wantedS_none | (refine wantedS_some ?_; simp only [ev, sop, bounds, loI, hiI, fillParts, binSV, intBin, unSV, simprocAttr, ev2, ev3, ev4, cellsOf_pushm]; done)) (by simp only [ev, sop, bounds, loI, hiI, fillParts, binSV, intBin, unSV, simprocAttr, ev2, ev3, ev4, cellsOf_pushm] <;> rfl) (by simp only [ev, sop, bounds, loI, hiI, fillParts, binSV, intBin, unSV, simprocAttr, ev2, ev3, ev4, cellsOf_pushm] <;> rfl) ?_
    refine (c_reverseN (hv2.set (by omega)) (by have := lessL_len (chainI (ol o) (kb : Int)) (chainI (ol o) (ka : Int)); omega)).mono ?_
    rintro _ S7 ⟨n7, hv2', hfr7⟩
    simp only [next_set] at n7
    refine ⟨recheck_nil, ?_⟩
    have h7 : ∀ i, i < S2.next → S7.get i = S2.get i := fun i hi => by rw [hfr7 i (by omega), get_set_ne (by omega), k5.2 i (by omega), k4.2 i (by omega), k3.2 i (by omega)]
    have h7c : ∀ i, i < S2.next → cellsOf S7 i = cellsOf S2 i := fun i hi => by unfold cellsOf; rw [h7 i hi]
    have d10 : cellsOf S7 S2.next = some [.sc (.int .i64 (a : Int)), .sc (.int .i64 ea), .sc (.int .i64 (b : Int)), v1, v2] := by
      unfold cellsOf; rw [hfr7 S2.next (by omega), get_set_eq]; rfl
    have hv1' : RowN S7 v1 S3.next (lessL (chainI (ol o) (ka : Int)) (chainI (ol o) (kb : Int))) := hv1.get (Nat.le_refl _) (by omega) (fun i g1 g2 => by rw [hfr7 i (by omega), get_set_ne (by omega), k5.2 i (by omega)])
    have hyes : rowOf (ol o) out (asked out) ⟨(a : Int), ea, (b : Int)⟩ = some ⟨⟨(a : Int), ea, (b : Int)⟩, nilRow (lessL (chainI (ol o) (ka : Int)) (chainI (ol o) (kb : Int))), nilRow ((lessL (chainI (ol o) (kb : Int)) (chainI (ol o) (ka : Int))).reverse)⟩ := by
      unfold rowOf
      simp only [Int.toNat_natCast, hga, hgb]
      rw [if_neg]
      rintro (h | h)
      · omega
      · rw [hasked] at h; cases h
    have hadd : rowsOf (ol o) out (asked out) (p ++ [⟨(a : Int), ea, (b : Int)⟩]) = rowsOf (ol o) out (asked out) p ++ [⟨⟨(a : Int), ea, (b : Int)⟩, nilRow (lessL (chainI (ol o) (ka : Int)) (chainI (ol o) (kb : Int))), nilRow ((lessL (chainI (ol o) (kb : Int)) (chainI (ol o) (ka : Int))).reverse)⟩] := by
      rw [rowsOf_add, hyes]; rfl
    have f1 := hv1'.frzV (Nat.le_refl _) (show S7.next ≤ S7.next + 1 by omega)
    have f2 := hv2'.frzV (Nat.le_refl _) (show S7.next ≤ S7.next + 1 by omega)
    have e47 : S7.get (σ1.next + 2) = some lb := by rw [h7 _ (by omega)]; exact e4
    have g57 : cellsOf S7 (σ.next + 1) = some [.fn g first cap] := by rw [h7c _ (by omega)]; exact g5
    have g87 : cellsOf S7 σ1.next = some [tilesV o, intsV (some out), .mp M] := by rw [h7c _ (by omega)]; exact g8
    have gE7 : cellsOf S7 (σ1.next + 1) = some f.cells := by rw [h7c _ (by omega)]; exact gE
    have hfr7' : ∀ i, M ≤ i → i < σ1.next → S7.get i = σ1.get i := fun i h1 h2 => by rw [h7 i (by omega)]; exact hfr i h1 h2
    have r0 : (S2.next = S7.next) = False := by simp; omega
    have r1 : (σ.next + 2 = S7.next) = False := by simp; omega
    have r2 : (σ.next + 2 = S7.next + 1) = False := by simp; omega
    have hrl := rowsOf_len (ol o) out (asked out) p
    rcases hout with ⟨hnil, hc6⟩ | ⟨G, C, hne, hc6, hG1, hG2, hG3, hG4⟩
    · have hc67 : cellsOf S7 (σ.next + 2) = some [.sc .nilsl] := by rw [h7c _ (by omega)]; exact hc6
      repeat (first | (with_reducible refine Nx.go ?_) | ((with_reducible refine Ny.go ?_); (conv => arg 1; simp only [ev, sop, bounds, loI, hiI, fillParts, binSV, intBin, unSV, simprocAttr, ev2, ev3, ev4, cellsOf_pushm, hc67, d10, r0, r1, r2, s1f, s1l, s1o, s2f, s2l, s2o, recheck, wantedS, SV.same_self, Bool.and_self]); (first | (with_reducible refine Nz.go ?_) | refine Hold_some ?_)))
      refine ⟨by simp (disch := first | omega | (simp only [nx_push, nx_set]; done) | (simp only [nx_push, nx_set]; omega)) only [get_push_ne, get_set_ne, get_set_same, e47], by simp [next_push, next_set]; omega, p ++ [⟨(a : Int), ea, (b : Int)⟩], rfl, by simp [next_push, next_set]; omega, by simp (disch := first | omega | (simp only [nx_push, nx_set]; done) | (simp only [nx_push, nx_set]; omega)) only [cells_push_ne, cells_push_eq, cells_set_ne, cells_set_eq, g57], by simp (disch := first | omega | (simp only [nx_push, nx_set]; done) | (simp only [nx_push, nx_set]; omega)) only [cells_push_ne, cells_push_eq, cells_set_ne, cells_set_eq, g87], by simp (disch := first | omega | (simp only [nx_push, nx_set]; done) | (simp only [nx_push, nx_set]; omega)) only [cells_push_ne, cells_push_eq, cells_set_ne, cells_set_eq, gE7], fun i h1 h2 => by rw [get_set_ne (by omega), get_push_ne (by simp [next_push]; omega), get_push_ne (by omega)]; exact hfr7' i h1 h2, ?_⟩
      refine .inr ⟨S7.next + 1, [.sc (.int .i64 (a : Int)), .sc (.int .i64 ea), .sc (.int .i64 (b : Int)), v1, v2], by rw [hadd]; simp, by rw [hadd, hnil]; simp (disch := first | omega | (simp only [nx_push, nx_set]; done) | (simp only [nx_push, nx_set]; omega)) only [cells_push_ne, cells_push_eq, cells_set_ne, cells_set_eq]; rfl, by omega, by simp [next_push, next_set], by simp (disch := first | omega | (simp only [nx_push, nx_set]; done) | (simp only [nx_push, nx_set]; omega)) only [cells_push_ne, cells_push_eq, cells_set_ne, cells_set_eq], ?_⟩
      rw [hadd, hnil]
      refine ⟨v1, v2, [], rfl, (f1.move (by simp [next_push, next_set]; omega) (fun i g1 g2 g3 => by simp (disch := first | omega | (simp only [nx_push, nx_set]; done) | (simp only [nx_push, nx_set]; omega)) only [cells_push_ne, cells_push_eq, cells_set_ne, cells_set_eq]) (.inl rfl)).less (by omega), (f2.move (by simp [next_push, next_set]; omega) (fun i g1 g2 g3 => by simp (disch := first | omega | (simp only [nx_push, nx_set]; done) | (simp only [nx_push, nx_set]; omega)) only [cells_push_ne, cells_push_eq, cells_set_ne, cells_set_eq]) (.inl rfl)).less (by omega), rfl⟩
    · have hc67 : cellsOf S7 (σ.next + 2) = some [.sl G 0 (rowsOf (ol o) out (asked out) p).length 5] := by rw [h7c _ (by omega)]; exact hc6
      have hG7 : cellsOf S7 G = some C := by rw [h7c _ (by omega)]; exact hG3
      have hCl := hG4.len
      have hcw : cut C 0 ((rowsOf (ol o) out (asked out) p).length * 5) = some C := cut_whole hCl.symm
      have hmb : ((rowsOf (ol o) out (asked out) p).length + 1) * 72 ≤ 1099511627776 ∧ (rowsOf (ol o) out (asked out) p).length + 1 ≤ 1099511627776 := by omega
      have r3 : (σ.next + 2 = G) = False := by simp; omega
      have r4 : (G = S7.next) = False := by simp; omega
      have r5 : (S2.next = G) = False := by simp; omega
      repeat (first | (with_reducible refine Nx.go ?_) | ((with_reducible refine Ny.go ?_); (conv => arg 1; simp only [ev, sop, bounds, loI, hiI, fillParts, binSV, intBin, unSV, simprocAttr, ev2, ev3, ev4, cellsOf_pushm, hc67, d10, hG7, hcw, hmb, r0, r1, r2, r3, r4, r5, s1f, s1l, s1o, s2f, s2l, s2o, recheck, wantedS, SV.same_self, Bool.and_self]); (first | (with_reducible refine Nz.go ?_) | refine Hold_some ?_)))
      refine ⟨by simp (disch := first | omega | (simp only [nx_push, nx_set]; done) | (simp only [nx_push, nx_set]; omega)) only [get_push_ne, get_set_ne, get_set_same, e47], by simp [next_push, next_set]; omega, p ++ [⟨(a : Int), ea, (b : Int)⟩], rfl, by simp [next_push, next_set]; omega, by simp (disch := first | omega | (simp only [nx_push, nx_set]; done) | (simp only [nx_push, nx_set]; omega)) only [cells_push_ne, cells_push_eq, cells_set_ne, cells_set_eq, g57], by simp (disch := first | omega | (simp only [nx_push, nx_set]; done) | (simp only [nx_push, nx_set]; omega)) only [cells_push_ne, cells_push_eq, cells_set_ne, cells_set_eq, g87], by simp (disch := first | omega | (simp only [nx_push, nx_set]; done) | (simp only [nx_push, nx_set]; omega)) only [cells_push_ne, cells_push_eq, cells_set_ne, cells_set_eq, gE7], fun i h1 h2 => by rw [get_set_ne (by omega), get_push_ne (by simp [next_push, next_set]; omega), get_set_ne (by omega), get_push_ne (by omega)]; exact hfr7' i h1 h2, ?_⟩
      refine .inr ⟨S7.next + 1, C ++ [.sc (.int .i64 (a : Int)), .sc (.int .i64 ea), .sc (.int .i64 (b : Int)), v1, v2], by rw [hadd]; simp, by rw [hadd]; simp (disch := first | omega | (simp only [nx_push, nx_set]; done) | (simp only [nx_push, nx_set]; omega)) only [cells_push_ne, cells_push_eq, cells_set_ne, cells_set_eq]; simp, by omega, by simp [next_push, next_set], by simp (disch := first | omega | (simp only [nx_push, nx_set]; done) | (simp only [nx_push, nx_set]; omega)) only [cells_push_ne, cells_push_eq, cells_set_ne, cells_set_eq], ?_⟩
      rw [hadd]
      refine RowsR.add (r := ⟨⟨(a : Int), ea, (b : Int)⟩, nilRow (lessL (chainI (ol o) (ka : Int)) (chainI (ol o) (kb : Int))), nilRow ((lessL (chainI (ol o) (kb : Int)) (chainI (ol o) (ka : Int))).reverse)⟩) (v1 := v1) (v2 := v2) ?_ ?_ (RowsR.move ?_ ?_ ?_ hG4)
      · exact (f1.move (by simp [next_push, next_set]; omega) (fun i g1 g2 g3 => by simp (disch := first | omega | (simp only [nx_push, nx_set]; done) | (simp only [nx_push, nx_set]; omega)) only [cells_push_ne, cells_push_eq, cells_set_ne, cells_set_eq]) (.inl rfl)).less (by omega)
      · exact (f2.move (by simp [next_push, next_set]; omega) (fun i g1 g2 g3 => by simp (disch := first | omega | (simp only [nx_push, nx_set]; done) | (simp only [nx_push, nx_set]; omega)) only [cells_push_ne, cells_push_eq, cells_set_ne, cells_set_eq]) (.inl rfl)).less (by omega)
      · simp [next_push, next_set]; omega
      · intro i g1 g2 g3
        rw [← h7c i g2]
        simp (disch := first | omega | (simp only [nx_push, nx_set]; done) | (simp only [nx_push, nx_set]; omega)) only [cells_push_ne, cells_push_eq, cells_set_ne, cells_set_eq]
      · exact .inr (by omega)
  · rintro σ3 ⟨p, hpp, hn, g5, g8, gE, hfr, hout⟩
    cases edge_sv_inj hpp
    rcases hout with ⟨hnil, hc6⟩ | ⟨G, C, hne, hc6, hG1, hG2, hG3, hG4⟩
    · have r3 : (σ.next + 2 = σ1.next + 2) = False := by simp; omega
      repeat (first | (with_reducible refine Nx.go ?_) | ((with_reducible refine Ny.go ?_); (conv => arg 1; simp only [ev, sop, bounds, loI, hiI, fillParts, binSV, intBin, unSV, simprocAttr, ev2, ev3, ev4, cellsOf_pushm, hc6, r3, recheck, wantedS, SV.same_self, Bool.and_self]); (first | (with_reducible refine Nz.go ?_) | refine Hold_some ?_)))
      (refine Hold1_of ?_; (conv => arg 1; simp only [ev, sop, bounds, loI, hiI, fillParts, binSV, intBin, unSV, simprocAttr, ev2, ev3, ev4, cellsOf_pushm, hc6, r3, resultsSV, resMany, resOne]); refine Hold1_some ?_)
      refine .inr (.inr ⟨hR, out, _, rfl, hO, ?_⟩)
      simp only [hnil]
      exact frz_pure rfl
    · have r3 : (σ.next + 2 = σ1.next + 2) = False := by simp; omega
      repeat (first | (with_reducible refine Nx.go ?_) | ((with_reducible refine Ny.go ?_); (conv => arg 1; simp only [ev, sop, bounds, loI, hiI, fillParts, binSV, intBin, unSV, simprocAttr, ev2, ev3, ev4, cellsOf_pushm, hc6, r3, recheck, wantedS, SV.same_self, Bool.and_self]); (first | (with_reducible refine Nz.go ?_) | refine Hold_some ?_)))
      (refine Hold1_of ?_; (conv => arg 1; simp only [ev, sop, bounds, loI, hiI, fillParts, binSV, intBin, unSV, simprocAttr, ev2, ev3, ev4, cellsOf_pushm, hc6, r3, resultsSV, resMany, resOne]); refine Hold1_some ?_)
      refine .inr (.inr ⟨hR, out, _, rfl, hO, ?_⟩)
      simp only [if_neg hne]
      refine frz_tup2 (d := 18) ?_ rfl
      have hF : RowsR ((σ3.set (σ1.next + 2) .dead).set (σ.next + 2) (.cells [.sl G 0 (rowsOf (ol o) out (asked out) f.edges).length 5])) (σ1.next + 3) G C (rowsOf (ol o) out (asked out) f.edges) :=
        RowsR.move (by simp [next_set]) (fun i g1 g2 g3 => by simp (disch := first | omega | (simp only [nx_push, nx_set]; done) | (simp only [nx_push, nx_set]; omega)) only [cells_push_ne, cells_push_eq, cells_set_ne, cells_set_eq]) (.inl rfl) hG4
      have hGF : cellsOf ((σ3.set (σ1.next + 2) .dead).set (σ.next + 2) (.cells [.sl G 0 (rowsOf (ol o) out (asked out) f.edges).length 5])) G = some C := by simp (disch := first | omega | (simp only [nx_push, nx_set]; done) | (simp only [nx_push, nx_set]; omega)) only [cells_push_ne, cells_push_eq, cells_set_ne, cells_set_eq, hG3]
      show Sh.frz _ (18 + 1) _ = _
      unfold Sh.frz
      rw [if_neg (by simp [SV.pure])]
      simp only [hGF, Option.bind_some]
      rw [cut_whole hG4.len.symm]
      simp only [Option.bind_some, hF.frz 16, Option.map_some]
      rfl
end Go.Proofs.Ytojjhcgbbmknmaa.Sh

/- Chains: what follows of them (no program in sight). -/
namespace Go.Proofs.Ytojjhcgbbmknmaa.Sh
set_option linter.unusedSimpArgs false
set_option linter.unusedVariables false
open Go Go.Proofs

theorem belowK_at {l : List TileD} {j b : Nat} : ∀ {m : Nat}, b ∈ belowK l j m → b = j ∨ (b < m ∧ ∃ t, l[b]? = some t ∧ 0 ≤ t.parent ∧ t.parent.toNat ∈ belowK l j b)
  | 0, h => by simp [belowK] at h; exact .inl h
  | m + 1, h => by
    rw [belowK, List.mem_append] at h
    rcases h with h | h
    · rcases belowK_at h with h | ⟨h1, h2⟩
      · exact .inl h
      · exact .inr ⟨by omega, h2⟩
    · cases e : l[m]? with
      | none => rw [e] at h; simp at h
      | some t =>
        rw [e] at h
        simp only at h
        split at h
        · rename_i hc
          simp at h; subst h
          exact .inr ⟨by omega, t, e, hc.1, hc.2⟩
        · simp at h
theorem chain_mem {l : List TileD} (hp : parentsOk l) {j : Nat} : ∀ (k : Nat), k < l.length → (j ∈ chain l k ↔ k ∈ belowK l j l.length) := by
  intro k
  induction k using Nat.strongRecOn with
  | ind k ih =>
    intro hk
    obtain ⟨x, hx⟩ := get_of_lt hk
    have hpx := hp k x hx
    rw [chain_eq hp hx, List.mem_cons]
    constructor
    · rintro (rfl | h)
      · exact belowK_mono (m := 0) (by simp [belowK]) (by omega)
      · split at h
        · rename_i h0
          have h1 := (ih x.parent.toNat (by omega) (by omega)).1 h
          refine belowK_mono (belowK_step hx h0 ?_) (show k + 1 ≤ l.length by omega)
          rcases belowK_at h1 with h2 | ⟨_, t, h3, h4, h5⟩
          · rw [h2]; exact belowK_mono (m := 0) (by simp [belowK]) (by omega)
          · exact belowK_mono (belowK_step h3 h4 h5) (by omega)
        · simp at h
    · intro h
      rcases belowK_at h with h2 | ⟨_, t, h3, h4, h5⟩
      · exact .inl h2.symm
      · right
        rw [hx] at h3; cases h3
        rw [if_pos h4]
        exact (ih x.parent.toNat (by omega) (by omega)).2 (belowK_mono h5 (by omega))
theorem chainI_mem {l : List TileD} {j k : Nat} : (j : Int) ∈ chainI l (k : Int) ↔ j ∈ chain l k := by
  unfold chainI
  rw [if_pos (by omega), show ((k : Int)).toNat = k by omega, List.mem_map]
  constructor
  · rintro ⟨i, h1, h2⟩
    have : i = j := by omega
    subst this; exact h1
  · intro h; exact ⟨j, h, rfl⟩
theorem chain_le {l : List TileD} (hp : parentsOk l) {j : Nat} : ∀ k, k < l.length → j ∈ chain l k → j ≤ k := by
  intro k
  induction k using Nat.strongRecOn with
  | ind k ih =>
    intro hk h
    obtain ⟨x, hx⟩ := get_of_lt hk
    have hpx := hp k x hx
    rw [chain_eq hp hx, List.mem_cons] at h
    rcases h with rfl | h
    · exact Nat.le_refl _
    · split at h
      · have := ih x.parent.toNat (by omega) (by omega) h; omega
      · simp at h
/-- All blocks of a tile: those whose own tiles lie in it. -/
theorem RightP.inAll {f : FuncD} {l : List TileD} (h : RightP f l) {b j k : Nat} {x : TileD} (hb : b < f.bl.length) (hx : l[k]? = some x) (hbx : (b : Int) ∈ ol x.blocks) : (b : Int) ∈ allL l j ↔ (j : Int) ∈ chainI l (k : Int) := by
  have hk := (List.getElem?_eq_some_iff.1 hx).1
  rw [chainI_mem, chain_mem h.par k hk, allL_mem, rawK_mem]
  constructor
  · rintro ⟨b', t, h1, h2, h3⟩
    have := h.parts.one hb hx h2 hbx h3
    subst this; exact h1
  · intro h1; exact ⟨k, x, h1, hx, hbx⟩
/-- Each is the next one's child. -/
def Linked (l : List TileD) : List Int → Prop
  | x :: y :: r => (∃ t, l[x.toNat]? = some t ∧ t.parent = y ∧ 0 ≤ x) ∧ Linked l (y :: r)
  | _ => True
theorem Linked.at_ {l : List TileD} : ∀ {L : List Int} {i : Nat} {x y : Int}, Linked l L → L[i]? = some x → L[i + 1]? = some y → ∃ t, l[x.toNat]? = some t ∧ t.parent = y ∧ 0 ≤ x
  | [], i, x, y, _, h, _ => by simp at h
  | [a], i, x, y, _, _, h => by simp at h
  | a :: b :: r, 0, x, y, h, h1, h2 => by
    simp at h1 h2; subst h1 h2
    exact h.1
  | a :: b :: r, i + 1, x, y, h, h1, h2 => Linked.at_ (L := b :: r) h.2 (by simpa using h1) (by simpa using h2)
/-- Closed upwards. -/
def Closed (l : List TileD) (B : List Int) : Prop := ∀ (k : Nat) (x : TileD), (k : Int) ∈ B → l[k]? = some x → 0 ≤ x.parent → x.parent ∈ B
theorem chain_closed {l : List TileD} (hp : parentsOk l) : ∀ k, k < l.length → Closed l (chainI l (k : Int)) := by
  intro k
  induction k using Nat.strongRecOn with
  | ind k ih =>
    intro hk j y hj hy h0
    obtain ⟨x, hx⟩ := get_of_lt hk
    have hpx := hp k x hx
    rw [chainI_eq hp hx] at hj ⊢
    rcases List.mem_cons.1 hj with e | hj
    · have : j = k := by omega
      subst this
      rw [hx] at hy; cases hy
      obtain ⟨p, hpp⟩ := Int.eq_ofNat_of_zero_le h0
      obtain ⟨z, hz⟩ := get_of_lt (show p < l.length by omega)
      rw [hpp, chainI_eq hp hz]
      exact List.mem_cons_of_mem _ List.mem_cons_self
    · by_cases h1 : 0 ≤ x.parent
      · obtain ⟨p, hpp⟩ := Int.eq_ofNat_of_zero_le h1
        rw [hpp] at hj ⊢
        exact List.mem_cons_of_mem _ (ih p (by omega) (by omega) j y hj hy h0)
      · unfold chainI at hj; rw [if_neg h1] at hj; simp at hj
theorem lessL_chain {l : List TileD} (hp : parentsOk l) {B : List Int} (hB : Closed l B) : ∀ k, k < l.length → Linked l (lessL (chainI l (k : Int)) B) ∧ ((k : Int) ∈ B → lessL (chainI l (k : Int)) B = []) ∧ ((k : Int) ∉ B → ∃ r, lessL (chainI l (k : Int)) B = (k : Int) :: r) := by
  intro k
  induction k using Nat.strongRecOn with
  | ind k ih =>
    intro hk
    obtain ⟨x, hx⟩ := get_of_lt hk
    have hpx := hp k x hx
    have e : lessL (chainI l (k : Int)) B = (if (k : Int) ∈ B then [] else [(k : Int)]) ++ lessL (chainI l x.parent) B := by
      rw [chainI_eq hp hx]
      unfold lessL
      by_cases h : (k : Int) ∈ B <;> simp [h]
    by_cases h0 : 0 ≤ x.parent
    · obtain ⟨p, hpp⟩ := Int.eq_ofNat_of_zero_le h0
      obtain ⟨i1, i2, i3⟩ := ih p (by omega) (by omega)
      rw [hpp] at e
      by_cases h : (k : Int) ∈ B
      · have hpB : (p : Int) ∈ B := by rw [← hpp]; exact hB k x h hx h0
        rw [if_pos h, i2 hpB] at e
        exact ⟨by rw [e]; trivial, fun _ => e, fun h' => absurd h h'⟩
      · rw [if_neg h] at e
        refine ⟨?_, fun h' => absurd h' h, fun _ => ⟨_, e⟩⟩
        rw [e]
        by_cases hpB : (p : Int) ∈ B
        · rw [i2 hpB]; trivial
        · obtain ⟨r, hr⟩ := i3 hpB
          rw [hr] at i1 ⊢
          exact ⟨⟨x, by simpa using hx, hpp, by omega⟩, i1⟩
    · have e2 : lessL (chainI l x.parent) B = [] := by unfold chainI; rw [if_neg h0]; rfl
      rw [e2, List.append_nil] at e
      by_cases h : (k : Int) ∈ B
      · rw [if_pos h] at e
        exact ⟨by rw [e]; trivial, fun _ => e, fun h' => absurd h h'⟩
      · rw [if_neg h] at e
        exact ⟨by rw [e]; trivial, fun h' => absurd h' h, fun _ => ⟨_, e⟩⟩
theorem lessL_some {l : List TileD} (hp : parentsOk l) {a b : Nat} (ha : a < l.length) (hb : b < l.length) (hab : a ≠ b) : 0 < (lessL (chainI l (a : Int)) (chainI l (b : Int))).length + (lessL (chainI l (b : Int)) (chainI l (a : Int))).length := by
  by_cases h1 : (a : Int) ∈ chainI l (b : Int)
  · by_cases h2 : (b : Int) ∈ chainI l (a : Int)
    · have g1 := chain_le hp b hb (chainI_mem.1 h1)
      have g2 := chain_le hp a ha (chainI_mem.1 h2)
      omega
    · obtain ⟨r, hr⟩ := (lessL_chain hp (chain_closed hp a ha) b hb).2.2 h2
      rw [hr]; simp; omega
  · obtain ⟨r, hr⟩ := (lessL_chain hp (chain_closed hp b hb) a ha).2.2 h1
    rw [hr]; simp; omega
theorem lessL_mem {A B : List Int} {x : Int} : x ∈ lessL A B ↔ x ∈ A ∧ x ∉ B := by simp [lessL]
theorem OwnIs.uniq {n : Nat} {l : List TileD} {o1 o2 : List Int} (h1 : OwnIs n l (some o1)) (h2 : OwnIs n l (some o2)) : o1 = o2 := by
  obtain ⟨p1, l1, a1⟩ := h1.yes o1 rfl
  obtain ⟨p2, l2, a2⟩ := h2.yes o2 rfl
  apply List.ext_getElem?
  intro b
  by_cases hb : b < n
  · obtain ⟨k, x, g1, g2, g3⟩ := a1 b hb
    obtain ⟨k', x', g4, g5, g6⟩ := a2 b hb
    rw [g3, g6, p1.one hb g1 g4 g2 g5]
  · rw [List.getElem?_eq_none (by omega), List.getElem?_eq_none (by omega)]
end Go.Proofs.Ytojjhcgbbmknmaa.Sh

/- Edges between tiles: all, those into a tile, those out of it. -/
namespace Go.Proofs.Ytojjhcgbbmknmaa.Sh
set_option linter.unusedSimpArgs false
set_option linter.unusedVariables false
open Go Go.Proofs

set_option maxHeartbeats 2000000 in
theorem t_among18 (o : Option (List Int)) (x : Int) (hl : (ol o).length ≤ 2 ^ 40) : Tells 41 [intsV o, .sc (.int .i64 x)] (.sc (.bool (decide (x ∈ ol o)))) := by
  refine tells_fn rfl rfl rfl rfl ?_
  repeat (first | (with_reducible refine Nx.go ?_) | ((with_reducible refine Ny.go ?_); (conv => arg 1; simp only [ev, sop, bounds, loI, hiI, fillParts, binSV, intBin, unSV, simprocAttr, ev2, ev3, ev4, recheck, wantedS, SV.same_self, Bool.and_self]); (first | (with_reducible refine Nz.go ?_) | refine Hold_some ?_)))
  refine WP_blockloop (fun q t σ => ∃ k : Nat, q = (ol o).length - k ∧ k ≤ (ol o).length ∧ getT t 0 = intsV o ∧ getT t 1 = .sc (.int .i64 x) ∧ getT t 5 = .sc (.int .i64 (k : Int)) ∧ ∀ (j : Nat) (y : Int), j < k → (ol o)[j]? = some y → y ≠ x) (k0 := (ol o).length)
    ⟨0, by simp, by omega, by simp only [ev, sop, bounds, loI, hiI, fillParts, binSV, intBin, unSV, simprocAttr, ev2, ev3, ev4], by simp only [ev, sop, bounds, loI, hiI, fillParts, binSV, intBin, unSV, simprocAttr, ev2, ev3, ev4], by simp only [ev, sop, bounds, loI, hiI, fillParts, binSV, intBin, unSV, simprocAttr, ev2, ev3, ev4], fun j y h => by omega⟩ ?_
  rintro q t σ ⟨k, rfl, hk, g0, g1, g5, hI⟩
  by_cases hlt : k < (ol o).length
  · obtain ⟨y, hy⟩ := get_of_lt hlt
    rw [ints_of_lt hlt] at g0
    have hcy := cut_ints hy
    have hlt' : (k : Int) < ((ol o).length : Int) := by omega
    have hk0 : 0 ≤ (k : Int) := by omega
    have hw : IntKind.i64.wrap ((k : Int) + 1) = ((k + 1 : Nat) : Int) := by rw [i64_in _ (by omega) (by omega)]; rfl
    by_cases e : y = x
    · have e' : (y == x) = true := by simpa using e
      repeat (first | (with_reducible refine Nx.go ?_) | ((with_reducible refine Ny.go ?_); (conv => arg 1; simp only [ev, sop, bounds, loI, hiI, fillParts, binSV, intBin, unSV, simprocAttr, ev2, ev3, ev4, g0, g1, g5, hlt, hlt', hk0, hcy, e', recheck, wantedS, SV.same_self, Bool.and_self]); (first | (with_reducible refine Nz.go ?_) | refine Hold_some ?_)))
      (refine Hold1_of ?_; (conv => arg 1; simp only [ev, sop, bounds, loI, hiI, fillParts, binSV, intBin, unSV, simprocAttr, ev2, ev3, ev4, resultsSV, resMany, resOne]); refine Hold1_some ?_)
      rw [decide_eq_true (by rw [← e]; exact List.mem_of_getElem? hy)]
      exact frz_of_pure rfl
    · have e' : (y == x) = false := by simpa using e
      repeat (first | (with_reducible refine Nx.go ?_) | ((with_reducible refine Ny.go ?_); (conv => arg 1; simp only [ev, sop, bounds, loI, hiI, fillParts, binSV, intBin, unSV, simprocAttr, ev2, ev3, ev4, g0, g1, g5, hlt, hlt', hk0, hcy, e', hw, recheck, wantedS, SV.same_self, Bool.and_self]); (first | (with_reducible refine Nz.go ?_) | refine Hold_some ?_)))
      refine ⟨(ol o).length - (k + 1), by omega, k + 1, rfl, by omega, by simp only [ev, sop, bounds, loI, hiI, fillParts, binSV, intBin, unSV, simprocAttr, ev2, ev3, ev4, g0]; exact (ints_of_lt hlt).symm, by simp only [ev, sop, bounds, loI, hiI, fillParts, binSV, intBin, unSV, simprocAttr, ev2, ev3, ev4, g1], by simp only [ev, sop, bounds, loI, hiI, fillParts, binSV, intBin, unSV, simprocAttr, ev2, ev3, ev4], fun j z hj hz => ?_⟩
      by_cases e2 : j = k
      · subst e2; rw [hy] at hz; cases hz; exact e
      · exact hI j z (by omega) hz
  · have hlt' : ¬ (k : Int) < ((ol o).length : Int) := by omega
    repeat (first | (with_reducible refine Nx.go ?_) | ((with_reducible refine Ny.go ?_); (conv => arg 1; simp only [ev, sop, bounds, loI, hiI, fillParts, binSV, intBin, unSV, simprocAttr, ev2, ev3, ev4, g0, g1, g5, hlt', recheck, wantedS, SV.same_self, Bool.and_self]); (first | (with_reducible refine Nz.go ?_) | refine Hold_some ?_)))
    (refine Hold1_of ?_; (conv => arg 1; simp only [ev, sop, bounds, loI, hiI, fillParts, binSV, intBin, unSV, simprocAttr, ev2, ev3, ev4, resultsSV, resMany, resOne]); refine Hold1_some ?_)
    have : x ∉ ol o := fun h => by
      obtain ⟨j, hj⟩ := List.mem_iff_getElem?.1 h
      exact hI j x (by have := (List.getElem?_eq_some_iff.1 hj).1; omega) hj rfl
    rw [decide_eq_false this]
    exact frz_of_pure rfl

theorem asks_between {m : Nat} : Asks m 32 [] [] (fun _ _ => true) := by
  intro o out M e σ _ _ _ _ _
  refine WPC_fn (inline_fn rfl rfl rfl rfl ?_)
  unfold aroundV
  rw [show e.sv = .agg [.sc (.int .i64 e.f), .sc (.int .i64 e.a), .sc (.int .i64 e.t)] from rfl]
  repeat (first | (with_reducible refine Nx.go ?_) | ((with_reducible refine Ny.go ?_); (conv => arg 1; simp only [ev, sop, bounds, loI, hiI, fillParts, binSV, intBin, unSV, simprocAttr, ev2, ev3, ev4, recheck, wantedS, SV.same_self, Bool.and_self]); (first | (with_reducible refine Nz.go ?_) | refine Hold_some ?_)))
  (refine Hold1_of ?_; (conv => arg 1; simp only [ev, sop, bounds, loI, hiI, fillParts, binSV, intBin, unSV, simprocAttr, ev2, ev3, ev4, resultsSV, resMany, resOne]); refine Hold1_some ?_)
  exact ⟨rfl, ((Keeps.refl _).push _).push _⟩
theorem asks_into {m : Nat} (k : Int) : Asks m 42 [.sc (.int .i64 k)] [] (fun out e => out.getD e.t.toNat 0 == k) := by
  intro o out M e σ h1 h2 h3 h4 h5
  refine WPC_fn (inline_fn rfl rfl rfl rfl ?_)
  unfold aroundV
  rw [show e.sv = .agg [.sc (.int .i64 e.f), .sc (.int .i64 e.a), .sc (.int .i64 e.t)] from rfl]
  have hio : intsV (some out) = .lst out.length 1 (out.map SV.int) := rfl
  obtain ⟨b, hb⟩ := Int.eq_ofNat_of_zero_le h3
  rw [hb] at h4 ⊢
  obtain ⟨z, hz⟩ := get_of_lt (show b < out.length by omega)
  have hcz := cut_intsN hz
  have hb0 : 0 ≤ (b : Int) := by omega
  have hb2 : b < out.length := by omega
  simp only [List.cons_append, List.nil_append, List.append_nil]
  repeat (first | (with_reducible refine Nx.go ?_) | ((with_reducible refine Ny.go ?_); (conv => arg 1; simp only [ev, sop, bounds, loI, hiI, fillParts, binSV, intBin, unSV, simprocAttr, ev2, ev3, ev4, hio, h4, hb0, hb2, hcz, recheck, wantedS, SV.same_self, Bool.and_self]); (first | (with_reducible refine Nz.go ?_) | refine Hold_some ?_)))
  (refine Hold1_of ?_; (conv => arg 1; simp only [ev, sop, bounds, loI, hiI, fillParts, binSV, intBin, unSV, simprocAttr, ev2, ev3, ev4, resultsSV, resMany, resOne]); refine Hold1_some ?_)
  refine ⟨?_, ((Keeps.refl _).push _).push _⟩
  rw [List.getD_eq_getElem?_getD, show e.t.toNat = b by omega, hz]
  rfl
theorem asks_out {m : Nat} (k : Int) : Asks m 43 [.sc (.int .i64 k)] [] (fun out e => out.getD e.f.toNat 0 == k) := by
  intro o out M e σ h1 h2 h3 h4 h5
  refine WPC_fn (inline_fn rfl rfl rfl rfl ?_)
  unfold aroundV
  rw [show e.sv = .agg [.sc (.int .i64 e.f), .sc (.int .i64 e.a), .sc (.int .i64 e.t)] from rfl]
  have hio : intsV (some out) = .lst out.length 1 (out.map SV.int) := rfl
  obtain ⟨b, hb⟩ := Int.eq_ofNat_of_zero_le h1
  rw [hb] at h2 ⊢
  obtain ⟨z, hz⟩ := get_of_lt (show b < out.length by omega)
  have hcz := cut_intsN hz
  have hb0 : 0 ≤ (b : Int) := by omega
  have hb2 : b < out.length := by omega
  simp only [List.cons_append, List.nil_append, List.append_nil]
  repeat (first | (with_reducible refine Nx.go ?_) | ((with_reducible refine Ny.go ?_); (conv => arg 1; simp only [ev, sop, bounds, loI, hiI, fillParts, binSV, intBin, unSV, simprocAttr, ev2, ev3, ev4, hio, h2, hb0, hb2, hcz, recheck, wantedS, SV.same_self, Bool.and_self]); (first | (with_reducible refine Nz.go ?_) | refine Hold_some ?_)))
  (refine Hold1_of ?_; (conv => arg 1; simp only [ev, sop, bounds, loI, hiI, fillParts, binSV, intBin, unSV, simprocAttr, ev2, ev3, ev4, resultsSV, resMany, resOne]); refine Hold1_some ?_)
  refine ⟨?_, ((Keeps.refl _).push _).push _⟩
  rw [List.getD_eq_getElem?_getD, show e.f.toNat = b by omega, hz]
  rfl
def nilRs (rs : List RowD) : Option (List RowD) := if rs = [] then none else some rs
theorem ol_nilRs (rs : List RowD) : ol (nilRs rs) = rs := by unfold nilRs; split <;> simp_all [ol]
/-- What is told of edges that are asked for. -/
def EdgesTold (f : FuncD) (l : List TileD) (asked : List Int → EdgeD → Bool) (r : Option (List RowD)) (e : Int) : Prop :=
  (¬ f.fits ∧ r = none ∧ e = 2) ∨ (f.fits ∧ ¬ RightP f l ∧ r = none ∧ e = 12) ∨ (RightP f l ∧ e = 0 ∧ ∃ out, OwnIs f.bl.length l (some out) ∧ r = nilRs (rowsOf l out (asked out) f.edges))
theorem rowsTold_frz {f : FuncD} {o : Option (List TileD)} {asked : List Int → EdgeD → Bool} {σ : St} {v : SV} (h : RowsTold f o asked σ v) : ∃ r e v1, v = .tup [v1, .sc (.int .i64 e)] ∧ frz σ 20 v = some (.tup [rowsR r, .sc (.int .i64 e)]) ∧ EdgesTold f (ol o) asked r e := by
  rcases h with ⟨h1, rfl⟩ | ⟨h1, h2, rfl⟩ | ⟨h1, out, rv, rfl, h2, h3⟩
  · exact ⟨none, 2, _, rfl, frz_pure rfl, .inl ⟨h1, rfl, rfl⟩⟩
  · exact ⟨none, 12, _, rfl, frz_pure rfl, .inr (.inl ⟨h1, h2, rfl, rfl⟩)⟩
  · exact ⟨_, 0, _, rfl, h3, .inr (.inr ⟨h1, rfl, out, h2, rfl⟩)⟩
section
variable {f : FuncD} {o : Option (List TileD)}
set_option maxHeartbeats 2000000 in
theorem t_Between (hl : f.bl.length ≤ 2 ^ 47) (ht : tilesWithin (2 ^ 30) (ol o)) (htot : (blocksOf (ol o)).length ≤ 2 ^ 34) : ∃ r e, Tells 9 [f.sv, tilesV o] (.tup [rowsR r, .sc (.int .i64 e)]) ∧ EdgesTold f (ol o) (fun _ _ => true) r e := by
  suffices h : WPF (EV 13) 9 [f.sv, tilesV o] St.empty (fun v σ => ∃ r e, frz σ 20 v = some (.tup [rowsR r, .sc (.int .i64 e)]) ∧ EdgesTold f (ol o) (fun _ _ => true) r e) by
    obtain ⟨q, v, σ, h1, r, e, h2, h3⟩ := h
    exact ⟨r, e, ⟨_, rfl, q, v, σ, h1, h2⟩, h3⟩
  refine told_fn rfl rfl rfl rfl ?_
  have hr := fun σ => c_rows (m := 13) (by decide) f o hl ht htot asks_between (σ := σ)
  rw [show f.sv = .agg [intsV f.params, blksV f.blocks] from rfl] at *
  repeat (first | (with_reducible refine Nx.go ?_) | ((with_reducible refine Ny.go ?_); (conv => arg 1; simp only [ev, sop, bounds, loI, hiI, fillParts, binSV, intBin, unSV, simprocAttr, ev2, ev3, ev4, recheck, wantedS, SV.same_self, Bool.and_self]); (first | (with_reducible refine Nz.go ?_) | refine Hold_some ?_)))
  refine st_callf (by first | with_reducible exact wantedS_none | (refine wantedS_some ?_; simp only [ev, sop, bounds, loI, hiI, fillParts, binSV, intBin, unSV, simprocAttr, ev2, ev3, ev4]; done)) (by simp only [ev, sop, bounds, loI, hiI, fillParts, binSV, intBin, unSV, simprocAttr, ev2, ev3, ev4] <;> rfl) (by simp only [ev, sop, bounds, loI, hiI, fillParts, binSV, intBin, unSV, simprocAttr, ev2, ev3, ev4] <;> rfl) ?_
  refine (hr _).mono ?_
  rintro v σ h
  obtain ⟨r, e, v1, rfl, hz, ht⟩ := rowsTold_frz h
  refine ⟨recheck_nil, ?_⟩
  repeat (first | (with_reducible refine Nx.go ?_) | ((with_reducible refine Ny.go ?_); (conv => arg 1; simp only [ev, sop, bounds, loI, hiI, fillParts, binSV, intBin, unSV, simprocAttr, ev2, ev3, ev4, recheck, wantedS, SV.same_self, Bool.and_self]); (first | (with_reducible refine Nz.go ?_) | refine Hold_some ?_)))
  (refine Hold1_of ?_; (conv => arg 1; simp only [ev, sop, bounds, loI, hiI, fillParts, binSV, intBin, unSV, simprocAttr, ev2, ev3, ev4, resultsSV, resMany, resOne]); refine Hold1_some ?_)
  exact ⟨r, e, hz, ht⟩
set_option maxHeartbeats 2000000 in
theorem t_Into (k : Int) (hl : f.bl.length ≤ 2 ^ 47) (ht : tilesWithin (2 ^ 30) (ol o)) (htot : (blocksOf (ol o)).length ≤ 2 ^ 34) : ∃ r e, Tells 15 [f.sv, tilesV o, .sc (.int .i64 k)] (.tup [rowsR r, .sc (.int .i64 e)]) ∧ EdgesTold f (ol o) (fun out e => out.getD e.t.toNat 0 == k) r e := by
  suffices h : WPF (EV 13) 15 [f.sv, tilesV o, .sc (.int .i64 k)] St.empty (fun v σ => ∃ r e, frz σ 20 v = some (.tup [rowsR r, .sc (.int .i64 e)]) ∧ EdgesTold f (ol o) (fun out e => out.getD e.t.toNat 0 == k) r e) by
    obtain ⟨q, v, σ, h1, r, e, h2, h3⟩ := h
    exact ⟨r, e, ⟨_, rfl, q, v, σ, h1, h2⟩, h3⟩
  refine told_fn rfl rfl rfl rfl ?_
  have hr := fun σ => c_rows (m := 13) (by decide) f o hl ht htot (asks_into k) (σ := σ)
  rw [show f.sv = .agg [intsV f.params, blksV f.blocks] from rfl] at *
  repeat (first | (with_reducible refine Nx.go ?_) | ((with_reducible refine Ny.go ?_); (conv => arg 1; simp only [ev, sop, bounds, loI, hiI, fillParts, binSV, intBin, unSV, simprocAttr, ev2, ev3, ev4, recheck, wantedS, SV.same_self, Bool.and_self]); (first | (with_reducible refine Nz.go ?_) | refine Hold_some ?_)))
  refine st_callf (by first | with_reducible exact wantedS_none | (refine wantedS_some ?_; simp only [ev, sop, bounds, loI, hiI, fillParts, binSV, intBin, unSV, simprocAttr, ev2, ev3, ev4]; done)) (by simp only [ev, sop, bounds, loI, hiI, fillParts, binSV, intBin, unSV, simprocAttr, ev2, ev3, ev4] <;> rfl) (by simp only [ev, sop, bounds, loI, hiI, fillParts, binSV, intBin, unSV, simprocAttr, ev2, ev3, ev4] <;> rfl) ?_
  refine (hr _).mono ?_
  rintro v σ h
  obtain ⟨r, e, v1, rfl, hz, ht⟩ := rowsTold_frz h
  refine ⟨recheck_nil, ?_⟩
  repeat (first | (with_reducible refine Nx.go ?_) | ((with_reducible refine Ny.go ?_); (conv => arg 1; simp only [ev, sop, bounds, loI, hiI, fillParts, binSV, intBin, unSV, simprocAttr, ev2, ev3, ev4, recheck, wantedS, SV.same_self, Bool.and_self]); (first | (with_reducible refine Nz.go ?_) | refine Hold_some ?_)))
  (refine Hold1_of ?_; (conv => arg 1; simp only [ev, sop, bounds, loI, hiI, fillParts, binSV, intBin, unSV, simprocAttr, ev2, ev3, ev4, resultsSV, resMany, resOne]); refine Hold1_some ?_)
  exact ⟨r, e, hz, ht⟩
set_option maxHeartbeats 2000000 in
theorem t_Out (k : Int) (hl : f.bl.length ≤ 2 ^ 47) (ht : tilesWithin (2 ^ 30) (ol o)) (htot : (blocksOf (ol o)).length ≤ 2 ^ 34) : ∃ r e, Tells 16 [f.sv, tilesV o, .sc (.int .i64 k)] (.tup [rowsR r, .sc (.int .i64 e)]) ∧ EdgesTold f (ol o) (fun out e => out.getD e.f.toNat 0 == k) r e := by
  suffices h : WPF (EV 13) 16 [f.sv, tilesV o, .sc (.int .i64 k)] St.empty (fun v σ => ∃ r e, frz σ 20 v = some (.tup [rowsR r, .sc (.int .i64 e)]) ∧ EdgesTold f (ol o) (fun out e => out.getD e.f.toNat 0 == k) r e) by
    obtain ⟨q, v, σ, h1, r, e, h2, h3⟩ := h
    exact ⟨r, e, ⟨_, rfl, q, v, σ, h1, h2⟩, h3⟩
  refine told_fn rfl rfl rfl rfl ?_
  have hr := fun σ => c_rows (m := 13) (by decide) f o hl ht htot (asks_out k) (σ := σ)
  rw [show f.sv = .agg [intsV f.params, blksV f.blocks] from rfl] at *
  repeat (first | (with_reducible refine Nx.go ?_) | ((with_reducible refine Ny.go ?_); (conv => arg 1; simp only [ev, sop, bounds, loI, hiI, fillParts, binSV, intBin, unSV, simprocAttr, ev2, ev3, ev4, recheck, wantedS, SV.same_self, Bool.and_self]); (first | (with_reducible refine Nz.go ?_) | refine Hold_some ?_)))
  refine st_callf (by first | with_reducible exact wantedS_none | (refine wantedS_some ?_; simp only [ev, sop, bounds, loI, hiI, fillParts, binSV, intBin, unSV, simprocAttr, ev2, ev3, ev4]; done)) (by simp only [ev, sop, bounds, loI, hiI, fillParts, binSV, intBin, unSV, simprocAttr, ev2, ev3, ev4] <;> rfl) (by simp only [ev, sop, bounds, loI, hiI, fillParts, binSV, intBin, unSV, simprocAttr, ev2, ev3, ev4] <;> rfl) ?_
  refine (hr _).mono ?_
  rintro v σ h
  obtain ⟨r, e, v1, rfl, hz, ht⟩ := rowsTold_frz h
  refine ⟨recheck_nil, ?_⟩
  repeat (first | (with_reducible refine Nx.go ?_) | ((with_reducible refine Ny.go ?_); (conv => arg 1; simp only [ev, sop, bounds, loI, hiI, fillParts, binSV, intBin, unSV, simprocAttr, ev2, ev3, ev4, recheck, wantedS, SV.same_self, Bool.and_self]); (first | (with_reducible refine Nz.go ?_) | refine Hold_some ?_)))
  (refine Hold1_of ?_; (conv => arg 1; simp only [ev, sop, bounds, loI, hiI, fillParts, binSV, intBin, unSV, simprocAttr, ev2, ev3, ev4, resultsSV, resMany, resOne]); refine Hold1_some ?_)
  exact ⟨r, e, hz, ht⟩
end
end Go.Proofs.Ytojjhcgbbmknmaa.Sh

/- Law 18: does a row leave, and enter, just what it does? (written by genV9.py) -/
namespace Go.Proofs.Ytojjhcgbbmknmaa.Sh
set_option linter.unusedSimpArgs false
set_option linter.unusedVariables false
open Go Go.Proofs

def RowD.sv (r : RowD) : SV := .agg r.cells
/-- A row is as it should be. -/
structure RowOk (l : List TileD) (r : RowD) (a b : Nat) : Prop where
  ha : r.e.f = (a : Int)
  hb : r.e.t = (b : Int)
  lv : ∀ k, k < l.length → decide ((k : Int) ∈ ol r.lv) = (decide ((a : Int) ∈ allL l k) && !decide ((b : Int) ∈ allL l k))
  en : ∀ k, k < l.length → decide ((k : Int) ∈ ol r.en) = (decide ((b : Int) ∈ allL l k) && !decide ((a : Int) ∈ allL l k))
  down : ∀ (i : Nat) (x y : Int), (ol r.lv)[i]? = some x → (ol r.lv)[i + 1]? = some y → ∃ t, l[x.toNat]? = some t ∧ t.parent = y ∧ 0 ≤ x
  up : ∀ (i : Nat) (x y : Int), (ol r.en)[i]? = some x → (ol r.en)[i + 1]? = some y → ∃ t, l[y.toNat]? = some t ∧ t.parent = x ∧ 0 ≤ y
  pos : 0 < (ol r.lv).length + (ol r.en).length
  len1 : (ol r.lv).length ≤ 2 ^ 20
  len2 : (ol r.en).length ≤ 2 ^ 20
set_option maxHeartbeats 16000000 in
theorem t_crosses {o : Option (List TileD)} {r : RowD} {a b : Nat} (hp : parentsOk (ol o)) (ht : tilesWithin (2 ^ 30) (ol o)) (htot : (blocksOf (ol o)).length ≤ 2 ^ 34) (hk : RowOk (ol o) r a b) : Tells 14 [tilesV o, r.sv] (.sc (.bool true)) := by
  refine tells_fn rfl rfl rfl rfl ?_
  obtain ⟨ha, hb, h1, h2, h3, h4, h5, hl1, hl2⟩ := hk
  have hlen : lenSV (tilesV o) = some (ol o).length := lenSV_rec o
  have htl := ht.1
  rw [show r.sv = .agg [.sc (.int .i64 r.e.f), .sc (.int .i64 r.e.a), .sc (.int .i64 r.e.t), intsV r.lv, intsV r.en] from rfl]
  rw [ha, hb]
  repeat (first | (with_reducible refine Nx.go ?_) | ((with_reducible refine Ny.go ?_); (conv => arg 1; simp only [ev, sop, bounds, loI, hiI, fillParts, binSV, intBin, unSV, simprocAttr, ev2, ev3, ev4, recheck, wantedS, SV.same_self, Bool.and_self]); (first | (with_reducible refine Nz.go ?_) | refine Hold_some ?_)))
  obtain ⟨S, hS⟩ : ∃ S, S = St.empty.push (.cells [.sc (.int .i64 (a : Int)), .sc (.int .i64 r.e.a), .sc (.int .i64 (b : Int)), intsV r.lv, intsV r.en]) := ⟨_, rfl⟩
  have c0 : cellsOf S 0 = some [.sc (.int .i64 (a : Int)), .sc (.int .i64 r.e.a), .sc (.int .i64 (b : Int)), intsV r.lv, intsV r.en] := by rw [hS]; simp only [ev, sop, bounds, loI, hiI, fillParts, binSV, intBin, unSV, simprocAttr, ev2, ev3, ev4]
  rw [← hS]
  clear hS
  refine WP_blockloop (fun q t σ => ∃ k : Nat, q = (ol o).length - k ∧ k ≤ (ol o).length ∧ getT t 0 = tilesV o ∧ getT t 3 = .ptr 0 0 ∧ getT t 5 = .sc (.int .i64 (k : Int)) ∧ S = σ) (k0 := (ol o).length)
    ⟨0, by simp, by omega, by simp only [ev, sop, bounds, loI, hiI, fillParts, binSV, intBin, unSV, simprocAttr, ev2, ev3, ev4], by simp only [ev, sop, bounds, loI, hiI, fillParts, binSV, intBin, unSV, simprocAttr, ev2, ev3, ev4], by simp only [ev, sop, bounds, loI, hiI, fillParts, binSV, intBin, unSV, simprocAttr, ev2, ev3, ev4], rfl⟩ ?_
  rintro q t σ ⟨k, rfl, hk, g0, g3, g5, rfl⟩
  by_cases hkt : k < (ol o).length
  · have hkt' : (k : Int) < ((ol o).length : Int) := by omega
    have hw1 : IntKind.i64.wrap ((k : Int) + 1) = ((k + 1 : Nat) : Int) := by rw [i64_in _ (by omega) (by omega)]; rfl
    obtain ⟨ra, hra1, hra2, _⟩ := t_tAll o (k : Int) ht htot
    have hra := hra2 k rfl hkt hp
    have hal := allL_len (ol o) k
    have wa := t_among18 ra (a : Int) (by rw [hra]; omega)
    have wb := t_among18 ra (b : Int) (by rw [hra]; omega)
    rw [hra] at wa wb
    cases hA : decide ((a : Int) ∈ allL (ol o) k) <;> cases hB : decide ((b : Int) ∈ allL (ol o) k)
    · have hlv := h1 k hkt
      have hen := h2 k hkt
      rw [hA, hB] at hlv hen
      have wl := t_among18 r.lv (k : Int) (by omega)
      have we := t_among18 r.en (k : Int) (by omega)
      rw [hA] at wa
      rw [hB] at wb
      rw [show decide ((k : Int) ∈ ol r.lv) = false from hlv] at wl
      rw [show decide ((k : Int) ∈ ol r.en) = false from hen] at we
      repeat (first | (with_reducible refine Nx.go ?_) | ((with_reducible refine Ny.go ?_); (conv => arg 1; simp only [ev, sop, bounds, loI, hiI, fillParts, binSV, intBin, unSV, simprocAttr, ev2, ev3, ev4, g0, g3, g5, hlen, hkt', c0, recheck, wantedS, SV.same_self, Bool.and_self]); (first | (with_reducible refine Nz.go ?_) | refine Hold_some ?_)))
      refine st_tellp (hra1) ⟨_, rfl, by first | omega | decide⟩ wantedS_none (by simp only [ev, sop, bounds, loI, hiI, fillParts, binSV, intBin, unSV, simprocAttr, ev2, ev3, ev4, g0, g3, g5, hlen, hkt', c0] <;> rfl) (by first | rfl | simp [pures, SV.pure, *, pure_func, pure_ints, pure_blks, pure_insV, pure_rows, pure_tiles, pure_set, pures_set, pures_tiles, pure_edges, pure_edge, pures_row]) (by first | with_reducible exact recheck_nil | (simp only [recheck, wantedS]; simp only [ev, sop, bounds, loI, hiI, fillParts, binSV, intBin, unSV, simprocAttr, ev2, ev3, ev4, g0, g3, g5, hlen, hkt', c0]; simp only [SV.same_self, Bool.and_self, beq_self_eq_true])) ?_
      repeat (first | (with_reducible refine Nx.go ?_) | ((with_reducible refine Ny.go ?_); (conv => arg 1; simp only [ev, sop, bounds, loI, hiI, fillParts, binSV, intBin, unSV, simprocAttr, ev2, ev3, ev4, g3, c0, recheck, wantedS, SV.same_self, Bool.and_self]); (first | (with_reducible refine Nz.go ?_) | refine Hold_some ?_)))
      refine st_tellp (wa) ⟨_, rfl, by first | omega | decide⟩ wantedS_none (by simp only [ev, sop, bounds, loI, hiI, fillParts, binSV, intBin, unSV, simprocAttr, ev2, ev3, ev4, g3, c0] <;> rfl) (by first | rfl | simp [pures, SV.pure, *, pure_func, pure_ints, pure_blks, pure_insV, pure_rows, pure_tiles, pure_set, pures_set, pures_tiles, pure_edges, pure_edge, pures_row]) (by first | with_reducible exact recheck_nil | (simp only [recheck, wantedS]; simp only [ev, sop, bounds, loI, hiI, fillParts, binSV, intBin, unSV, simprocAttr, ev2, ev3, ev4, g3, c0]; simp only [SV.same_self, Bool.and_self, beq_self_eq_true])) ?_
      repeat (first | (with_reducible refine Nx.go ?_) | ((with_reducible refine Ny.go ?_); (conv => arg 1; simp only [ev, sop, bounds, loI, hiI, fillParts, binSV, intBin, unSV, simprocAttr, ev2, ev3, ev4, g3, c0, recheck, wantedS, SV.same_self, Bool.and_self]); (first | (with_reducible refine Nz.go ?_) | refine Hold_some ?_)))
      refine st_tellp (wb) ⟨_, rfl, by first | omega | decide⟩ wantedS_none (by simp only [ev, sop, bounds, loI, hiI, fillParts, binSV, intBin, unSV, simprocAttr, ev2, ev3, ev4, g3, c0] <;> rfl) (by first | rfl | simp [pures, SV.pure, *, pure_func, pure_ints, pure_blks, pure_insV, pure_rows, pure_tiles, pure_set, pures_set, pures_tiles, pure_edges, pure_edge, pures_row]) (by first | with_reducible exact recheck_nil | (simp only [recheck, wantedS]; simp only [ev, sop, bounds, loI, hiI, fillParts, binSV, intBin, unSV, simprocAttr, ev2, ev3, ev4, g3, c0]; simp only [SV.same_self, Bool.and_self, beq_self_eq_true])) ?_
      repeat (first | (with_reducible refine Nx.go ?_) | ((with_reducible refine Ny.go ?_); (conv => arg 1; simp only [ev, sop, bounds, loI, hiI, fillParts, binSV, intBin, unSV, simprocAttr, ev2, ev3, ev4, g3, g5, c0, recheck, wantedS, SV.same_self, Bool.and_self]); (first | (with_reducible refine Nz.go ?_) | refine Hold_some ?_)))
      refine st_tellp (wl) ⟨_, rfl, by first | omega | decide⟩ wantedS_none (by simp only [ev, sop, bounds, loI, hiI, fillParts, binSV, intBin, unSV, simprocAttr, ev2, ev3, ev4, g3, g5, c0] <;> rfl) (by first | rfl | simp [pures, SV.pure, *, pure_func, pure_ints, pure_blks, pure_insV, pure_rows, pure_tiles, pure_set, pures_set, pures_tiles, pure_edges, pure_edge, pures_row]) (by first | with_reducible exact recheck_nil | (simp only [recheck, wantedS]; simp only [ev, sop, bounds, loI, hiI, fillParts, binSV, intBin, unSV, simprocAttr, ev2, ev3, ev4, g3, g5, c0]; simp only [SV.same_self, Bool.and_self, beq_self_eq_true])) ?_
      repeat (first | (with_reducible refine Nx.go ?_) | ((with_reducible refine Ny.go ?_); (conv => arg 1; simp only [ev, sop, bounds, loI, hiI, fillParts, binSV, intBin, unSV, simprocAttr, ev2, ev3, ev4, g3, g5, c0, beqs, recheck, wantedS, SV.same_self, Bool.and_self]); (first | (with_reducible refine Nz.go ?_) | refine Hold_some ?_)))
      refine st_tellp (we) ⟨_, rfl, by first | omega | decide⟩ wantedS_none (by simp only [ev, sop, bounds, loI, hiI, fillParts, binSV, intBin, unSV, simprocAttr, ev2, ev3, ev4, g3, g5, c0] <;> rfl) (by first | rfl | simp [pures, SV.pure, *, pure_func, pure_ints, pure_blks, pure_insV, pure_rows, pure_tiles, pure_set, pures_set, pures_tiles, pure_edges, pure_edge, pures_row]) (by first | with_reducible exact recheck_nil | (simp only [recheck, wantedS]; simp only [ev, sop, bounds, loI, hiI, fillParts, binSV, intBin, unSV, simprocAttr, ev2, ev3, ev4, g3, g5, c0]; simp only [SV.same_self, Bool.and_self, beq_self_eq_true])) ?_
      repeat (first | (with_reducible refine Nx.go ?_) | ((with_reducible refine Ny.go ?_); (conv => arg 1; simp only [ev, sop, bounds, loI, hiI, fillParts, binSV, intBin, unSV, simprocAttr, ev2, ev3, ev4, g5, hw1, beqs, recheck, wantedS, SV.same_self, Bool.and_self]); (first | (with_reducible refine Nz.go ?_) | refine Hold_some ?_)))
      exact ⟨(ol o).length - (k + 1), by omega, k + 1, rfl, by omega, by simp only [ev, sop, bounds, loI, hiI, fillParts, binSV, intBin, unSV, simprocAttr, ev2, ev3, ev4, g0], by simp only [ev, sop, bounds, loI, hiI, fillParts, binSV, intBin, unSV, simprocAttr, ev2, ev3, ev4, g3], by simp only [ev, sop, bounds, loI, hiI, fillParts, binSV, intBin, unSV, simprocAttr, ev2, ev3, ev4], rfl⟩
    · have hlv := h1 k hkt
      have hen := h2 k hkt
      rw [hA, hB] at hlv hen
      have wl := t_among18 r.lv (k : Int) (by omega)
      have we := t_among18 r.en (k : Int) (by omega)
      rw [hA] at wa
      rw [hB] at wb
      rw [show decide ((k : Int) ∈ ol r.lv) = false from hlv] at wl
      rw [show decide ((k : Int) ∈ ol r.en) = true from hen] at we
      repeat (first | (with_reducible refine Nx.go ?_) | ((with_reducible refine Ny.go ?_); (conv => arg 1; simp only [ev, sop, bounds, loI, hiI, fillParts, binSV, intBin, unSV, simprocAttr, ev2, ev3, ev4, g0, g3, g5, hlen, hkt', c0, recheck, wantedS, SV.same_self, Bool.and_self]); (first | (with_reducible refine Nz.go ?_) | refine Hold_some ?_)))
      refine st_tellp (hra1) ⟨_, rfl, by first | omega | decide⟩ wantedS_none (by simp only [ev, sop, bounds, loI, hiI, fillParts, binSV, intBin, unSV, simprocAttr, ev2, ev3, ev4, g0, g3, g5, hlen, hkt', c0] <;> rfl) (by first | rfl | simp [pures, SV.pure, *, pure_func, pure_ints, pure_blks, pure_insV, pure_rows, pure_tiles, pure_set, pures_set, pures_tiles, pure_edges, pure_edge, pures_row]) (by first | with_reducible exact recheck_nil | (simp only [recheck, wantedS]; simp only [ev, sop, bounds, loI, hiI, fillParts, binSV, intBin, unSV, simprocAttr, ev2, ev3, ev4, g0, g3, g5, hlen, hkt', c0]; simp only [SV.same_self, Bool.and_self, beq_self_eq_true])) ?_
      repeat (first | (with_reducible refine Nx.go ?_) | ((with_reducible refine Ny.go ?_); (conv => arg 1; simp only [ev, sop, bounds, loI, hiI, fillParts, binSV, intBin, unSV, simprocAttr, ev2, ev3, ev4, g3, c0, recheck, wantedS, SV.same_self, Bool.and_self]); (first | (with_reducible refine Nz.go ?_) | refine Hold_some ?_)))
      refine st_tellp (wa) ⟨_, rfl, by first | omega | decide⟩ wantedS_none (by simp only [ev, sop, bounds, loI, hiI, fillParts, binSV, intBin, unSV, simprocAttr, ev2, ev3, ev4, g3, c0] <;> rfl) (by first | rfl | simp [pures, SV.pure, *, pure_func, pure_ints, pure_blks, pure_insV, pure_rows, pure_tiles, pure_set, pures_set, pures_tiles, pure_edges, pure_edge, pures_row]) (by first | with_reducible exact recheck_nil | (simp only [recheck, wantedS]; simp only [ev, sop, bounds, loI, hiI, fillParts, binSV, intBin, unSV, simprocAttr, ev2, ev3, ev4, g3, c0]; simp only [SV.same_self, Bool.and_self, beq_self_eq_true])) ?_
      repeat (first | (with_reducible refine Nx.go ?_) | ((with_reducible refine Ny.go ?_); (conv => arg 1; simp only [ev, sop, bounds, loI, hiI, fillParts, binSV, intBin, unSV, simprocAttr, ev2, ev3, ev4, g3, c0, recheck, wantedS, SV.same_self, Bool.and_self]); (first | (with_reducible refine Nz.go ?_) | refine Hold_some ?_)))
      refine st_tellp (wb) ⟨_, rfl, by first | omega | decide⟩ wantedS_none (by simp only [ev, sop, bounds, loI, hiI, fillParts, binSV, intBin, unSV, simprocAttr, ev2, ev3, ev4, g3, c0] <;> rfl) (by first | rfl | simp [pures, SV.pure, *, pure_func, pure_ints, pure_blks, pure_insV, pure_rows, pure_tiles, pure_set, pures_set, pures_tiles, pure_edges, pure_edge, pures_row]) (by first | with_reducible exact recheck_nil | (simp only [recheck, wantedS]; simp only [ev, sop, bounds, loI, hiI, fillParts, binSV, intBin, unSV, simprocAttr, ev2, ev3, ev4, g3, c0]; simp only [SV.same_self, Bool.and_self, beq_self_eq_true])) ?_
      repeat (first | (with_reducible refine Nx.go ?_) | ((with_reducible refine Ny.go ?_); (conv => arg 1; simp only [ev, sop, bounds, loI, hiI, fillParts, binSV, intBin, unSV, simprocAttr, ev2, ev3, ev4, g3, g5, c0, recheck, wantedS, SV.same_self, Bool.and_self]); (first | (with_reducible refine Nz.go ?_) | refine Hold_some ?_)))
      refine st_tellp (wl) ⟨_, rfl, by first | omega | decide⟩ wantedS_none (by simp only [ev, sop, bounds, loI, hiI, fillParts, binSV, intBin, unSV, simprocAttr, ev2, ev3, ev4, g3, g5, c0] <;> rfl) (by first | rfl | simp [pures, SV.pure, *, pure_func, pure_ints, pure_blks, pure_insV, pure_rows, pure_tiles, pure_set, pures_set, pures_tiles, pure_edges, pure_edge, pures_row]) (by first | with_reducible exact recheck_nil | (simp only [recheck, wantedS]; simp only [ev, sop, bounds, loI, hiI, fillParts, binSV, intBin, unSV, simprocAttr, ev2, ev3, ev4, g3, g5, c0]; simp only [SV.same_self, Bool.and_self, beq_self_eq_true])) ?_
      repeat (first | (with_reducible refine Nx.go ?_) | ((with_reducible refine Ny.go ?_); (conv => arg 1; simp only [ev, sop, bounds, loI, hiI, fillParts, binSV, intBin, unSV, simprocAttr, ev2, ev3, ev4, g3, g5, c0, beqs, recheck, wantedS, SV.same_self, Bool.and_self]); (first | (with_reducible refine Nz.go ?_) | refine Hold_some ?_)))
      refine st_tellp (we) ⟨_, rfl, by first | omega | decide⟩ wantedS_none (by simp only [ev, sop, bounds, loI, hiI, fillParts, binSV, intBin, unSV, simprocAttr, ev2, ev3, ev4, g3, g5, c0] <;> rfl) (by first | rfl | simp [pures, SV.pure, *, pure_func, pure_ints, pure_blks, pure_insV, pure_rows, pure_tiles, pure_set, pures_set, pures_tiles, pure_edges, pure_edge, pures_row]) (by first | with_reducible exact recheck_nil | (simp only [recheck, wantedS]; simp only [ev, sop, bounds, loI, hiI, fillParts, binSV, intBin, unSV, simprocAttr, ev2, ev3, ev4, g3, g5, c0]; simp only [SV.same_self, Bool.and_self, beq_self_eq_true])) ?_
      repeat (first | (with_reducible refine Nx.go ?_) | ((with_reducible refine Ny.go ?_); (conv => arg 1; simp only [ev, sop, bounds, loI, hiI, fillParts, binSV, intBin, unSV, simprocAttr, ev2, ev3, ev4, g5, hw1, beqs, recheck, wantedS, SV.same_self, Bool.and_self]); (first | (with_reducible refine Nz.go ?_) | refine Hold_some ?_)))
      exact ⟨(ol o).length - (k + 1), by omega, k + 1, rfl, by omega, by simp only [ev, sop, bounds, loI, hiI, fillParts, binSV, intBin, unSV, simprocAttr, ev2, ev3, ev4, g0], by simp only [ev, sop, bounds, loI, hiI, fillParts, binSV, intBin, unSV, simprocAttr, ev2, ev3, ev4, g3], by simp only [ev, sop, bounds, loI, hiI, fillParts, binSV, intBin, unSV, simprocAttr, ev2, ev3, ev4], rfl⟩
    · have hlv := h1 k hkt
      have hen := h2 k hkt
      rw [hA, hB] at hlv hen
      have wl := t_among18 r.lv (k : Int) (by omega)
      have we := t_among18 r.en (k : Int) (by omega)
      rw [hA] at wa
      rw [hB] at wb
      rw [show decide ((k : Int) ∈ ol r.lv) = true from hlv] at wl
      rw [show decide ((k : Int) ∈ ol r.en) = false from hen] at we
      repeat (first | (with_reducible refine Nx.go ?_) | ((with_reducible refine Ny.go ?_); (conv => arg 1; simp only [ev, sop, bounds, loI, hiI, fillParts, binSV, intBin, unSV, simprocAttr, ev2, ev3, ev4, g0, g3, g5, hlen, hkt', c0, recheck, wantedS, SV.same_self, Bool.and_self]); (first | (with_reducible refine Nz.go ?_) | refine Hold_some ?_)))
      refine st_tellp (hra1) ⟨_, rfl, by first | omega | decide⟩ wantedS_none (by simp only [ev, sop, bounds, loI, hiI, fillParts, binSV, intBin, unSV, simprocAttr, ev2, ev3, ev4, g0, g3, g5, hlen, hkt', c0] <;> rfl) (by first | rfl | simp [pures, SV.pure, *, pure_func, pure_ints, pure_blks, pure_insV, pure_rows, pure_tiles, pure_set, pures_set, pures_tiles, pure_edges, pure_edge, pures_row]) (by first | with_reducible exact recheck_nil | (simp only [recheck, wantedS]; simp only [ev, sop, bounds, loI, hiI, fillParts, binSV, intBin, unSV, simprocAttr, ev2, ev3, ev4, g0, g3, g5, hlen, hkt', c0]; simp only [SV.same_self, Bool.and_self, beq_self_eq_true])) ?_
      repeat (first | (with_reducible refine Nx.go ?_) | ((with_reducible refine Ny.go ?_); (conv => arg 1; simp only [ev, sop, bounds, loI, hiI, fillParts, binSV, intBin, unSV, simprocAttr, ev2, ev3, ev4, g3, c0, recheck, wantedS, SV.same_self, Bool.and_self]); (first | (with_reducible refine Nz.go ?_) | refine Hold_some ?_)))
      refine st_tellp (wa) ⟨_, rfl, by first | omega | decide⟩ wantedS_none (by simp only [ev, sop, bounds, loI, hiI, fillParts, binSV, intBin, unSV, simprocAttr, ev2, ev3, ev4, g3, c0] <;> rfl) (by first | rfl | simp [pures, SV.pure, *, pure_func, pure_ints, pure_blks, pure_insV, pure_rows, pure_tiles, pure_set, pures_set, pures_tiles, pure_edges, pure_edge, pures_row]) (by first | with_reducible exact recheck_nil | (simp only [recheck, wantedS]; simp only [ev, sop, bounds, loI, hiI, fillParts, binSV, intBin, unSV, simprocAttr, ev2, ev3, ev4, g3, c0]; simp only [SV.same_self, Bool.and_self, beq_self_eq_true])) ?_
      repeat (first | (with_reducible refine Nx.go ?_) | ((with_reducible refine Ny.go ?_); (conv => arg 1; simp only [ev, sop, bounds, loI, hiI, fillParts, binSV, intBin, unSV, simprocAttr, ev2, ev3, ev4, g3, c0, recheck, wantedS, SV.same_self, Bool.and_self]); (first | (with_reducible refine Nz.go ?_) | refine Hold_some ?_)))
      refine st_tellp (wb) ⟨_, rfl, by first | omega | decide⟩ wantedS_none (by simp only [ev, sop, bounds, loI, hiI, fillParts, binSV, intBin, unSV, simprocAttr, ev2, ev3, ev4, g3, c0] <;> rfl) (by first | rfl | simp [pures, SV.pure, *, pure_func, pure_ints, pure_blks, pure_insV, pure_rows, pure_tiles, pure_set, pures_set, pures_tiles, pure_edges, pure_edge, pures_row]) (by first | with_reducible exact recheck_nil | (simp only [recheck, wantedS]; simp only [ev, sop, bounds, loI, hiI, fillParts, binSV, intBin, unSV, simprocAttr, ev2, ev3, ev4, g3, c0]; simp only [SV.same_self, Bool.and_self, beq_self_eq_true])) ?_
      repeat (first | (with_reducible refine Nx.go ?_) | ((with_reducible refine Ny.go ?_); (conv => arg 1; simp only [ev, sop, bounds, loI, hiI, fillParts, binSV, intBin, unSV, simprocAttr, ev2, ev3, ev4, g3, g5, c0, recheck, wantedS, SV.same_self, Bool.and_self]); (first | (with_reducible refine Nz.go ?_) | refine Hold_some ?_)))
      refine st_tellp (wl) ⟨_, rfl, by first | omega | decide⟩ wantedS_none (by simp only [ev, sop, bounds, loI, hiI, fillParts, binSV, intBin, unSV, simprocAttr, ev2, ev3, ev4, g3, g5, c0] <;> rfl) (by first | rfl | simp [pures, SV.pure, *, pure_func, pure_ints, pure_blks, pure_insV, pure_rows, pure_tiles, pure_set, pures_set, pures_tiles, pure_edges, pure_edge, pures_row]) (by first | with_reducible exact recheck_nil | (simp only [recheck, wantedS]; simp only [ev, sop, bounds, loI, hiI, fillParts, binSV, intBin, unSV, simprocAttr, ev2, ev3, ev4, g3, g5, c0]; simp only [SV.same_self, Bool.and_self, beq_self_eq_true])) ?_
      repeat (first | (with_reducible refine Nx.go ?_) | ((with_reducible refine Ny.go ?_); (conv => arg 1; simp only [ev, sop, bounds, loI, hiI, fillParts, binSV, intBin, unSV, simprocAttr, ev2, ev3, ev4, g3, g5, c0, beqs, recheck, wantedS, SV.same_self, Bool.and_self]); (first | (with_reducible refine Nz.go ?_) | refine Hold_some ?_)))
      refine st_tellp (we) ⟨_, rfl, by first | omega | decide⟩ wantedS_none (by simp only [ev, sop, bounds, loI, hiI, fillParts, binSV, intBin, unSV, simprocAttr, ev2, ev3, ev4, g3, g5, c0] <;> rfl) (by first | rfl | simp [pures, SV.pure, *, pure_func, pure_ints, pure_blks, pure_insV, pure_rows, pure_tiles, pure_set, pures_set, pures_tiles, pure_edges, pure_edge, pures_row]) (by first | with_reducible exact recheck_nil | (simp only [recheck, wantedS]; simp only [ev, sop, bounds, loI, hiI, fillParts, binSV, intBin, unSV, simprocAttr, ev2, ev3, ev4, g3, g5, c0]; simp only [SV.same_self, Bool.and_self, beq_self_eq_true])) ?_
      repeat (first | (with_reducible refine Nx.go ?_) | ((with_reducible refine Ny.go ?_); (conv => arg 1; simp only [ev, sop, bounds, loI, hiI, fillParts, binSV, intBin, unSV, simprocAttr, ev2, ev3, ev4, g5, hw1, beqs, recheck, wantedS, SV.same_self, Bool.and_self]); (first | (with_reducible refine Nz.go ?_) | refine Hold_some ?_)))
      exact ⟨(ol o).length - (k + 1), by omega, k + 1, rfl, by omega, by simp only [ev, sop, bounds, loI, hiI, fillParts, binSV, intBin, unSV, simprocAttr, ev2, ev3, ev4, g0], by simp only [ev, sop, bounds, loI, hiI, fillParts, binSV, intBin, unSV, simprocAttr, ev2, ev3, ev4, g3], by simp only [ev, sop, bounds, loI, hiI, fillParts, binSV, intBin, unSV, simprocAttr, ev2, ev3, ev4], rfl⟩
    · have hlv := h1 k hkt
      have hen := h2 k hkt
      rw [hA, hB] at hlv hen
      have wl := t_among18 r.lv (k : Int) (by omega)
      have we := t_among18 r.en (k : Int) (by omega)
      rw [hA] at wa
      rw [hB] at wb
      rw [show decide ((k : Int) ∈ ol r.lv) = false from hlv] at wl
      rw [show decide ((k : Int) ∈ ol r.en) = false from hen] at we
      repeat (first | (with_reducible refine Nx.go ?_) | ((with_reducible refine Ny.go ?_); (conv => arg 1; simp only [ev, sop, bounds, loI, hiI, fillParts, binSV, intBin, unSV, simprocAttr, ev2, ev3, ev4, g0, g3, g5, hlen, hkt', c0, recheck, wantedS, SV.same_self, Bool.and_self]); (first | (with_reducible refine Nz.go ?_) | refine Hold_some ?_)))
      refine st_tellp (hra1) ⟨_, rfl, by first | omega | decide⟩ wantedS_none (by simp only [ev, sop, bounds, loI, hiI, fillParts, binSV, intBin, unSV, simprocAttr, ev2, ev3, ev4, g0, g3, g5, hlen, hkt', c0] <;> rfl) (by first | rfl | simp [pures, SV.pure, *, pure_func, pure_ints, pure_blks, pure_insV, pure_rows, pure_tiles, pure_set, pures_set, pures_tiles, pure_edges, pure_edge, pures_row]) (by first | with_reducible exact recheck_nil | (simp only [recheck, wantedS]; simp only [ev, sop, bounds, loI, hiI, fillParts, binSV, intBin, unSV, simprocAttr, ev2, ev3, ev4, g0, g3, g5, hlen, hkt', c0]; simp only [SV.same_self, Bool.and_self, beq_self_eq_true])) ?_
      repeat (first | (with_reducible refine Nx.go ?_) | ((with_reducible refine Ny.go ?_); (conv => arg 1; simp only [ev, sop, bounds, loI, hiI, fillParts, binSV, intBin, unSV, simprocAttr, ev2, ev3, ev4, g3, c0, recheck, wantedS, SV.same_self, Bool.and_self]); (first | (with_reducible refine Nz.go ?_) | refine Hold_some ?_)))
      refine st_tellp (wa) ⟨_, rfl, by first | omega | decide⟩ wantedS_none (by simp only [ev, sop, bounds, loI, hiI, fillParts, binSV, intBin, unSV, simprocAttr, ev2, ev3, ev4, g3, c0] <;> rfl) (by first | rfl | simp [pures, SV.pure, *, pure_func, pure_ints, pure_blks, pure_insV, pure_rows, pure_tiles, pure_set, pures_set, pures_tiles, pure_edges, pure_edge, pures_row]) (by first | with_reducible exact recheck_nil | (simp only [recheck, wantedS]; simp only [ev, sop, bounds, loI, hiI, fillParts, binSV, intBin, unSV, simprocAttr, ev2, ev3, ev4, g3, c0]; simp only [SV.same_self, Bool.and_self, beq_self_eq_true])) ?_
      repeat (first | (with_reducible refine Nx.go ?_) | ((with_reducible refine Ny.go ?_); (conv => arg 1; simp only [ev, sop, bounds, loI, hiI, fillParts, binSV, intBin, unSV, simprocAttr, ev2, ev3, ev4, g3, c0, recheck, wantedS, SV.same_self, Bool.and_self]); (first | (with_reducible refine Nz.go ?_) | refine Hold_some ?_)))
      refine st_tellp (wb) ⟨_, rfl, by first | omega | decide⟩ wantedS_none (by simp only [ev, sop, bounds, loI, hiI, fillParts, binSV, intBin, unSV, simprocAttr, ev2, ev3, ev4, g3, c0] <;> rfl) (by first | rfl | simp [pures, SV.pure, *, pure_func, pure_ints, pure_blks, pure_insV, pure_rows, pure_tiles, pure_set, pures_set, pures_tiles, pure_edges, pure_edge, pures_row]) (by first | with_reducible exact recheck_nil | (simp only [recheck, wantedS]; simp only [ev, sop, bounds, loI, hiI, fillParts, binSV, intBin, unSV, simprocAttr, ev2, ev3, ev4, g3, c0]; simp only [SV.same_self, Bool.and_self, beq_self_eq_true])) ?_
      repeat (first | (with_reducible refine Nx.go ?_) | ((with_reducible refine Ny.go ?_); (conv => arg 1; simp only [ev, sop, bounds, loI, hiI, fillParts, binSV, intBin, unSV, simprocAttr, ev2, ev3, ev4, g3, g5, c0, recheck, wantedS, SV.same_self, Bool.and_self]); (first | (with_reducible refine Nz.go ?_) | refine Hold_some ?_)))
      refine st_tellp (wl) ⟨_, rfl, by first | omega | decide⟩ wantedS_none (by simp only [ev, sop, bounds, loI, hiI, fillParts, binSV, intBin, unSV, simprocAttr, ev2, ev3, ev4, g3, g5, c0] <;> rfl) (by first | rfl | simp [pures, SV.pure, *, pure_func, pure_ints, pure_blks, pure_insV, pure_rows, pure_tiles, pure_set, pures_set, pures_tiles, pure_edges, pure_edge, pures_row]) (by first | with_reducible exact recheck_nil | (simp only [recheck, wantedS]; simp only [ev, sop, bounds, loI, hiI, fillParts, binSV, intBin, unSV, simprocAttr, ev2, ev3, ev4, g3, g5, c0]; simp only [SV.same_self, Bool.and_self, beq_self_eq_true])) ?_
      repeat (first | (with_reducible refine Nx.go ?_) | ((with_reducible refine Ny.go ?_); (conv => arg 1; simp only [ev, sop, bounds, loI, hiI, fillParts, binSV, intBin, unSV, simprocAttr, ev2, ev3, ev4, g3, g5, c0, beqs, recheck, wantedS, SV.same_self, Bool.and_self]); (first | (with_reducible refine Nz.go ?_) | refine Hold_some ?_)))
      refine st_tellp (we) ⟨_, rfl, by first | omega | decide⟩ wantedS_none (by simp only [ev, sop, bounds, loI, hiI, fillParts, binSV, intBin, unSV, simprocAttr, ev2, ev3, ev4, g3, g5, c0] <;> rfl) (by first | rfl | simp [pures, SV.pure, *, pure_func, pure_ints, pure_blks, pure_insV, pure_rows, pure_tiles, pure_set, pures_set, pures_tiles, pure_edges, pure_edge, pures_row]) (by first | with_reducible exact recheck_nil | (simp only [recheck, wantedS]; simp only [ev, sop, bounds, loI, hiI, fillParts, binSV, intBin, unSV, simprocAttr, ev2, ev3, ev4, g3, g5, c0]; simp only [SV.same_self, Bool.and_self, beq_self_eq_true])) ?_
      repeat (first | (with_reducible refine Nx.go ?_) | ((with_reducible refine Ny.go ?_); (conv => arg 1; simp only [ev, sop, bounds, loI, hiI, fillParts, binSV, intBin, unSV, simprocAttr, ev2, ev3, ev4, g5, hw1, beqs, recheck, wantedS, SV.same_self, Bool.and_self]); (first | (with_reducible refine Nz.go ?_) | refine Hold_some ?_)))
      exact ⟨(ol o).length - (k + 1), by omega, k + 1, rfl, by omega, by simp only [ev, sop, bounds, loI, hiI, fillParts, binSV, intBin, unSV, simprocAttr, ev2, ev3, ev4, g0], by simp only [ev, sop, bounds, loI, hiI, fillParts, binSV, intBin, unSV, simprocAttr, ev2, ev3, ev4, g3], by simp only [ev, sop, bounds, loI, hiI, fillParts, binSV, intBin, unSV, simprocAttr, ev2, ev3, ev4], rfl⟩
  have hkt' : ¬ (k : Int) < ((ol o).length : Int) := by omega
  repeat (first | (with_reducible refine Nx.go ?_) | ((with_reducible refine Ny.go ?_); (conv => arg 1; simp only [ev, sop, bounds, loI, hiI, fillParts, binSV, intBin, unSV, simprocAttr, ev2, ev3, ev4, g0, g5, hlen, hkt', recheck, wantedS, SV.same_self, Bool.and_self]); (first | (with_reducible refine Nz.go ?_) | refine Hold_some ?_)))
  refine WP_blockloop (fun q t σ => ∃ i : Nat, q = (ol r.lv).length - i ∧ 1 ≤ i ∧ getT t 0 = tilesV o ∧ getT t 3 = .ptr 0 0 ∧ getT t 9 = .sc (.int .i64 (i : Int)) ∧ S = σ) (k0 := (ol r.lv).length - 1)
    ⟨1, rfl, Nat.le_refl _, by simp only [ev, sop, bounds, loI, hiI, fillParts, binSV, intBin, unSV, simprocAttr, ev2, ev3, ev4, g0], by simp only [ev, sop, bounds, loI, hiI, fillParts, binSV, intBin, unSV, simprocAttr, ev2, ev3, ev4, g3], by simp only [ev, sop, bounds, loI, hiI, fillParts, binSV, intBin, unSV, simprocAttr, ev2, ev3, ev4], rfl⟩ ?_
  clear g0 g3 g5
  rintro q t σ ⟨i, rfl, hi1, g0, g3, g9, rfl⟩
  by_cases hit : i < (ol r.lv).length
  · have hit' : (i : Int) < ((ol r.lv).length : Int) := by omega
    have hi0 : 0 ≤ (i : Int) := by omega
    have hj0 : 0 ≤ ((i - 1 : Nat) : Int) := by omega
    have hjt : i - 1 < (ol r.lv).length := by omega
    have hjt' : ((i - 1 : Nat) : Int) < ((ol r.lv).length : Int) := by omega
    have hws : IntKind.i64.wrap ((i : Int) - 1) = ((i - 1 : Nat) : Int) := by rw [i64_in _ (by omega) (by omega)]; omega
    have hw1 : IntKind.i64.wrap ((i : Int) + 1) = ((i + 1 : Nat) : Int) := by rw [i64_in _ (by omega) (by omega)]; rfl
    obtain ⟨x, hx⟩ := get_of_lt hjt
    obtain ⟨y, hy⟩ := get_of_lt hit
    have hcx := cut_ints hx
    have hcy := cut_ints hy
    have hl := h3 (i - 1) x y hx (by rw [show i - 1 + 1 = i by omega]; exact hy)
    obtain ⟨u, hu, hup, hz0⟩ := hl
    have hul := (List.getElem?_eq_some_iff.1 hu).1
    have hul' : x < ((ol o).length : Int) := by omega
    have hcu : cut ((ol o).flatMap TileD.cells) (x.toNat * 3 + 1) 1 = some [.sc (.int .i64 y)] := by rw [← hup]; exact cut_flat (enc := TileD.cells) (sz := 3) (fun _ => rfl) hu 1 1 (by omega)
    have hne : (y != y) = false := by simp
    have hv := tiles_of_lt hul
    have hvl := ints_of_lt hit
    rw [hv] at g0
    repeat (first | (with_reducible refine Nx.go ?_) | ((with_reducible refine Ny.go ?_); (conv => arg 1; simp only [ev, sop, bounds, loI, hiI, fillParts, binSV, intBin, unSV, simprocAttr, ev2, ev3, ev4, g0, g3, g9, c0, hvl, hit, hit', hi0, hj0, hjt, hjt', hws, hw1, hcx, hcy, hz0, hul, hul', hcu, hne, recheck, wantedS, SV.same_self, Bool.and_self]); (first | (with_reducible refine Nz.go ?_) | refine Hold_some ?_)))
    exact ⟨(ol r.lv).length - (i + 1), by omega, i + 1, rfl, by omega, by simp only [ev, sop, bounds, loI, hiI, fillParts, binSV, intBin, unSV, simprocAttr, ev2, ev3, ev4, g0]; exact hv.symm, by simp only [ev, sop, bounds, loI, hiI, fillParts, binSV, intBin, unSV, simprocAttr, ev2, ev3, ev4, g3], by simp only [ev, sop, bounds, loI, hiI, fillParts, binSV, intBin, unSV, simprocAttr, ev2, ev3, ev4], rfl⟩
  have hit' : ¬ (i : Int) < ((ol r.lv).length : Int) := by omega
  repeat (first | (with_reducible refine Nx.go ?_) | ((with_reducible refine Ny.go ?_); (conv => arg 1; simp only [ev, sop, bounds, loI, hiI, fillParts, binSV, intBin, unSV, simprocAttr, ev2, ev3, ev4, g0, g3, g9, c0, hit', recheck, wantedS, SV.same_self, Bool.and_self]); (first | (with_reducible refine Nz.go ?_) | refine Hold_some ?_)))
  refine WP_blockloop (fun q t σ => ∃ i : Nat, q = (ol r.en).length - i ∧ 1 ≤ i ∧ getT t 0 = tilesV o ∧ getT t 3 = .ptr 0 0 ∧ getT t 10 = .sc (.int .i64 (i : Int)) ∧ S = σ) (k0 := (ol r.en).length - 1)
    ⟨1, rfl, Nat.le_refl _, by simp only [ev, sop, bounds, loI, hiI, fillParts, binSV, intBin, unSV, simprocAttr, ev2, ev3, ev4, g0], by simp only [ev, sop, bounds, loI, hiI, fillParts, binSV, intBin, unSV, simprocAttr, ev2, ev3, ev4, g3], by simp only [ev, sop, bounds, loI, hiI, fillParts, binSV, intBin, unSV, simprocAttr, ev2, ev3, ev4], rfl⟩ ?_
  clear g0 g3 g9
  rintro q t σ ⟨i, rfl, hi1, g0, g3, g10, rfl⟩
  by_cases hit : i < (ol r.en).length
  · have hit' : (i : Int) < ((ol r.en).length : Int) := by omega
    have hi0 : 0 ≤ (i : Int) := by omega
    have hj0 : 0 ≤ ((i - 1 : Nat) : Int) := by omega
    have hjt : i - 1 < (ol r.en).length := by omega
    have hjt' : ((i - 1 : Nat) : Int) < ((ol r.en).length : Int) := by omega
    have hws : IntKind.i64.wrap ((i : Int) - 1) = ((i - 1 : Nat) : Int) := by rw [i64_in _ (by omega) (by omega)]; omega
    have hw1 : IntKind.i64.wrap ((i : Int) + 1) = ((i + 1 : Nat) : Int) := by rw [i64_in _ (by omega) (by omega)]; rfl
    obtain ⟨x, hx⟩ := get_of_lt hjt
    obtain ⟨y, hy⟩ := get_of_lt hit
    have hcx := cut_ints hx
    have hcy := cut_ints hy
    have hl := h4 (i - 1) x y hx (by rw [show i - 1 + 1 = i by omega]; exact hy)
    obtain ⟨u, hu, hup, hz0⟩ := hl
    have hul := (List.getElem?_eq_some_iff.1 hu).1
    have hul' : y < ((ol o).length : Int) := by omega
    have hcu : cut ((ol o).flatMap TileD.cells) (y.toNat * 3 + 1) 1 = some [.sc (.int .i64 x)] := by rw [← hup]; exact cut_flat (enc := TileD.cells) (sz := 3) (fun _ => rfl) hu 1 1 (by omega)
    have hne : (x != x) = false := by simp
    have hv := tiles_of_lt hul
    have hvl := ints_of_lt hit
    rw [hv] at g0
    repeat (first | (with_reducible refine Nx.go ?_) | ((with_reducible refine Ny.go ?_); (conv => arg 1; simp only [ev, sop, bounds, loI, hiI, fillParts, binSV, intBin, unSV, simprocAttr, ev2, ev3, ev4, g0, g3, g10, c0, hvl, hit, hit', hi0, hj0, hjt, hjt', hws, hw1, hcx, hcy, hz0, hul, hul', hcu, hne, recheck, wantedS, SV.same_self, Bool.and_self]); (first | (with_reducible refine Nz.go ?_) | refine Hold_some ?_)))
    exact ⟨(ol r.en).length - (i + 1), by omega, i + 1, rfl, by omega, by simp only [ev, sop, bounds, loI, hiI, fillParts, binSV, intBin, unSV, simprocAttr, ev2, ev3, ev4, g0]; exact hv.symm, by simp only [ev, sop, bounds, loI, hiI, fillParts, binSV, intBin, unSV, simprocAttr, ev2, ev3, ev4, g3], by simp only [ev, sop, bounds, loI, hiI, fillParts, binSV, intBin, unSV, simprocAttr, ev2, ev3, ev4], rfl⟩
  have hit' : ¬ (i : Int) < ((ol r.en).length : Int) := by omega
  have hws : IntKind.i64.wrap (((ol r.lv).length : Int) + ((ol r.en).length : Int)) = (((ol r.lv).length + (ol r.en).length : Nat) : Int) := by rw [i64_in _ (by omega) (by omega)]; rfl
  have hpos : (((ol r.lv).length + (ol r.en).length : Nat) : Int) > 0 := by omega
  repeat (first | (with_reducible refine Nx.go ?_) | ((with_reducible refine Ny.go ?_); (conv => arg 1; simp only [ev, sop, bounds, loI, hiI, fillParts, binSV, intBin, unSV, simprocAttr, ev2, ev3, ev4, g0, g3, g10, c0, hit', hws, hpos, recheck, wantedS, SV.same_self, Bool.and_self]); (first | (with_reducible refine Nz.go ?_) | refine Hold_some ?_)))
  (refine Hold1_of ?_; (conv => arg 1; simp only [ev, sop, bounds, loI, hiI, fillParts, binSV, intBin, unSV, simprocAttr, ev2, ev3, ev4, resultsSV, resMany, resOne]); refine Hold1_some ?_)
  exact frz_of_pure rfl
end Go.Proofs.Ytojjhcgbbmknmaa.Sh
