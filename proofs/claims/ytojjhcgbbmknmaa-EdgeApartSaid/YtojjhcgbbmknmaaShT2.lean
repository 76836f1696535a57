/- Ends of blocks: are they right? where may they go? -/
import Derived.Test.YtojjhcgbbmknmaaShT1
namespace Go.Proofs.Ytojjhcgbbmknmaa.Sh
set_option linter.unusedSimpArgs false
set_option linter.unusedVariables false
open Go Go.Proofs

structure TermD where
  k : Int
  a : Int
  x : Int
  y : Int
def TermD.cells (d : TermD) : List SV := [.sc (.int .i64 d.k), .sc (.int .i64 d.a), .sc (.int .i64 d.x), .sc (.int .i64 d.y)]
def TermD.sv (d : TermD) : SV := .agg d.cells
/-- Is an end right? -/
def TermD.ok (d : TermD) : Bool :=
  if d.k = 1 then decide (d.a = 0 ∧ d.y = 0) else if d.k = 2 then decide (1 ≤ d.a ∧ d.a ≤ 200) else if d.k = 3 then decide (0 ≤ d.a ∧ d.a ≤ 200 ∧ d.x = 0 ∧ d.y = 0) else decide (d.k = 4 ∧ d.a = 0 ∧ d.x = 0 ∧ d.y = 0)

set_option maxHeartbeats 1000000 in
theorem t_isTerm (d : TermD) : Tells 66 [d.sv] (.sc (.bool d.ok)) := by
  obtain ⟨k, a, x, y⟩ := d
  refine tells_fn rfl rfl rfl ?_
  unfold TermD.sv TermD.cells
  by_cases h1 : (k == 1) = true
  · have e1 : k = 1 := by simpa using h1
    repeat (first | (with_reducible refine Nx.go ?_) | ((with_reducible refine Ny.go ?_); (conv => arg 1; simp only [ev, sop, bounds, loI, hiI, fillParts, binSV, intBin, unSV, simprocAttr, h1, recheck, wantedS, SV.same_self, Bool.and_self]); (first | (with_reducible refine Nz.go ?_) | refine Hold_some ?_)))
    refine st_tellz (t_none (some [a, y]) (by simp [ol])) ⟨_, rfl, by first | omega | decide⟩ (by first | with_reducible exact wantedS_none | (refine wantedS_some ?_; simp only [ev, sop, bounds, loI, hiI, fillParts, binSV, intBin, unSV, simprocAttr]; done)) (by simp only [ev, sop, bounds, loI, hiI, fillParts, binSV, intBin, unSV, simprocAttr] <;> rfl) (by simp only [ev, sop, bounds, loI, hiI, fillParts, binSV, intBin, unSV, simprocAttr, mapO, frz, SV.pure, pures, Bool.and_true, Bool.and_self] <;> rfl) (by first | with_reducible exact flat_set _ | rfl) (by first | with_reducible exact recheck_nil | (simp only [recheck, wantedS]; simp only [ev, sop, bounds, loI, hiI, fillParts, binSV, intBin, unSV, simprocAttr]; simp only [SV.same_self, Bool.and_self])) ?_
    repeat (first | (with_reducible refine Nx.go ?_) | ((with_reducible refine Ny.go ?_); (conv => arg 1; simp only [ev, sop, bounds, loI, hiI, fillParts, binSV, intBin, unSV, simprocAttr, h1, recheck, wantedS, SV.same_self, Bool.and_self]); (first | (with_reducible refine Nz.go ?_) | refine Hold_some ?_)))
    (refine Hold1_of ?_; (conv => arg 1; simp only [ev, sop, bounds, loI, hiI, fillParts, binSV, intBin, unSV, simprocAttr, resultsSV, resMany, resOne]); refine Hold1_some ?_)
    rw [frz_of_pure rfl]
    subst e1
    simp [TermD.ok, ol]
  have e1 : (k == 1) = false := by simpa using h1
  have e1' : ¬ k = 1 := by simpa using e1
  by_cases h2 : (k == 2) = true
  · have e2 : k = 2 := by simpa using h2
    repeat (first | (with_reducible refine Nx.go ?_) | ((with_reducible refine Ny.go ?_); (conv => arg 1; simp only [ev, sop, bounds, loI, hiI, fillParts, binSV, intBin, unSV, simprocAttr, e1, h2, recheck, wantedS, SV.same_self, Bool.and_self]); (first | (with_reducible refine Nz.go ?_) | refine Hold_some ?_)))
    refine st_tellp (t_variable a) ⟨_, rfl, by first | omega | decide⟩ (by first | with_reducible exact wantedS_none | (refine wantedS_some ?_; simp only [ev, sop, bounds, loI, hiI, fillParts, binSV, intBin, unSV, simprocAttr]; done)) (by simp only [ev, sop, bounds, loI, hiI, fillParts, binSV, intBin, unSV, simprocAttr] <;> rfl) (by first | rfl | simp [pures, SV.pure, *]) (by first | with_reducible exact recheck_nil | (simp only [recheck, wantedS]; simp only [ev, sop, bounds, loI, hiI, fillParts, binSV, intBin, unSV, simprocAttr]; simp only [SV.same_self, Bool.and_self])) ?_
    repeat (first | (with_reducible refine Nx.go ?_) | ((with_reducible refine Ny.go ?_); (conv => arg 1; simp only [ev, sop, bounds, loI, hiI, fillParts, binSV, intBin, unSV, simprocAttr, e1, h2, recheck, wantedS, SV.same_self, Bool.and_self]); (first | (with_reducible refine Nz.go ?_) | refine Hold_some ?_)))
    (refine Hold1_of ?_; (conv => arg 1; simp only [ev, sop, bounds, loI, hiI, fillParts, binSV, intBin, unSV, simprocAttr, resultsSV, resMany, resOne]); refine Hold1_some ?_)
    rw [frz_of_pure rfl]
    subst e2
    simp [TermD.ok]
  have e2 : (k == 2) = false := by simpa using h2
  have e2' : ¬ k = 2 := by simpa using e2
  by_cases h3 : (k == 3) = true
  · have e3 : k = 3 := by simpa using h3
    repeat (first | (with_reducible refine Nx.go ?_) | ((with_reducible refine Ny.go ?_); (conv => arg 1; simp only [ev, sop, bounds, loI, hiI, fillParts, binSV, intBin, unSV, simprocAttr, e1, e2, h3, recheck, wantedS, SV.same_self, Bool.and_self]); (first | (with_reducible refine Nz.go ?_) | refine Hold_some ?_)))
    refine st_tellp (t_fits (a != 0) a) ⟨_, rfl, by first | omega | decide⟩ (by first | with_reducible exact wantedS_none | (refine wantedS_some ?_; simp only [ev, sop, bounds, loI, hiI, fillParts, binSV, intBin, unSV, simprocAttr]; done)) (by simp only [ev, sop, bounds, loI, hiI, fillParts, binSV, intBin, unSV, simprocAttr] <;> rfl) (by first | rfl | simp [pures, SV.pure, *]) (by first | with_reducible exact recheck_nil | (simp only [recheck, wantedS]; simp only [ev, sop, bounds, loI, hiI, fillParts, binSV, intBin, unSV, simprocAttr]; simp only [SV.same_self, Bool.and_self])) ?_
    have hfb : (if (a != 0) = true then decide (1 ≤ a ∧ a ≤ 200) else decide (a = 0)) = decide (0 ≤ a ∧ a ≤ 200) := by
      by_cases ha : a = 0
      · subst ha; simp
      · rw [if_pos (by simpa using ha)]
        exact decide_eq_decide.2 ⟨fun h => by omega, fun h => by omega⟩
    rw [hfb]
    by_cases ha : 0 ≤ a ∧ a ≤ 200
    · have hd : decide (0 ≤ a ∧ a ≤ 200) = true := by simpa using ha
      repeat (first | (with_reducible refine Nx.go ?_) | ((with_reducible refine Ny.go ?_); (conv => arg 1; simp only [ev, sop, bounds, loI, hiI, fillParts, binSV, intBin, unSV, simprocAttr, e1, e2, h3, hd, recheck, wantedS, SV.same_self, Bool.and_self]); (first | (with_reducible refine Nz.go ?_) | refine Hold_some ?_)))
      refine st_tellz (t_none (some [x, y]) (by simp [ol])) ⟨_, rfl, by first | omega | decide⟩ (by first | with_reducible exact wantedS_none | (refine wantedS_some ?_; simp only [ev, sop, bounds, loI, hiI, fillParts, binSV, intBin, unSV, simprocAttr, hd]; done)) (by simp only [ev, sop, bounds, loI, hiI, fillParts, binSV, intBin, unSV, simprocAttr, hd] <;> rfl) (by simp only [ev, sop, bounds, loI, hiI, fillParts, binSV, intBin, unSV, simprocAttr, hd, mapO, frz, SV.pure, pures, Bool.and_true, Bool.and_self] <;> rfl) (by first | with_reducible exact flat_set _ | rfl) (by first | with_reducible exact recheck_nil | (simp only [recheck, wantedS]; simp only [ev, sop, bounds, loI, hiI, fillParts, binSV, intBin, unSV, simprocAttr, hd]; simp only [SV.same_self, Bool.and_self])) ?_
      repeat (first | (with_reducible refine Nx.go ?_) | ((with_reducible refine Ny.go ?_); (conv => arg 1; simp only [ev, sop, bounds, loI, hiI, fillParts, binSV, intBin, unSV, simprocAttr, e1, e2, h3, hd, recheck, wantedS, SV.same_self, Bool.and_self]); (first | (with_reducible refine Nz.go ?_) | refine Hold_some ?_)))
      (refine Hold1_of ?_; (conv => arg 1; simp only [ev, sop, bounds, loI, hiI, fillParts, binSV, intBin, unSV, simprocAttr, resultsSV, resMany, resOne]); refine Hold1_some ?_)
      rw [frz_of_pure rfl]
      subst e3
      simp [TermD.ok, ol, ha]
    · have hd : decide (0 ≤ a ∧ a ≤ 200) = false := by simpa using ha
      repeat (first | (with_reducible refine Nx.go ?_) | ((with_reducible refine Ny.go ?_); (conv => arg 1; simp only [ev, sop, bounds, loI, hiI, fillParts, binSV, intBin, unSV, simprocAttr, e1, e2, h3, hd, recheck, wantedS, SV.same_self, Bool.and_self]); (first | (with_reducible refine Nz.go ?_) | refine Hold_some ?_)))
      (refine Hold1_of ?_; (conv => arg 1; simp only [ev, sop, bounds, loI, hiI, fillParts, binSV, intBin, unSV, simprocAttr, resultsSV, resMany, resOne]); refine Hold1_some ?_)
      rw [frz_of_pure rfl]
      subst e3
      simp [TermD.ok]
      omega
  have e3 : (k == 3) = false := by simpa using h3
  have e3' : ¬ k = 3 := by simpa using e3
  by_cases h4 : (k == 4) = true
  · have e4 : k = 4 := by simpa using h4
    repeat (first | (with_reducible refine Nx.go ?_) | ((with_reducible refine Ny.go ?_); (conv => arg 1; simp only [ev, sop, bounds, loI, hiI, fillParts, binSV, intBin, unSV, simprocAttr, e1, e2, e3, h4, recheck, wantedS, SV.same_self, Bool.and_self]); (first | (with_reducible refine Nz.go ?_) | refine Hold_some ?_)))
    refine st_tellz (t_none (some [a, x, y]) (by simp [ol])) ⟨_, rfl, by first | omega | decide⟩ (by first | with_reducible exact wantedS_none | (refine wantedS_some ?_; simp only [ev, sop, bounds, loI, hiI, fillParts, binSV, intBin, unSV, simprocAttr, h4]; done)) (by simp only [ev, sop, bounds, loI, hiI, fillParts, binSV, intBin, unSV, simprocAttr, h4] <;> rfl) (by simp only [ev, sop, bounds, loI, hiI, fillParts, binSV, intBin, unSV, simprocAttr, h4, mapO, frz, SV.pure, pures, Bool.and_true, Bool.and_self] <;> rfl) (by first | with_reducible exact flat_set _ | rfl) (by first | with_reducible exact recheck_nil | (simp only [recheck, wantedS]; simp only [ev, sop, bounds, loI, hiI, fillParts, binSV, intBin, unSV, simprocAttr, h4]; simp only [SV.same_self, Bool.and_self])) ?_
    repeat (first | (with_reducible refine Nx.go ?_) | ((with_reducible refine Ny.go ?_); (conv => arg 1; simp only [ev, sop, bounds, loI, hiI, fillParts, binSV, intBin, unSV, simprocAttr, e1, e2, e3, h4, recheck, wantedS, SV.same_self, Bool.and_self]); (first | (with_reducible refine Nz.go ?_) | refine Hold_some ?_)))
    (refine Hold1_of ?_; (conv => arg 1; simp only [ev, sop, bounds, loI, hiI, fillParts, binSV, intBin, unSV, simprocAttr, resultsSV, resMany, resOne]); refine Hold1_some ?_)
    rw [frz_of_pure rfl]
    subst e4
    simp [TermD.ok, ol]
  · have e4 : (k == 4) = false := by simpa using h4
    have e4' : ¬ k = 4 := by simpa using e4
    repeat (first | (with_reducible refine Nx.go ?_) | ((with_reducible refine Ny.go ?_); (conv => arg 1; simp only [ev, sop, bounds, loI, hiI, fillParts, binSV, intBin, unSV, simprocAttr, e1, e2, e3, e4, recheck, wantedS, SV.same_self, Bool.and_self]); (first | (with_reducible refine Nz.go ?_) | refine Hold_some ?_)))
    (refine Hold1_of ?_; (conv => arg 1; simp only [ev, sop, bounds, loI, hiI, fillParts, binSV, intBin, unSV, simprocAttr, resultsSV, resMany, resOne]); refine Hold1_some ?_)
    rw [frz_of_pure rfl]
    simp [TermD.ok, e1', e2', e3', e4']

/-- A row that is not nil is cloned. -/
theorem c_clone {m : Nat} {v : SV} {cs : List SV} {n : Nat} {σ : St} (hr : rowSV (σ.push (.cells [])) v = some cs) (hn : lenSV v = some n) (hc : cs.length = n) (hl : n ≤ 2 ^ 36) (hnil : v ≠ .sc .nilsl) :
    WPF (EV m) 47 [v] σ (fun v' σ' => v' = .sl (σ.next + 1) 0 n 1 ∧ σ' = ((σ.push (.cells [])).set σ.next .dead).push (.cells cs)) := by
  have hb : binSV 3 1 .eql v (.sc .nilsl) = some (.sc (.bool false)) := by
    cases v with
    | sc s => cases s <;> first | (exact absurd rfl hnil) | (simp [lenSV] at hn)
    | sl => rfl
    | lst => rfl
    | _ => simp [lenSV] at hn
  have hm : n * 8 ≤ 2 ^ 40 ∧ n ≤ 2 ^ 40 := by omega
  refine inline_fn rfl rfl rfl ?_
  refine WP_seq.2 ?_
  repeat (first | (with_reducible refine Nx.go ?_) | ((with_reducible refine Ny.go ?_); (conv => arg 1; simp only [ev, sop, bounds, loI, hiI, fillParts, binSV, intBin, unSV, simprocAttr, recheck, wantedS, SV.same_self, Bool.and_self]); (first | (with_reducible refine Nz.go ?_) | refine Hold_some ?_)))
  refine st_plain rfl ?_
  conv => arg 1; simp only [sop, ev, reduceIte, Nat.reduceEqDiff, hb]
  refine Hold_some ?_
  repeat (first | (with_reducible refine Nx.go ?_) | ((with_reducible refine Ny.go ?_); (conv => arg 1; simp only [ev, sop, bounds, loI, hiI, fillParts, binSV, intBin, unSV, simprocAttr, hr, hn, hc, hm, recheck, wantedS, SV.same_self, Bool.and_self]); (first | (with_reducible refine Nz.go ?_) | refine Hold_some ?_)))
  (refine Hold1_of ?_; (conv => arg 1; simp only [ev, sop, bounds, loI, hiI, fillParts, binSV, intBin, unSV, simprocAttr, resultsSV, resMany, resOne]); refine Hold1_some ?_)
  exact ⟨rfl, rfl⟩

def TermD.to (d : TermD) : Option (List Int) := if d.ok = true then (if d.k = 1 then some [d.x] else if d.k = 2 then some [d.x, d.y] else none) else none
set_option maxHeartbeats 1000000 in
theorem t_to (d : TermD) : Tells 67 [d.sv] (intsV d.to) := by
  refine tells_fn rfl rfl rfl ?_
  rw [show d.sv = .agg [.sc (.int .i64 d.k), .sc (.int .i64 d.a), .sc (.int .i64 d.x), .sc (.int .i64 d.y)] from rfl]
  repeat (first | (with_reducible refine Nx.go ?_) | ((with_reducible refine Ny.go ?_); (conv => arg 1; simp only [ev, sop, bounds, loI, hiI, fillParts, binSV, intBin, unSV, simprocAttr, recheck, wantedS, SV.same_self, Bool.and_self]); (first | (with_reducible refine Nz.go ?_) | refine Hold_some ?_)))
  refine st_tellp (t_isTerm d) ⟨_, rfl, by first | omega | decide⟩ (by first | with_reducible exact wantedS_none | (refine wantedS_some ?_; simp only [ev, sop, bounds, loI, hiI, fillParts, binSV, intBin, unSV, simprocAttr]; done)) (by simp only [ev, sop, bounds, loI, hiI, fillParts, binSV, intBin, unSV, simprocAttr] <;> rfl) (by first | rfl | simp [pures, SV.pure, *]) (by first | with_reducible exact recheck_nil | (simp only [recheck, wantedS]; simp only [ev, sop, bounds, loI, hiI, fillParts, binSV, intBin, unSV, simprocAttr]; simp only [SV.same_self, Bool.and_self])) ?_
  by_cases ht : d.ok = true
  · by_cases h1 : (d.k == 1) = true
    · repeat (first | (with_reducible refine Nx.go ?_) | ((with_reducible refine Ny.go ?_); (conv => arg 1; simp only [ev, sop, bounds, loI, hiI, fillParts, binSV, intBin, unSV, simprocAttr, ht, h1, recheck, wantedS, SV.same_self, Bool.and_self]); (first | (with_reducible refine Nz.go ?_) | refine Hold_some ?_)))
      (refine Hold1_of ?_; (conv => arg 1; simp only [ev, sop, bounds, loI, hiI, fillParts, binSV, intBin, unSV, simprocAttr, resultsSV, resMany, resOne]); refine Hold1_some ?_)
      rw [frz_sl (by simp only [ev, sop, bounds, loI, hiI, fillParts, binSV, intBin, unSV, simprocAttr] <;> rfl) (by simp only [ev, sop, bounds, loI, hiI, fillParts, binSV, intBin, unSV, simprocAttr] <;> rfl) rfl]
      simp [TermD.to, ht, show d.k = 1 by simpa using h1, intsV, SV.int]
    · have h1 : (d.k == 1) = false := by simpa using h1
      by_cases h2 : (d.k == 2) = true
      · repeat (first | (with_reducible refine Nx.go ?_) | ((with_reducible refine Ny.go ?_); (conv => arg 1; simp only [ev, sop, bounds, loI, hiI, fillParts, binSV, intBin, unSV, simprocAttr, ht, h1, h2, recheck, wantedS, SV.same_self, Bool.and_self]); (first | (with_reducible refine Nz.go ?_) | refine Hold_some ?_)))
        refine st_callf (by first | with_reducible exact wantedS_none | (refine wantedS_some ?_; simp only [ev, sop, bounds, loI, hiI, fillParts, binSV, intBin, unSV, simprocAttr]; done)) (by simp only [ev, sop, bounds, loI, hiI, fillParts, binSV, intBin, unSV, simprocAttr] <;> rfl) (by simp only [ev, sop, bounds, loI, hiI, fillParts, binSV, intBin, unSV, simprocAttr] <;> rfl) ?_
        refine (c_clone (cs := [.sc (.int .i64 d.x), .sc (.int .i64 d.y)]) (n := 2) (by simp only [ev, sop, bounds, loI, hiI, fillParts, binSV, intBin, unSV, simprocAttr] <;> rfl) rfl rfl (by omega) (by simp)).mono ?_
        rintro v σ1 ⟨rfl, rfl⟩
        refine ⟨recheck_nil, ?_⟩
        repeat (first | (with_reducible refine Nx.go ?_) | ((with_reducible refine Ny.go ?_); (conv => arg 1; simp only [ev, sop, bounds, loI, hiI, fillParts, binSV, intBin, unSV, simprocAttr, recheck, wantedS, SV.same_self, Bool.and_self]); (first | (with_reducible refine Nz.go ?_) | refine Hold_some ?_)))
        (refine Hold1_of ?_; (conv => arg 1; simp only [ev, sop, bounds, loI, hiI, fillParts, binSV, intBin, unSV, simprocAttr, resultsSV, resMany, resOne]); refine Hold1_some ?_)
        rw [frz_sl (by simp only [ev, sop, bounds, loI, hiI, fillParts, binSV, intBin, unSV, simprocAttr] <;> rfl) (by simp only [ev, sop, bounds, loI, hiI, fillParts, binSV, intBin, unSV, simprocAttr] <;> rfl) rfl]
        simp [TermD.to, ht, show d.k = 2 by simpa using h2, intsV, SV.int]
      · have h2 : (d.k == 2) = false := by simpa using h2
        repeat (first | (with_reducible refine Nx.go ?_) | ((with_reducible refine Ny.go ?_); (conv => arg 1; simp only [ev, sop, bounds, loI, hiI, fillParts, binSV, intBin, unSV, simprocAttr, ht, h1, h2, recheck, wantedS, SV.same_self, Bool.and_self]); (first | (with_reducible refine Nz.go ?_) | refine Hold_some ?_)))
        (refine Hold1_of ?_; (conv => arg 1; simp only [ev, sop, bounds, loI, hiI, fillParts, binSV, intBin, unSV, simprocAttr, resultsSV, resMany, resOne]); refine Hold1_some ?_)
        rw [frz_of_pure rfl]
        simp [TermD.to, ht, show ¬ d.k = 1 by simpa using h1, show ¬ d.k = 2 by simpa using h2, intsV]
  · have ht : d.ok = false := by simpa using ht
    repeat (first | (with_reducible refine Nx.go ?_) | ((with_reducible refine Ny.go ?_); (conv => arg 1; simp only [ev, sop, bounds, loI, hiI, fillParts, binSV, intBin, unSV, simprocAttr, ht, recheck, wantedS, SV.same_self, Bool.and_self]); (first | (with_reducible refine Nz.go ?_) | refine Hold_some ?_)))
    (refine Hold1_of ?_; (conv => arg 1; simp only [ev, sop, bounds, loI, hiI, fillParts, binSV, intBin, unSV, simprocAttr, resultsSV, resMany, resOne]); refine Hold1_some ?_)
    rw [frz_of_pure rfl]
    simp [TermD.to, ht, intsV]
end Go.Proofs.Ytojjhcgbbmknmaa.Sh
