/- Small functions: variables; ends of blocks. -/
import Derived.Test.YtojjhcgbbmknmaaShB1
namespace Go.Proofs.Ytojjhcgbbmknmaa.Sh
set_option linter.unusedSimpArgs false
set_option linter.unusedVariables false
open Go Go.Proofs

theorem t_variable (n : Int) : Tells 93 [.sc (.int .i64 n)] (.sc (.bool (decide (1 ≤ n ∧ n ≤ 200)))) := by
  refine tells_fn rfl rfl rfl ?_
  by_cases h1 : n ≥ 1
  · repeat (first | (with_reducible refine Nx.go ?_) | ((with_reducible refine Ny.go ?_); (conv => arg 1; simp only [ev, sop, bounds, loI, hiI, fillParts, binSV, intBin, unSV, simprocAttr, h1, recheck, wantedS, SV.same_self, Bool.and_self]); (first | (with_reducible refine Nz.go ?_) | refine Hold_some ?_)))
    (refine Hold1_of ?_; (conv => arg 1; simp only [ev, sop, bounds, loI, hiI, fillParts, binSV, intBin, unSV, simprocAttr, resultsSV, resMany, resOne]); refine Hold1_some ?_)
    simp [frz, SV.pure, h1]
  · repeat (first | (with_reducible refine Nx.go ?_) | ((with_reducible refine Ny.go ?_); (conv => arg 1; simp only [ev, sop, bounds, loI, hiI, fillParts, binSV, intBin, unSV, simprocAttr, h1, recheck, wantedS, SV.same_self, Bool.and_self]); (first | (with_reducible refine Nz.go ?_) | refine Hold_some ?_)))
    (refine Hold1_of ?_; (conv => arg 1; simp only [ev, sop, bounds, loI, hiI, fillParts, binSV, intBin, unSV, simprocAttr, resultsSV, resMany, resOne]); refine Hold1_some ?_)
    simp [frz, SV.pure, h1]

theorem t_fits (b : Bool) (n : Int) : Tells 94 [.sc (.bool b), .sc (.int .i64 n)] (.sc (.bool (if b = true then decide (1 ≤ n ∧ n ≤ 200) else decide (n = 0)))) := by
  refine tells_fn rfl rfl rfl ?_
  cases b
  · repeat (first | (with_reducible refine Nx.go ?_) | ((with_reducible refine Ny.go ?_); (conv => arg 1; simp only [ev, sop, bounds, loI, hiI, fillParts, binSV, intBin, unSV, simprocAttr, recheck, wantedS, SV.same_self, Bool.and_self]); (first | (with_reducible refine Nz.go ?_) | refine Hold_some ?_)))
    (refine Hold1_of ?_; (conv => arg 1; simp only [ev, sop, bounds, loI, hiI, fillParts, binSV, intBin, unSV, simprocAttr, resultsSV, resMany, resOne]); refine Hold1_some ?_)
    by_cases h : n = 0 <;> simp [frz, SV.pure, h]
  · repeat (first | (with_reducible refine Nx.go ?_) | ((with_reducible refine Ny.go ?_); (conv => arg 1; simp only [ev, sop, bounds, loI, hiI, fillParts, binSV, intBin, unSV, simprocAttr, recheck, wantedS, SV.same_self, Bool.and_self]); (first | (with_reducible refine Nz.go ?_) | refine Hold_some ?_)))
    refine st_tellp (t_variable n) ⟨_, rfl, by first | omega | decide⟩ (by first | with_reducible exact wantedS_none | (refine wantedS_some ?_; simp only [ev, sop, bounds, loI, hiI, fillParts, binSV, intBin, unSV, simprocAttr]; done)) (by simp only [ev, sop, bounds, loI, hiI, fillParts, binSV, intBin, unSV, simprocAttr] <;> rfl) (by first | rfl | simp [pures, SV.pure, *]) (by first | with_reducible exact recheck_nil | (simp only [recheck, wantedS]; simp only [ev, sop, bounds, loI, hiI, fillParts, binSV, intBin, unSV, simprocAttr]; simp only [SV.same_self, Bool.and_self])) ?_
    repeat (first | (with_reducible refine Nx.go ?_) | ((with_reducible refine Ny.go ?_); (conv => arg 1; simp only [ev, sop, bounds, loI, hiI, fillParts, binSV, intBin, unSV, simprocAttr, recheck, wantedS, SV.same_self, Bool.and_self]); (first | (with_reducible refine Nz.go ?_) | refine Hold_some ?_)))
    (refine Hold1_of ?_; (conv => arg 1; simp only [ev, sop, bounds, loI, hiI, fillParts, binSV, intBin, unSV, simprocAttr, resultsSV, resMany, resOne]); refine Hold1_some ?_)
    simp [frz, SV.pure]

/-- The first place at which something holds. -/
theorem c_indexFunc {m : Nat} {o : Option (List Int)} {g : SV} {σ : St} (p : Int → Bool) (J : St → Prop) (hl : (ol o).length ≤ 2 ^ 62) (hJ : J σ) (hg : ∀ n ∈ ol o, ∀ σ1, J σ1 → WPC (EV m) g [.sc (.int .i64 n)] σ1 (fun v σ2 => v = .sc (.bool (p n)) ∧ J σ2)) :
    WPF (EV m) 113 [intsV o, g] σ (fun v σ' => v = .sc (.int .i64 (match (ol o).findIdx? p with | some i => i | none => -1)) ∧ J σ') := by
  refine inline_fn rfl rfl rfl ?_
  repeat (first | (with_reducible refine Nx.go ?_) | ((with_reducible refine Ny.go ?_); (conv => arg 1; simp only [ev, sop, bounds, loI, hiI, fillParts, binSV, intBin, unSV, simprocAttr, lenSV_ints, recheck, wantedS, SV.same_self, Bool.and_self]); (first | (with_reducible refine Nz.go ?_) | refine Hold_some ?_)))
  refine WP_range (N := (ol o).length) (fun k t σ1 => getT t 0 = intsV o ∧ getT t 1 = g ∧ J σ1 ∧ ∀ j x, j < k → (ol o)[j]? = some x → p x = false) hl (by simp only [ev, sop, bounds, loI, hiI, fillParts, binSV, intBin, unSV, simprocAttr]) (by simp only [ev, sop, bounds, loI, hiI, fillParts, binSV, intBin, unSV, simprocAttr]) (by decide) ⟨by simp only [ev, sop, bounds, loI, hiI, fillParts, binSV, intBin, unSV, simprocAttr], by simp only [ev, sop, bounds, loI, hiI, fillParts, binSV, intBin, unSV, simprocAttr], hJ, by simp⟩ ?_ ?_
  · rintro k t σ1 hlt h7 h8 ⟨h0, h1, hj, hno⟩
    obtain ⟨n, hn⟩ := get_of_lt hlt
    have hv : intsV o = .lst (ol o).length 1 ((ol o).map SV.int) := by
      cases o with
      | none => simp [ol] at hlt
      | some l => rfl
    have hc := cut_ints hn
    repeat (first | (with_reducible refine Nx.go ?_) | ((with_reducible refine Ny.go ?_); (conv => arg 1; simp only [ev, sop, bounds, loI, hiI, fillParts, binSV, intBin, unSV, simprocAttr, h0, h1, h8, hv, hlt, hc, recheck, wantedS, SV.same_self, Bool.and_self]); (first | (with_reducible refine Nz.go ?_) | refine Hold_some ?_)))
    refine st_callv (by first | with_reducible exact wantedS_none | (refine wantedS_some ?_; simp only [ev, sop, bounds, loI, hiI, fillParts, binSV, intBin, unSV, simprocAttr]; done)) (by simp only [ev, sop, bounds, loI, hiI, fillParts, binSV, intBin, unSV, simprocAttr] <;> rfl) (by simp only [ev, sop, bounds, loI, hiI, fillParts, binSV, intBin, unSV, simprocAttr] <;> rfl) ?_
    refine (hg n (List.mem_of_getElem? hn) σ1 hj).mono ?_
    rintro v σ2 ⟨rfl, hj2⟩
    refine ⟨recheck_nil, ?_⟩
    cases hp : p n with
    | true =>
      repeat (first | (with_reducible refine Nx.go ?_) | ((with_reducible refine Ny.go ?_); (conv => arg 1; simp only [ev, sop, bounds, loI, hiI, fillParts, binSV, intBin, unSV, simprocAttr, recheck, wantedS, SV.same_self, Bool.and_self]); (first | (with_reducible refine Nz.go ?_) | refine Hold_some ?_)))
      (refine Hold1_of ?_; (conv => arg 1; simp only [ev, sop, bounds, loI, hiI, fillParts, binSV, intBin, unSV, simprocAttr, resultsSV, resMany, resOne]); refine Hold1_some ?_)
      refine ⟨?_, hj2⟩
      have : (ol o).findIdx? p = some k := by
        rw [List.findIdx?_eq_some_iff_getElem]
        refine ⟨hlt, ?_, fun j hj => ?_⟩
        · rw [(List.getElem?_eq_some_iff.1 hn).2]; exact hp
        · have := hno j (ol o)[j] hj (List.getElem?_eq_getElem (by omega))
          simp [this]
      rw [this]
    | false =>
      repeat (first | (with_reducible refine Nx.go ?_) | ((with_reducible refine Ny.go ?_); (conv => arg 1; simp only [ev, sop, bounds, loI, hiI, fillParts, binSV, intBin, unSV, simprocAttr, recheck, wantedS, SV.same_self, Bool.and_self]); (first | (with_reducible refine Nz.go ?_) | refine Hold_some ?_)))
      refine ⟨by simp only [ev, sop, bounds, loI, hiI, fillParts, binSV, intBin, unSV, simprocAttr, h7], by simp only [ev, sop, bounds, loI, hiI, fillParts, binSV, intBin, unSV, simprocAttr, h8], fun v w => ⟨by simp only [ev, sop, bounds, loI, hiI, fillParts, binSV, intBin, unSV, simprocAttr, h0], by simp only [ev, sop, bounds, loI, hiI, fillParts, binSV, intBin, unSV, simprocAttr, h1], hj2, fun j x hj hx => ?_⟩⟩
      by_cases e : j = k
      · subst e; rw [hn] at hx; cases hx; exact hp
      · exact hno j x (by omega) hx
  · rintro t σ1 ⟨h0, h1, hj, hno⟩
    repeat (first | (with_reducible refine Nx.go ?_) | ((with_reducible refine Ny.go ?_); (conv => arg 1; simp only [ev, sop, bounds, loI, hiI, fillParts, binSV, intBin, unSV, simprocAttr, recheck, wantedS, SV.same_self, Bool.and_self]); (first | (with_reducible refine Nz.go ?_) | refine Hold_some ?_)))
    (refine Hold1_of ?_; (conv => arg 1; simp only [ev, sop, bounds, loI, hiI, fillParts, binSV, intBin, unSV, simprocAttr, resultsSV, resMany, resOne]); refine Hold1_some ?_)
    refine ⟨?_, hj⟩
    have : (ol o).findIdx? p = none := by
      rw [List.findIdx?_eq_none_iff]
      intro x hx
      obtain ⟨j, hj⟩ := List.mem_iff_getElem?.1 hx
      exact hno j x (List.getElem?_eq_some_iff.1 hj).1 hj
    rw [this]
theorem c_containsFunc {m : Nat} {o : Option (List Int)} {g : SV} {σ : St} (p : Int → Bool) (J : St → Prop) (hl : (ol o).length ≤ 2 ^ 62) (hJ : J σ) (hg : ∀ n ∈ ol o, ∀ σ1, J σ1 → WPC (EV m) g [.sc (.int .i64 n)] σ1 (fun v σ2 => v = .sc (.bool (p n)) ∧ J σ2)) :
    WPF (EV m) 90 [intsV o, g] σ (fun v σ' => v = .sc (.bool ((ol o).any p)) ∧ J σ') := by
  refine inline_fn rfl rfl rfl ?_
  repeat (first | (with_reducible refine Nx.go ?_) | ((with_reducible refine Ny.go ?_); (conv => arg 1; simp only [ev, sop, bounds, loI, hiI, fillParts, binSV, intBin, unSV, simprocAttr, recheck, wantedS, SV.same_self, Bool.and_self]); (first | (with_reducible refine Nz.go ?_) | refine Hold_some ?_)))
  refine st_callf (by first | with_reducible exact wantedS_none | (refine wantedS_some ?_; simp only [ev, sop, bounds, loI, hiI, fillParts, binSV, intBin, unSV, simprocAttr]; done)) (by simp only [ev, sop, bounds, loI, hiI, fillParts, binSV, intBin, unSV, simprocAttr] <;> rfl) (by simp only [ev, sop, bounds, loI, hiI, fillParts, binSV, intBin, unSV, simprocAttr] <;> rfl) ?_
  refine (c_indexFunc p J hl hJ hg).mono ?_
  rintro v σ1 ⟨rfl, hj⟩
  refine ⟨recheck_nil, ?_⟩
  repeat (first | (with_reducible refine Nx.go ?_) | ((with_reducible refine Ny.go ?_); (conv => arg 1; simp only [ev, sop, bounds, loI, hiI, fillParts, binSV, intBin, unSV, simprocAttr, recheck, wantedS, SV.same_self, Bool.and_self]); (first | (with_reducible refine Nz.go ?_) | refine Hold_some ?_)))
  (refine Hold1_of ?_; (conv => arg 1; simp only [ev, sop, bounds, loI, hiI, fillParts, binSV, intBin, unSV, simprocAttr, resultsSV, resMany, resOne]); refine Hold1_some ?_)
  refine ⟨?_, hj⟩
  cases hf : (ol o).findIdx? p with
  | none =>
    rw [List.findIdx?_eq_none_iff] at hf
    have : (ol o).any p = false := by rw [List.any_eq_false]; intro x hx; simp [hf x hx]
    rw [this]; rfl
  | some i =>
    rw [List.findIdx?_eq_some_iff_getElem] at hf
    obtain ⟨hi, hp, _⟩ := hf
    have : (ol o).any p = true := List.any_eq_true.2 ⟨(ol o)[i], List.getElem_mem hi, hp⟩
    rw [this]
    simp

theorem t_none (o : Option (List Int)) (hl : (ol o).length ≤ 2 ^ 62) : Tells 92 [intsV o] (.sc (.bool ((ol o).all (fun n => decide (n = 0))))) := by
  refine tells_fn rfl rfl rfl ?_
  repeat (first | (with_reducible refine Nx.go ?_) | ((with_reducible refine Ny.go ?_); (conv => arg 1; simp only [ev, sop, bounds, loI, hiI, fillParts, binSV, intBin, unSV, simprocAttr, recheck, wantedS, SV.same_self, Bool.and_self]); (first | (with_reducible refine Nz.go ?_) | refine Hold_some ?_)))
  refine st_callf (by first | with_reducible exact wantedS_none | (refine wantedS_some ?_; simp only [ev, sop, bounds, loI, hiI, fillParts, binSV, intBin, unSV, simprocAttr]; done)) (by simp only [ev, sop, bounds, loI, hiI, fillParts, binSV, intBin, unSV, simprocAttr] <;> rfl) (by simp only [ev, sop, bounds, loI, hiI, fillParts, binSV, intBin, unSV, simprocAttr] <;> rfl) ?_
  refine (c_containsFunc (fun n => decide (n ≠ 0)) (· = St.empty) hl rfl (fun n _ σ1 e => ?_)).mono ?_
  · refine WPC_fn (inline_fn rfl rfl rfl ?_)
    repeat (first | (with_reducible refine Nx.go ?_) | ((with_reducible refine Ny.go ?_); (conv => arg 1; simp only [ev, sop, bounds, loI, hiI, fillParts, binSV, intBin, unSV, simprocAttr, recheck, wantedS, SV.same_self, Bool.and_self]); (first | (with_reducible refine Nz.go ?_) | refine Hold_some ?_)))
    (refine Hold1_of ?_; (conv => arg 1; simp only [ev, sop, bounds, loI, hiI, fillParts, binSV, intBin, unSV, simprocAttr, resultsSV, resMany, resOne]); refine Hold1_some ?_)
    refine ⟨?_, e⟩
    by_cases h : n = 0 <;> simp [h]
  · rintro v σ1 ⟨rfl, rfl⟩
    refine ⟨recheck_nil, ?_⟩
    repeat (first | (with_reducible refine Nx.go ?_) | ((with_reducible refine Ny.go ?_); (conv => arg 1; simp only [ev, sop, bounds, loI, hiI, fillParts, binSV, intBin, unSV, simprocAttr, recheck, wantedS, SV.same_self, Bool.and_self]); (first | (with_reducible refine Nz.go ?_) | refine Hold_some ?_)))
    (refine Hold1_of ?_; (conv => arg 1; simp only [ev, sop, bounds, loI, hiI, fillParts, binSV, intBin, unSV, simprocAttr, resultsSV, resMany, resOne]); refine Hold1_some ?_)
    rw [frz_of_pure rfl]
    simp [List.all_eq_not_any_not]
end Go.Proofs.Ytojjhcgbbmknmaa.Sh
