/- Operations that read the state, lay a block, change the state. -/
import Derived.Test.YtojjhcgbbmknmaaShOp
namespace Go.Proofs.Ytojjhcgbbmknmaa.Sh
set_option linter.unusedSimpArgs false
set_option linter.unusedVariables false
open Go Go.RowKit

section
variable {P : Program} {w0 : World} {ρ : Rho} {N : Nat} {t : Tr SV} {σ σ' : St} {a : Act} {o : Oper} {v : SV} {so : SOp} {w : World}

theorem reads_sound1 (hc : compOp1 P o = some so) (hk : sopKd so = .reads) (sr : SR P w0 ρ σ w) (k : TR w0 ρ t N a.tmps) (h : sop so t σ = some (v, σ')) : σ' = σ ∧ ∃ u, (execOp a.eval o).run P w = .ok (.value u) w ∧ OK w0 ρ v u := by
  unfold compOp1 at hc
  split at hc
  · exfalso
    revert hc
    repeat' split
    all_goals (intro hc; first | (cases hc; done) | (cases hc; simp [sopKd] at hk; done) | (obtain ⟨y_, hy_, rfl⟩ := Option.map_eq_some_iff.1 hc; simp [sopKd] at hk; done))
  · exfalso
    revert hc
    repeat' split
    all_goals (intro hc; first | (cases hc; done) | (cases hc; simp [sopKd] at hk; done) | (obtain ⟨y_, hy_, rfl⟩ := Option.map_eq_some_iff.1 hc; simp [sopKd] at hk; done))
  · exfalso
    revert hc
    repeat' split
    all_goals (intro hc; first | (cases hc; done) | (cases hc; simp [sopKd] at hk; done) | (obtain ⟨y_, hy_, rfl⟩ := Option.map_eq_some_iff.1 hc; simp [sopKd] at hk; done))
  · exfalso
    revert hc
    repeat' split
    all_goals (intro hc; first | (cases hc; done) | (cases hc; simp [sopKd] at hk; done) | (obtain ⟨y_, hy_, rfl⟩ := Option.map_eq_some_iff.1 hc; simp [sopKd] at hk; done))
  · exfalso
    revert hc
    repeat' split
    all_goals (intro hc; first | (cases hc; done) | (cases hc; simp [sopKd] at hk; done) | (obtain ⟨y_, hy_, rfl⟩ := Option.map_eq_some_iff.1 hc; simp [sopKd] at hk; done))
  · exfalso
    revert hc
    repeat' split
    all_goals (intro hc; first | (cases hc; done) | (cases hc; simp [sopKd] at hk; done) | (obtain ⟨y_, hy_, rfl⟩ := Option.map_eq_some_iff.1 hc; simp [sopKd] at hk; done))
  · exfalso
    revert hc
    repeat' split
    all_goals (intro hc; first | (cases hc; done) | (cases hc; simp [sopKd] at hk; done) | (obtain ⟨y_, hy_, rfl⟩ := Option.map_eq_some_iff.1 hc; simp [sopKd] at hk; done))
  · rename_i ty x ho
    split at hc
    · rename_i h1 h2 h3
      split at hc
      · cases hc
        exact r_load ho h1 h2 h3 sr k h
      · cases hc
    · cases hc
  · exfalso
    revert hc
    repeat' split
    all_goals (intro hc; first | (cases hc; done) | (cases hc; simp [sopKd] at hk; done) | (obtain ⟨y_, hy_, rfl⟩ := Option.map_eq_some_iff.1 hc; simp [sopKd] at hk; done))
  · exfalso
    revert hc
    repeat' split
    all_goals (intro hc; first | (cases hc; done) | (cases hc; simp [sopKd] at hk; done) | (obtain ⟨y_, hy_, rfl⟩ := Option.map_eq_some_iff.1 hc; simp [sopKd] at hk; done))
  · exfalso
    revert hc
    repeat' split
    all_goals (intro hc; first | (cases hc; done) | (cases hc; simp [sopKd] at hk; done) | (obtain ⟨y_, hy_, rfl⟩ := Option.map_eq_some_iff.1 hc; simp [sopKd] at hk; done))
  · exfalso
    revert hc
    repeat' split
    all_goals (intro hc; first | (cases hc; done) | (cases hc; simp [sopKd] at hk; done) | (obtain ⟨y_, hy_, rfl⟩ := Option.map_eq_some_iff.1 hc; simp [sopKd] at hk; done))
  · exfalso
    revert hc
    repeat' split
    all_goals (intro hc; first | (cases hc; done) | (cases hc; simp [sopKd] at hk; done) | (obtain ⟨y_, hy_, rfl⟩ := Option.map_eq_some_iff.1 hc; simp [sopKd] at hk; done))
  · exfalso
    revert hc
    repeat' split
    all_goals (intro hc; first | (cases hc; done) | (cases hc; simp [sopKd] at hk; done) | (obtain ⟨y_, hy_, rfl⟩ := Option.map_eq_some_iff.1 hc; simp [sopKd] at hk; done))
  · exfalso
    revert hc
    repeat' split
    all_goals (intro hc; first | (cases hc; done) | (cases hc; simp [sopKd] at hk; done) | (obtain ⟨y_, hy_, rfl⟩ := Option.map_eq_some_iff.1 hc; simp [sopKd] at hk; done))
  · exfalso
    revert hc
    repeat' split
    all_goals (intro hc; first | (cases hc; done) | (cases hc; simp [sopKd] at hk; done) | (obtain ⟨y_, hy_, rfl⟩ := Option.map_eq_some_iff.1 hc; simp [sopKd] at hk; done))
  · rename_i ty x lo hi ho
    split at hc
    · split at hc
      · split at hc
        · cases hc; simp [sopKd] at hk
        · cases hc
      · cases hc
    · rename_i h1 h2 h3 h4
      split at hc
      · rename_i s hs
        split at hc
        · rename_i h0
          cases hc
          exact r_slcArr ho h1 hs h0 h2 h3 h4 sr k h
        · cases hc
      · cases hc
    · cases hc
  · exfalso
    revert hc
    repeat' split
    all_goals (intro hc; first | (cases hc; done) | (cases hc; simp [sopKd] at hk; done) | (obtain ⟨y_, hy_, rfl⟩ := Option.map_eq_some_iff.1 hc; simp [sopKd] at hk; done))
  · exfalso
    revert hc
    repeat' split
    all_goals (intro hc; first | (cases hc; done) | (cases hc; simp [sopKd] at hk; done) | (obtain ⟨y_, hy_, rfl⟩ := Option.map_eq_some_iff.1 hc; simp [sopKd] at hk; done))
  · exfalso
    revert hc
    repeat' split
    all_goals (intro hc; first | (cases hc; done) | (cases hc; simp [sopKd] at hk; done) | (obtain ⟨y_, hy_, rfl⟩ := Option.map_eq_some_iff.1 hc; simp [sopKd] at hk; done))
  · exfalso
    revert hc
    repeat' split
    all_goals (intro hc; first | (cases hc; done) | (cases hc; simp [sopKd] at hk; done) | (obtain ⟨y_, hy_, rfl⟩ := Option.map_eq_some_iff.1 hc; simp [sopKd] at hk; done))
  · exfalso
    revert hc
    repeat' split
    all_goals (intro hc; first | (cases hc; done) | (cases hc; simp [sopKd] at hk; done) | (obtain ⟨y_, hy_, rfl⟩ := Option.map_eq_some_iff.1 hc; simp [sopKd] at hk; done))
  · rename_i ty m x ok ho
    split at hc
    · rename_i h1 h2 h3
      split at hc
      · rename_i h4 h5 h6
        split at hc
        · rename_i h7
          obtain ⟨z, hz, rfl⟩ := Option.map_eq_some_iff.1 hc
          refine r_lookup ho h1 h4 h5 h6 hz (fun e => ?_) (fun e => ?_) h2 h3 sr k h
          · unfold zagT at h7
            obtain ⟨u, hu, hv⟩ := Option.map_eq_some_iff.1 h7
            obtain ⟨i, hi, hj⟩ := Option.bind_eq_some_iff.1 hu
            subst e
            split at hv
            · exact ⟨i, _, hi, hj⟩
            · cases hv
          · unfold zagT at h7
            obtain ⟨u, hu, hv⟩ := Option.map_eq_some_iff.1 h7
            obtain ⟨i, hi, hj⟩ := Option.bind_eq_some_iff.1 hu
            subst e
            split at hv
            · cases hv
            · rename_i hn
              refine ⟨i, u, hi, hj, ?_⟩
              cases u <;> first | rfl | exact absurd rfl (hn _)
        · cases hc
      · cases hc
    · cases hc
  · exfalso
    revert hc
    repeat' split
    all_goals (intro hc; first | (cases hc; done) | (cases hc; simp [sopKd] at hk; done) | (obtain ⟨y_, hy_, rfl⟩ := Option.map_eq_some_iff.1 hc; simp [sopKd] at hk; done))
  · exfalso
    revert hc
    repeat' split
    all_goals (intro hc; first | (cases hc; done) | (cases hc; simp [sopKd] at hk; done) | (obtain ⟨y_, hy_, rfl⟩ := Option.map_eq_some_iff.1 hc; simp [sopKd] at hk; done))
  · rename_i c ho
    obtain ⟨cal, ar, at_⟩ := c
    simp only at hc
    split at hc
    · split at hc
      · cases hc; simp [sopKd] at hk
      · cases hc
    · split at hc
      · rename_i x ty h1 h2
        obtain rfl : ar = #[x] := by apply Array.ext'; simpa using h1
        obtain rfl : at_ = #[ty] := by apply Array.ext'; simpa using h2
        split at hc
        · cases hc; simp [sopKd] at hk
        · cases hc; simp [sopKd] at hk
        · rename_i hu hx
          cases hc
          exact r_lenMap ho hu hx sr k h
        · split at hc
          · cases hc; simp [sopKd] at hk
          · cases hc
        · cases hc
      · cases hc
    · split at hc
      · split at hc
        · split at hc
          · split at hc
            · split at hc
              · cases hc; simp [sopKd] at hk
              · cases hc
            · cases hc
          · cases hc
        · cases hc
      · cases hc
    · cases hc
  · exfalso
    revert hc
    repeat' split
    all_goals (intro hc; first | (cases hc; done) | (cases hc; simp [sopKd] at hk; done) | (obtain ⟨y_, hy_, rfl⟩ := Option.map_eq_some_iff.1 hc; simp [sopKd] at hk; done))

theorem alloc_sound1 (hc : compOp1 P o = some so) (hk : sopKd so = .alloc) (k : TR w0 ρ t N a.tmps) (h : sop so t σ = some (v, σ')) : Lays P w0 ρ σ a o v σ' := by
  unfold compOp1 at hc
  split at hc
  · exfalso
    revert hc
    repeat' split
    all_goals (intro hc; first | (cases hc; done) | (cases hc; simp [sopKd] at hk; done) | (obtain ⟨y_, hy_, rfl⟩ := Option.map_eq_some_iff.1 hc; simp [sopKd] at hk; done))
  · exfalso
    revert hc
    repeat' split
    all_goals (intro hc; first | (cases hc; done) | (cases hc; simp [sopKd] at hk; done) | (obtain ⟨y_, hy_, rfl⟩ := Option.map_eq_some_iff.1 hc; simp [sopKd] at hk; done))
  · exfalso
    revert hc
    repeat' split
    all_goals (intro hc; first | (cases hc; done) | (cases hc; simp [sopKd] at hk; done) | (obtain ⟨y_, hy_, rfl⟩ := Option.map_eq_some_iff.1 hc; simp [sopKd] at hk; done))
  · rename_i e ho
    obtain ⟨zs, hz, rfl⟩ := Option.map_eq_some_iff.1 hc
    exact l_alloc ho hz h
  · rename_i e x ho
    obtain ⟨y, hy, rfl⟩ := Option.map_eq_some_iff.1 hc
    exact l_box ho hy k h
  · exfalso
    revert hc
    repeat' split
    all_goals (intro hc; first | (cases hc; done) | (cases hc; simp [sopKd] at hk; done) | (obtain ⟨y_, hy_, rfl⟩ := Option.map_eq_some_iff.1 hc; simp [sopKd] at hk; done))
  · rename_i ty len parts ho
    split at hc
    · rename_i hu
      split at hc
      · rename_i hs hz
        split at hc
        · rename_i hcond
          obtain ⟨l, hl, rfl⟩ := Option.map_eq_some_iff.1 hc
          exact l_buildSl ho hu hs hz hcond.1 hcond.2.1 hcond.2.2 hl k h
        · cases hc
      · cases hc
    · cases hc
  · exfalso
    revert hc
    repeat' split
    all_goals (intro hc; first | (cases hc; done) | (cases hc; simp [sopKd] at hk; done) | (obtain ⟨y_, hy_, rfl⟩ := Option.map_eq_some_iff.1 hc; simp [sopKd] at hk; done))
  · exfalso
    revert hc
    repeat' split
    all_goals (intro hc; first | (cases hc; done) | (cases hc; simp [sopKd] at hk; done) | (obtain ⟨y_, hy_, rfl⟩ := Option.map_eq_some_iff.1 hc; simp [sopKd] at hk; done))
  · exfalso
    revert hc
    repeat' split
    all_goals (intro hc; first | (cases hc; done) | (cases hc; simp [sopKd] at hk; done) | (obtain ⟨y_, hy_, rfl⟩ := Option.map_eq_some_iff.1 hc; simp [sopKd] at hk; done))
  · exfalso
    revert hc
    repeat' split
    all_goals (intro hc; first | (cases hc; done) | (cases hc; simp [sopKd] at hk; done) | (obtain ⟨y_, hy_, rfl⟩ := Option.map_eq_some_iff.1 hc; simp [sopKd] at hk; done))
  · exfalso
    revert hc
    repeat' split
    all_goals (intro hc; first | (cases hc; done) | (cases hc; simp [sopKd] at hk; done) | (obtain ⟨y_, hy_, rfl⟩ := Option.map_eq_some_iff.1 hc; simp [sopKd] at hk; done))
  · exfalso
    revert hc
    repeat' split
    all_goals (intro hc; first | (cases hc; done) | (cases hc; simp [sopKd] at hk; done) | (obtain ⟨y_, hy_, rfl⟩ := Option.map_eq_some_iff.1 hc; simp [sopKd] at hk; done))
  · exfalso
    revert hc
    repeat' split
    all_goals (intro hc; first | (cases hc; done) | (cases hc; simp [sopKd] at hk; done) | (obtain ⟨y_, hy_, rfl⟩ := Option.map_eq_some_iff.1 hc; simp [sopKd] at hk; done))
  · rename_i ty ho
    cases hc
    exact l_mkmap ho h
  · rename_i ty l c ho
    split at hc
    · rename_i hu
      split at hc
      · rename_i hs hb hz hl hcc
        split at hc
        · rename_i hcond
          cases hc
          exact l_mksl ho hu hs hb hz hcond.1 hcond.2 hl hcc k h
        · cases hc
      · cases hc
    · cases hc
  · exfalso
    revert hc
    repeat' split
    all_goals (intro hc; first | (cases hc; done) | (cases hc; simp [sopKd] at hk; done) | (obtain ⟨y_, hy_, rfl⟩ := Option.map_eq_some_iff.1 hc; simp [sopKd] at hk; done))
  · exfalso
    revert hc
    repeat' split
    all_goals (intro hc; first | (cases hc; done) | (cases hc; simp [sopKd] at hk; done) | (obtain ⟨y_, hy_, rfl⟩ := Option.map_eq_some_iff.1 hc; simp [sopKd] at hk; done))
  · exfalso
    revert hc
    repeat' split
    all_goals (intro hc; first | (cases hc; done) | (cases hc; simp [sopKd] at hk; done) | (obtain ⟨y_, hy_, rfl⟩ := Option.map_eq_some_iff.1 hc; simp [sopKd] at hk; done))
  · exfalso
    revert hc
    repeat' split
    all_goals (intro hc; first | (cases hc; done) | (cases hc; simp [sopKd] at hk; done) | (obtain ⟨y_, hy_, rfl⟩ := Option.map_eq_some_iff.1 hc; simp [sopKd] at hk; done))
  · exfalso
    revert hc
    repeat' split
    all_goals (intro hc; first | (cases hc; done) | (cases hc; simp [sopKd] at hk; done) | (obtain ⟨y_, hy_, rfl⟩ := Option.map_eq_some_iff.1 hc; simp [sopKd] at hk; done))
  · exfalso
    revert hc
    repeat' split
    all_goals (intro hc; first | (cases hc; done) | (cases hc; simp [sopKd] at hk; done) | (obtain ⟨y_, hy_, rfl⟩ := Option.map_eq_some_iff.1 hc; simp [sopKd] at hk; done))
  · exfalso
    revert hc
    repeat' split
    all_goals (intro hc; first | (cases hc; done) | (cases hc; simp [sopKd] at hk; done) | (obtain ⟨y_, hy_, rfl⟩ := Option.map_eq_some_iff.1 hc; simp [sopKd] at hk; done))
  · exfalso
    revert hc
    repeat' split
    all_goals (intro hc; first | (cases hc; done) | (cases hc; simp [sopKd] at hk; done) | (obtain ⟨y_, hy_, rfl⟩ := Option.map_eq_some_iff.1 hc; simp [sopKd] at hk; done))
  · exfalso
    revert hc
    repeat' split
    all_goals (intro hc; first | (cases hc; done) | (cases hc; simp [sopKd] at hk; done) | (obtain ⟨y_, hy_, rfl⟩ := Option.map_eq_some_iff.1 hc; simp [sopKd] at hk; done))
  · exfalso
    revert hc
    repeat' split
    all_goals (intro hc; first | (cases hc; done) | (cases hc; simp [sopKd] at hk; done) | (obtain ⟨y_, hy_, rfl⟩ := Option.map_eq_some_iff.1 hc; simp [sopKd] at hk; done))
  · exfalso
    revert hc
    repeat' split
    all_goals (intro hc; first | (cases hc; done) | (cases hc; simp [sopKd] at hk; done) | (obtain ⟨y_, hy_, rfl⟩ := Option.map_eq_some_iff.1 hc; simp [sopKd] at hk; done))

theorem big_sound1 (hc : compOp1 P o = some so) (hk : sopKd so = .big) (sr : SR P w0 ρ σ w) (k : TR w0 ρ t N a.tmps) (h : sop so t σ = some (v, σ')) :
    ∃ nx u w' ρ', (execOp a.eval o).run P w = .ok nx w' ∧ (nx = .value u ∨ (nx = .skip ∧ u = Go.undef)) ∧ OK w0 ρ' v u ∧ Step1 P w0 ρ σ w ρ' σ' w' := by
  unfold compOp1 at hc
  split at hc
  · exfalso
    revert hc
    repeat' split
    all_goals (intro hc; first | (cases hc; done) | (cases hc; simp [sopKd] at hk; done) | (obtain ⟨y_, hy_, rfl⟩ := Option.map_eq_some_iff.1 hc; simp [sopKd] at hk; done))
  · exfalso
    revert hc
    repeat' split
    all_goals (intro hc; first | (cases hc; done) | (cases hc; simp [sopKd] at hk; done) | (obtain ⟨y_, hy_, rfl⟩ := Option.map_eq_some_iff.1 hc; simp [sopKd] at hk; done))
  · exfalso
    revert hc
    repeat' split
    all_goals (intro hc; first | (cases hc; done) | (cases hc; simp [sopKd] at hk; done) | (obtain ⟨y_, hy_, rfl⟩ := Option.map_eq_some_iff.1 hc; simp [sopKd] at hk; done))
  · exfalso
    revert hc
    repeat' split
    all_goals (intro hc; first | (cases hc; done) | (cases hc; simp [sopKd] at hk; done) | (obtain ⟨y_, hy_, rfl⟩ := Option.map_eq_some_iff.1 hc; simp [sopKd] at hk; done))
  · exfalso
    revert hc
    repeat' split
    all_goals (intro hc; first | (cases hc; done) | (cases hc; simp [sopKd] at hk; done) | (obtain ⟨y_, hy_, rfl⟩ := Option.map_eq_some_iff.1 hc; simp [sopKd] at hk; done))
  · exfalso
    revert hc
    repeat' split
    all_goals (intro hc; first | (cases hc; done) | (cases hc; simp [sopKd] at hk; done) | (obtain ⟨y_, hy_, rfl⟩ := Option.map_eq_some_iff.1 hc; simp [sopKd] at hk; done))
  · exfalso
    revert hc
    repeat' split
    all_goals (intro hc; first | (cases hc; done) | (cases hc; simp [sopKd] at hk; done) | (obtain ⟨y_, hy_, rfl⟩ := Option.map_eq_some_iff.1 hc; simp [sopKd] at hk; done))
  · exfalso
    revert hc
    repeat' split
    all_goals (intro hc; first | (cases hc; done) | (cases hc; simp [sopKd] at hk; done) | (obtain ⟨y_, hy_, rfl⟩ := Option.map_eq_some_iff.1 hc; simp [sopKd] at hk; done))
  · rename_i ty x y ho
    split at hc
    · rename_i h1 h2 h3
      cases hc
      obtain ⟨rfl, w', hr, hs⟩ := b_store ho h1 h2 h3 sr k h
      exact ⟨_, Go.undef, w', ρ, hr, .inr ⟨rfl, rfl⟩, OK.mk_undef, hs⟩
    · cases hc
  · exfalso
    revert hc
    repeat' split
    all_goals (intro hc; first | (cases hc; done) | (cases hc; simp [sopKd] at hk; done) | (obtain ⟨y_, hy_, rfl⟩ := Option.map_eq_some_iff.1 hc; simp [sopKd] at hk; done))
  · exfalso
    revert hc
    repeat' split
    all_goals (intro hc; first | (cases hc; done) | (cases hc; simp [sopKd] at hk; done) | (obtain ⟨y_, hy_, rfl⟩ := Option.map_eq_some_iff.1 hc; simp [sopKd] at hk; done))
  · exfalso
    revert hc
    repeat' split
    all_goals (intro hc; first | (cases hc; done) | (cases hc; simp [sopKd] at hk; done) | (obtain ⟨y_, hy_, rfl⟩ := Option.map_eq_some_iff.1 hc; simp [sopKd] at hk; done))
  · exfalso
    revert hc
    repeat' split
    all_goals (intro hc; first | (cases hc; done) | (cases hc; simp [sopKd] at hk; done) | (obtain ⟨y_, hy_, rfl⟩ := Option.map_eq_some_iff.1 hc; simp [sopKd] at hk; done))
  · exfalso
    revert hc
    repeat' split
    all_goals (intro hc; first | (cases hc; done) | (cases hc; simp [sopKd] at hk; done) | (obtain ⟨y_, hy_, rfl⟩ := Option.map_eq_some_iff.1 hc; simp [sopKd] at hk; done))
  · exfalso
    revert hc
    repeat' split
    all_goals (intro hc; first | (cases hc; done) | (cases hc; simp [sopKd] at hk; done) | (obtain ⟨y_, hy_, rfl⟩ := Option.map_eq_some_iff.1 hc; simp [sopKd] at hk; done))
  · exfalso
    revert hc
    repeat' split
    all_goals (intro hc; first | (cases hc; done) | (cases hc; simp [sopKd] at hk; done) | (obtain ⟨y_, hy_, rfl⟩ := Option.map_eq_some_iff.1 hc; simp [sopKd] at hk; done))
  · exfalso
    revert hc
    repeat' split
    all_goals (intro hc; first | (cases hc; done) | (cases hc; simp [sopKd] at hk; done) | (obtain ⟨y_, hy_, rfl⟩ := Option.map_eq_some_iff.1 hc; simp [sopKd] at hk; done))
  · exfalso
    revert hc
    repeat' split
    all_goals (intro hc; first | (cases hc; done) | (cases hc; simp [sopKd] at hk; done) | (obtain ⟨y_, hy_, rfl⟩ := Option.map_eq_some_iff.1 hc; simp [sopKd] at hk; done))
  · exfalso
    revert hc
    repeat' split
    all_goals (intro hc; first | (cases hc; done) | (cases hc; simp [sopKd] at hk; done) | (obtain ⟨y_, hy_, rfl⟩ := Option.map_eq_some_iff.1 hc; simp [sopKd] at hk; done))
  · exfalso
    revert hc
    repeat' split
    all_goals (intro hc; first | (cases hc; done) | (cases hc; simp [sopKd] at hk; done) | (obtain ⟨y_, hy_, rfl⟩ := Option.map_eq_some_iff.1 hc; simp [sopKd] at hk; done))
  · exfalso
    revert hc
    repeat' split
    all_goals (intro hc; first | (cases hc; done) | (cases hc; simp [sopKd] at hk; done) | (obtain ⟨y_, hy_, rfl⟩ := Option.map_eq_some_iff.1 hc; simp [sopKd] at hk; done))
  · exfalso
    revert hc
    repeat' split
    all_goals (intro hc; first | (cases hc; done) | (cases hc; simp [sopKd] at hk; done) | (obtain ⟨y_, hy_, rfl⟩ := Option.map_eq_some_iff.1 hc; simp [sopKd] at hk; done))
  · exfalso
    revert hc
    repeat' split
    all_goals (intro hc; first | (cases hc; done) | (cases hc; simp [sopKd] at hk; done) | (obtain ⟨y_, hy_, rfl⟩ := Option.map_eq_some_iff.1 hc; simp [sopKd] at hk; done))
  · rename_i ty m x y ho
    split at hc
    · rename_i h1 h2 h3 h4
      split at hc
      · rename_i hk'
        cases hc
        obtain ⟨rfl, w', hr, hs⟩ := b_mapset (.inl ho) h1 hk' h2 h3 h4 sr k h
        exact ⟨_, Go.undef, w', ρ, hr, .inr ⟨rfl, rfl⟩, OK.mk_undef, hs⟩
      · cases hc
    · cases hc
  · rename_i ty m x y ho
    split at hc
    · rename_i h1 h2 h3 h4
      split at hc
      · rename_i hk'
        cases hc
        obtain ⟨rfl, w', hr, hs⟩ := b_mapset (.inr ho) h1 hk' h2 h3 h4 sr k h
        exact ⟨_, Go.undef, w', ρ, hr, .inr ⟨rfl, rfl⟩, OK.mk_undef, hs⟩
      · cases hc
    · cases hc
  · rename_i c ho
    obtain ⟨cal, ar, at_⟩ := c
    simp only at hc
    split at hc
    · split at hc
      · cases hc; simp [sop] at h
      · cases hc
    · split at hc
      · split at hc
        · cases hc; simp [sopKd] at hk
        · cases hc; simp [sopKd] at hk
        · cases hc; simp [sopKd] at hk
        · split at hc
          · cases hc; simp [sopKd] at hk
          · cases hc
        · cases hc
      · cases hc
    · split at hc
      · rename_i x y ty ty' h1 h2
        split at hc
        · rename_i he
          subst he
          obtain rfl : ar = #[x, y] := by apply Array.ext'; simpa using h1
          obtain rfl : at_ = #[ty, ty] := by apply Array.ext'; simpa using h2
          split at hc
          · rename_i hu hx hy
            split at hc
            · rename_i hs hb hz
              split at hc
              · rename_i hcond
                cases hc
                obtain ⟨u, w', ρ', hr, hok, hst⟩ := b_append ho hu hs hb hz hcond.1 hcond.2 hx hy sr k h
                exact ⟨_, u, w', ρ', hr, .inl rfl, hok, hst⟩
              · cases hc
            · cases hc
          · cases hc
        · cases hc
      · cases hc
    · cases hc
  · exfalso
    revert hc
    repeat' split
    all_goals (intro hc; first | (cases hc; done) | (cases hc; simp [sopKd] at hk; done) | (obtain ⟨y_, hy_, rfl⟩ := Option.map_eq_some_iff.1 hc; simp [sopKd] at hk; done))
end
end Go.Proofs.Ytojjhcgbbmknmaa.Sh
