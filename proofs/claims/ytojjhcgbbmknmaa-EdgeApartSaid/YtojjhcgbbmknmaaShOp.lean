/- All operations that are no calls. -/
import Derived.Test.YtojjhcgbbmknmaaShMaps
namespace Go.Proofs.Ytojjhcgbbmknmaa.Sh
set_option linter.unusedSimpArgs false
set_option linter.unusedVariables false
open Go Go.RowKit

section
variable {P : Program} {w0 : World} {ρ : Rho} {N : Nat} {t : Tr SV} {σ σ' : St} {a : Act} {o : Oper} {v : SV} {so : SOp}

theorem pure_sound1 (hc : compOp1 P o = some so) (hk : sopKd so = .pure) (k : TR w0 ρ t N a.tmps) (h : sop so t σ = some (v, σ')) : σ' = σ ∧ Yld P w0 ρ a o v := by
  unfold compOp1 at hc
  split at hc
  · rename_i x ho
    obtain ⟨y, hy, rfl⟩ := Option.map_eq_some_iff.1 hc
    simp only [sop, Option.some.injEq, Prod.mk.injEq] at h
    obtain ⟨rfl, rfl⟩ := h
    exact ⟨rfl, y_mv (.inl ho) hy k⟩
  · rename_i x ho
    obtain ⟨y, hy, rfl⟩ := Option.map_eq_some_iff.1 hc
    simp only [sop, Option.some.injEq, Prod.mk.injEq] at h
    obtain ⟨rfl, rfl⟩ := h
    exact ⟨rfl, y_mv (.inr ho) hy k⟩
  · rename_i c x y ho
    split at hc
    · rename_i h1 h2 h3
      cases hc
      exact y_pick ho h1 h2 h3 k h
    · cases hc
  · obtain ⟨y, hy, rfl⟩ := Option.map_eq_some_iff.1 hc
    simp [sopKd] at hk
  · obtain ⟨y, hy, rfl⟩ := Option.map_eq_some_iff.1 hc
    simp [sopKd] at hk
  · rename_i ty parts ho
    split at hc
    · rename_i zs fs hz hu
      split at hc
      · rename_i places hp
        obtain ⟨l, hl, rfl⟩ := Option.map_eq_some_iff.1 hc
        exact y_build ho hz (.inr ⟨fs, places, hu, hp, hl⟩) k h
      · cases hc
    · rename_i zs n e hz hu
      split at hc
      · rename_i s hs
        obtain ⟨l, hl, rfl⟩ := Option.map_eq_some_iff.1 hc
        exact y_build ho hz (.inl ⟨n, e, s, hu, hs, hl⟩) k h
      · cases hc
    · cases hc
  · split at hc
    · split at hc
      · split at hc
        · obtain ⟨y, hy, rfl⟩ := Option.map_eq_some_iff.1 hc
          simp [sopKd] at hk
        · cases hc
      · cases hc
    · cases hc
  · split at hc
    · split at hc
      · cases hc; simp [sopKd] at hk
      · cases hc
    · cases hc
  · split at hc
    · cases hc; simp [sopKd] at hk
    · cases hc
  · rename_i x ho
    obtain ⟨y, hy, rfl⟩ := Option.map_eq_some_iff.1 hc
    exact y_nilchk ho hy k h
  · rename_i op ty x y ty' ho
    split at hc
    · rename_i h1 h2
      simp only [Option.some.injEq] at hc
      subst hc
      exact y_bin ho h1 h2 k h
    · cases hc
  · rename_i op ty x ho
    obtain ⟨y, hy, rfl⟩ := Option.map_eq_some_iff.1 hc
    exact y_un ho hy k h
  · rename_i src dst x ho
    split at hc
    · rename_i h1 h2 h3
      cases hc
      exact y_conv ho h1 h2 h3 k h
    · cases hc
  · rename_i f fs cs ho
    split at hc
    · rename_i h1 h2
      cases hc
      exact y_mkfn ho h1 h2 k h
    · cases hc
  · cases hc; simp [sopKd] at hk
  · split at hc
    · split at hc
      · split at hc
        · cases hc; simp [sopKd] at hk
        · cases hc
      · cases hc
    · cases hc
  · rename_i ty x lo hi ho
    split at hc
    · rename_i h1 h2 h3 h4
      split at hc
      · rename_i s hs
        split at hc
        · rename_i h0
          cases hc
          exact y_slc ho h1 hs h0 h2 h3 h4 k h
        · cases hc
      · cases hc
    · split at hc
      · split at hc
        · cases hc; simp [sopKd] at hk
        · cases hc
      · cases hc
    · cases hc
  · rename_i ty x i ho
    split at hc
    · rename_i h1 h2
      split at hc
      · rename_i f hf
        split at hc
        · rename_i n hn
          split at hc
          · rename_i h0
            cases hc
            exact y_fieldA ho h1 hf hn h0 h2 k h
          · cases hc
        · cases hc
      · cases hc
    · cases hc
  · rename_i ty x i ho
    split at hc
    · rename_i h1 h2
      split at hc
      · rename_i f hf
        split at hc
        · rename_i n ag hn hag
          split at hc
          · cases hc
            exact y_field ho h1 hf hn hag h2 k h
          · cases hc
        · cases hc
      · cases hc
    · cases hc
  · rename_i ty x i ho
    split at hc
    · rename_i h1 h2 h3
      obtain ⟨s, hs, rfl⟩ := Option.map_eq_some_iff.1 hc
      exact y_indexArr ho h1 hs h2 h3 k h
    · rename_i h1 h2 h3
      obtain ⟨s, hs, rfl⟩ := Option.map_eq_some_iff.1 hc
      exact y_indexSl ho h1 hs h2 h3 k h
    · cases hc
  · rename_i ty x i ho
    split at hc
    · rename_i h1 h2 h3
      split at hc
      · rename_i s ag hs hag
        split at hc
        · cases hc
          exact y_index ho h1 hs hag h2 h3 k h
        · cases hc
      · cases hc
    · cases hc
  · rename_i x i ho
    obtain ⟨y, hy, rfl⟩ := Option.map_eq_some_iff.1 hc
    exact y_extract ho hy k h
  · split at hc
    · split at hc
      · split at hc
        · obtain ⟨y, hy, rfl⟩ := Option.map_eq_some_iff.1 hc
          simp [sopKd] at hk
        · cases hc
      · cases hc
    · cases hc
  · split at hc
    · split at hc
      · cases hc; simp [sopKd] at hk
      · cases hc
    · cases hc
  · split at hc
    · split at hc
      · cases hc; simp [sopKd] at hk
      · cases hc
    · cases hc
  · rename_i c ho
    obtain ⟨cal, ar, at_⟩ := c
    simp only at hc
    split at hc
    · split at hc
      · cases hc; simp [sopKd] at hk
      · cases hc
    · split at hc
      · rename_i x ty h1 h2
        obtain rfl : ar = #[x] := by apply Array.ext'; simpa using h1
        obtain rfl : at_ = #[ty] := by apply Array.ext'; simpa using h2
        split at hc
        · rename_i hu hx
          cases hc
          exact y_lenSl ho hu hx k h
        · rename_i hu hx
          cases hc
          exact y_lenArr ho (.inl ⟨_, hu⟩) h
        · cases hc; simp [sopKd] at hk
        · rename_i hu hx
          split at hc
          · rename_i hq
            cases hc
            exact y_lenArr ho (.inr ⟨_, _, hu, hq⟩) h
          · cases hc
        · cases hc
      · cases hc
    · split at hc
      · split at hc
        · split at hc
          · split at hc
            · split at hc
              · cases hc; simp [sopKd] at hk
              · cases hc
            · cases hc
          · cases hc
        · cases hc
      · cases hc
    · cases hc
  · cases hc
end
end Go.Proofs.Ytojjhcgbbmknmaa.Sh
