/- Several texts, merged: Tiles: their parents; sets of blocks, gone through. And more. -/
import Derived.Test.YtojjhcgbbmknmaaX8

/- Tiles: their parents; sets of blocks, gone through. -/
namespace Go.Proofs.Ytojjhcgbbmknmaa.Sh
set_option linter.unusedSimpArgs false
set_option linter.unusedVariables false
open Go Go.Proofs

/-- A range over an array. -/
theorem WP_rangeK {E : Env} {t : Tr SV} {σ : St} {Q : Ex → Tr SV → St → Prop} {a b i c s tg nn : Nat} {z : Int} {body : SC} {N : Nat} (I : Nat → Tr SV → St → Prop) (hN : N ≤ 2 ^ 62) (hz : z = (N : Int)) (hi : getT t i = .sc (.int .i64 0)) (hne : i ≠ c ∧ i ≠ s)
    (h0 : I 0 t σ)
    (step : ∀ k t σ, k < N → getT t i = .sc (.int .i64 k) → I k t σ → WP E body (t.set c (.sc (.bool true))) σ
      (RangePost a b (fun t1 σ1 => getT t1 i = .sc (.int .i64 k) ∧ ∀ v w, I (k + 1) ((t1.set s v).set i w) σ1) Q))
    (done : ∀ t σ, I N t σ → Q .normal (t.set c (.sc (.bool false))) σ) :
    WP E (.block a (.loop (.seq (.reg [⟨some c, none, .bin tg nn .lss (.t i) (.k (.sc (.int .i64 z))), []⟩]) (.seq (.cond (.t c) .skip (.exit a)) (.seq (.block b body) (.reg [⟨some s, none, .bin tg nn .add (.t i) (.k (.sc (.int .i64 1))), []⟩, ⟨some i, none, .mv (.t s), []⟩])))))) t σ Q := by
  subst hz
  refine WP_blockloop (fun m t σ => ∃ k, m = N - k ∧ k ≤ N ∧ getT t i = .sc (.int .i64 k) ∧ I k t σ) ⟨0, rfl, Nat.zero_le _, hi, h0⟩ ?_
  rintro m t σ ⟨k, rfl, hk, h2, h3⟩
  refine WP_seq.2 (WP_reg.2 (st_plain rfl ?_))
  have e : sop (.bin tg nn .lss (.t i) (.k (.sc (.int .i64 (N : Int))))) t σ = some (.sc (.bool (decide ((k : Int) < (N : Int)))), σ) := by
    simp only [sop, Opd.ev, h2, binSV, intBin, reduceIte, Option.map_some]
  rw [e]
  refine Hold_some (WPS_nil.2 (Then_normal.2 (WP_seq.2 ?_)))
  by_cases hlt : k < N
  · have hd : decide ((k : Int) < (N : Int)) = true := by simp; omega
    rw [hd]
    refine st_ifT (by simp only [Opd.ev, getT_set, reduceIte]) (WP_skip.2 (Then_normal.2 (WP_seq.2 (WP_block.2 ((step k t σ hlt h2 h3).mono fun ex t1 σ1 q => ?_)))))
    have next : ∀ t1 σ1, (getT t1 i = .sc (.int .i64 k) ∧ ∀ v w, I (k + 1) ((t1.set s v).set i w) σ1) →
        WP E (.reg [⟨some s, none, .bin tg nn .add (.t i) (.k (.sc (.int .i64 1))), []⟩, ⟨some i, none, .mv (.t s), []⟩]) t1 σ1 (LoopPost a (fun t1 σ1 => ∃ k', k' < N - k ∧ ∃ k, k' = N - k ∧ k ≤ N ∧ getT t1 i = .sc (.int .i64 k) ∧ I k t1 σ1) Q) := by
      rintro t1 σ1 ⟨g2, g3⟩
      refine WP_reg.2 (st_plain rfl ?_)
      have e : sop (.bin tg nn .add (.t i) (.k (.sc (.int .i64 1)))) t1 σ1 = some (.sc (.int .i64 ((k + 1 : Nat) : Int)), σ1) := by
        simp only [sop, Opd.ev, g2, binSV, intBin, reduceIte, Option.map_some]
        rw [i64_in _ (by omega) (by omega)]; rfl
      rw [e]
      refine Hold_some (st_plain rfl (Hold_some (WPS_nil.2 ⟨N - (k + 1), by omega, k + 1, rfl, by omega, ?_, ?_⟩)))
      · simp only [getT_set, Opd.ev, reduceIte]
      · exact g3 _ _
    cases ex with
    | normal => exact next _ _ q
    | ret => exact q
    | exit j =>
      have q : bif Nat.beq j b then _ else bif Nat.beq j a then Q .normal t1 σ1 else Q (.exit j) t1 σ1 := q
      show Then _ _ (bif Nat.beq j b then .normal else .exit j) t1 σ1
      cases hb : Nat.beq j b
      · rw [hb] at q
        exact q
      · rw [hb] at q
        exact next _ _ q
  · have hd : decide ((k : Int) < (N : Int)) = false := by simp; omega
    rw [hd]
    have : k = N := by omega
    subst this
    refine st_ifF (by simp only [Opd.ev, getT_set, reduceIte]) (WP_exit.2 ?_)
    show bif Nat.beq a a then Q .normal (t.set c (.sc (.bool false))) σ else Q (.exit a) (t.set c (.sc (.bool false))) σ
    rw [Nat.beq_refl]; exact done t σ h3

/-- Is each tile's parent ahead of it, or -1? -/
def parentsOk (l : List TileD) : Prop := ∀ (i : Nat) (t : TileD), l[i]? = some t → -1 ≤ t.parent ∧ t.parent < (i : Int)
open Classical in
noncomputable def parentsB (l : List TileD) : Bool := decide (parentsOk l)
theorem parentsB_iff {l : List TileD} : parentsB l = true ↔ parentsOk l := by unfold parentsB; simp
theorem parentsB_false {l : List TileD} (h : ¬ parentsOk l) : parentsB l = false := by unfold parentsB; simp [h]
theorem cut_tile {l : List TileD} {k : Nat} {x : TileD} (h : l[k]? = some x) : cut (l.flatMap TileD.cells) (k * 3) 3 = some [.sc (.int .i64 x.kind), .sc (.int .i64 x.parent), intsV x.blocks] := cut_flat0 (enc := TileD.cells) (sz := 3) (fun _ => rfl) h 3 (by omega)

set_option maxHeartbeats 2000000 in
theorem t_parents (o : Option (List TileD)) (hl : (ol o).length ≤ 2 ^ 47) : Tells 35 [tilesV o] (.sc (.bool (parentsB (ol o)))) := by
  refine tells_fn rfl rfl rfl rfl ?_
  have hlen : lenSV (tilesV o) = some (ol o).length := lenSV_rec o
  repeat (first | (with_reducible refine Nx.go ?_) | ((with_reducible refine Ny.go ?_); (conv => arg 1; simp only [ev, sop, bounds, loI, hiI, fillParts, binSV, intBin, unSV, simprocAttr, ev2, ev4, hlen, recheck, wantedS, SV.same_self, Bool.and_self]); (first | (with_reducible refine Nz.go ?_) | refine Hold_some ?_)))
  refine WP_range (N := (ol o).length) (fun k t σ1 => getT t 5 = tilesV o ∧ ∀ (i : Nat) (x : TileD), i < k → (ol o)[i]? = some x → -1 ≤ x.parent ∧ x.parent < (i : Int)) (by omega) (by simp only [ev, sop, bounds, loI, hiI, fillParts, binSV, intBin, unSV, simprocAttr, ev2, ev4]) (by simp only [ev, sop, bounds, loI, hiI, fillParts, binSV, intBin, unSV, simprocAttr, ev2, ev4]) (by decide) ⟨by simp only [ev, sop, bounds, loI, hiI, fillParts, binSV, intBin, unSV, simprocAttr, ev2, ev4], by simp⟩ ?_ ?_
  · rintro k t σ1 hk h6 h7 ⟨h5, hin⟩
    obtain ⟨x, hx⟩ := get_of_lt hk
    rw [show tilesV o = _ from rec_of_lt hk] at h5
    have hcx := cut_tile hx
    have bad : ¬ (-1 ≤ x.parent ∧ x.parent < (k : Int)) → parentsB (ol o) = false := fun h => parentsB_false fun h' => h (h' k x hx)
    by_cases h1 : x.parent < -1
    · repeat (first | (with_reducible refine Nx.go ?_) | ((with_reducible refine Ny.go ?_); (conv => arg 1; simp only [ev, sop, bounds, loI, hiI, fillParts, binSV, intBin, unSV, simprocAttr, ev2, ev4, h5, h6, h7, hk, hcx, h1, recheck, wantedS, SV.same_self, Bool.and_self]); (first | (with_reducible refine Nz.go ?_) | refine Hold_some ?_)))
      (refine Hold1_of ?_; (conv => arg 1; simp only [ev, sop, bounds, loI, hiI, fillParts, binSV, intBin, unSV, simprocAttr, ev2, ev4, resultsSV, resMany, resOne]); refine Hold1_some ?_)
      rw [bad (by omega)]; exact frz_of_pure rfl
    by_cases h2 : (k : Int) ≤ x.parent
    · have h2' : x.parent ≥ (k : Int) := h2
      repeat (first | (with_reducible refine Nx.go ?_) | ((with_reducible refine Ny.go ?_); (conv => arg 1; simp only [ev, sop, bounds, loI, hiI, fillParts, binSV, intBin, unSV, simprocAttr, ev2, ev4, h5, h6, h7, hk, hcx, h1, h2', recheck, wantedS, SV.same_self, Bool.and_self]); (first | (with_reducible refine Nz.go ?_) | refine Hold_some ?_)))
      (refine Hold1_of ?_; (conv => arg 1; simp only [ev, sop, bounds, loI, hiI, fillParts, binSV, intBin, unSV, simprocAttr, ev2, ev4, resultsSV, resMany, resOne]); refine Hold1_some ?_)
      rw [bad (by omega)]; exact frz_of_pure rfl
    have h2' : ¬ x.parent ≥ (k : Int) := h2
    repeat (first | (with_reducible refine Nx.go ?_) | ((with_reducible refine Ny.go ?_); (conv => arg 1; simp only [ev, sop, bounds, loI, hiI, fillParts, binSV, intBin, unSV, simprocAttr, ev2, ev4, h5, h6, h7, hk, hcx, h1, h2', recheck, wantedS, SV.same_self, Bool.and_self]); (first | (with_reducible refine Nz.go ?_) | refine Hold_some ?_)))
    refine ⟨by simp only [ev, sop, bounds, loI, hiI, fillParts, binSV, intBin, unSV, simprocAttr, ev2, ev4, h6], by simp only [ev, sop, bounds, loI, hiI, fillParts, binSV, intBin, unSV, simprocAttr, ev2, ev4, h7], fun v w => ⟨by simp only [ev, sop, bounds, loI, hiI, fillParts, binSV, intBin, unSV, simprocAttr, ev2, ev4, h5]; exact (rec_of_lt hk).symm, fun i y hi hy => ?_⟩⟩
    by_cases e : i = k
    · subst e; rw [hx] at hy; cases hy; omega
    · exact hin i y (by omega) hy
  · rintro t σ1 ⟨h5, hin⟩
    repeat (first | (with_reducible refine Nx.go ?_) | ((with_reducible refine Ny.go ?_); (conv => arg 1; simp only [ev, sop, bounds, loI, hiI, fillParts, binSV, intBin, unSV, simprocAttr, ev2, ev4, recheck, wantedS, SV.same_self, Bool.and_self]); (first | (with_reducible refine Nz.go ?_) | refine Hold_some ?_)))
    (refine Hold1_of ?_; (conv => arg 1; simp only [ev, sop, bounds, loI, hiI, fillParts, binSV, intBin, unSV, simprocAttr, ev2, ev4, resultsSV, resMany, resOne]); refine Hold1_some ?_)
    rw [parentsB_iff.2 fun i x hx => hin i x (List.getElem?_eq_some_iff.1 hx).1 hx]
    exact frz_of_pure rfl

/-- The set of some numbers. -/
def ofS (l : List Int) : Nat → Bool := fun i => decide ((i : Int) ∈ l)
theorem ofS_nil : ofS [] = fun _ => false := by funext i; simp [ofS]
theorem ofS_add (l : List Int) (x : Int) (h0 : 0 ≤ x) : (fun j => if j = x.toNat then true else ofS l j) = ofS (l ++ [x]) := by
  funext j
  unfold ofS
  by_cases e : j = x.toNat
  · rw [if_pos e]; subst e; simp [Int.toNat_of_nonneg h0]
  · rw [if_neg e]
    have : ¬ (j : Int) = x := by omega
    simp [this]
theorem setCells_skip (l : List Int) (x : Int) (h : x < 0 ∨ 200 ≤ x) : setCells (ofS (l ++ [x])) = setCells (ofS l) := by
  refine setCells_congr fun i hi => ?_
  unfold ofS
  have : ¬ (i : Int) = x := by omega
  simp [this]

set_option maxHeartbeats 2000000 in
theorem t_of (o : Option (List Int)) (hl : (ol o).length ≤ 2 ^ 47) : Tells 38 [intsV o] (setV (ofS (ol o))) := by
  refine tells_fn rfl rfl rfl rfl ?_
  rw [setCells_none]
  unfold setV
  repeat (first | (with_reducible refine Nx.go ?_) | ((with_reducible refine Ny.go ?_); (conv => arg 1; simp only [ev, sop, bounds, loI, hiI, fillParts, binSV, intBin, unSV, simprocAttr, ev2, ev4, recheck, wantedS, SV.same_self, Bool.and_self]); (first | (with_reducible refine Nz.go ?_) | refine Hold_some ?_)))
  refine WP_range (N := (ol o).length) (fun k t σ1 => getT t 2 = .ptr 0 0 ∧ getT t 5 = intsV o ∧ 1 ≤ σ1.next ∧ cellsOf σ1 0 = some (setCells (ofS ((ol o).take k)))) (by omega) (by simp only [ev, sop, bounds, loI, hiI, fillParts, binSV, intBin, unSV, simprocAttr, ev2, ev4]) (by simp only [ev, sop, bounds, loI, hiI, fillParts, binSV, intBin, unSV, simprocAttr, ev2, ev4]) (by decide) ⟨by simp only [ev, sop, bounds, loI, hiI, fillParts, binSV, intBin, unSV, simprocAttr, ev2, ev4] <;> rfl, by simp only [ev, sop, bounds, loI, hiI, fillParts, binSV, intBin, unSV, simprocAttr, ev2, ev4], by simp [next_push, next_empty], by simp only [ev, sop, bounds, loI, hiI, fillParts, binSV, intBin, unSV, simprocAttr, ev2, ev4]; rw [ofS_nil]⟩ ?_ ?_
  · rintro k t σ1 hk h6 h7 ⟨h2, h5, hn, hc⟩
    obtain ⟨x, hx⟩ := get_of_lt hk
    rw [ints_of_lt hk] at h5
    have hcx := cut_ints hx
    have n0 : (0 = σ1.next) = False := by simp; omega
    have htk : (ol o).take (k + 1) = (ol o).take k ++ [x] := by rw [List.take_add_one, hx]; rfl
    by_cases h0 : x < 0
    · have h0' : ¬ x ≥ 0 := by omega
      repeat (first | (with_reducible refine Nx.go ?_) | ((with_reducible refine Ny.go ?_); (conv => arg 1; simp only [ev, sop, bounds, loI, hiI, fillParts, binSV, intBin, unSV, simprocAttr, ev2, ev4, h2, h5, h6, h7, hk, hcx, h0', hc, n0, recheck, wantedS, SV.same_self, Bool.and_self]); (first | (with_reducible refine Nz.go ?_) | refine Hold_some ?_)))
      refine ⟨by simp only [ev, sop, bounds, loI, hiI, fillParts, binSV, intBin, unSV, simprocAttr, ev2, ev4, h6], by simp only [ev, sop, bounds, loI, hiI, fillParts, binSV, intBin, unSV, simprocAttr, ev2, ev4, h7], fun v w => ⟨by simp only [ev, sop, bounds, loI, hiI, fillParts, binSV, intBin, unSV, simprocAttr, ev2, ev4, h2], by simp only [ev, sop, bounds, loI, hiI, fillParts, binSV, intBin, unSV, simprocAttr, ev2, ev4, h5]; exact (ints_of_lt hk).symm, hn, by rw [htk, setCells_skip _ _ (by omega)]; exact hc⟩⟩
    have h0' : x ≥ 0 := by omega
    by_cases h1 : 200 ≤ x
    · have h1' : ¬ x < 200 := by omega
      repeat (first | (with_reducible refine Nx.go ?_) | ((with_reducible refine Ny.go ?_); (conv => arg 1; simp only [ev, sop, bounds, loI, hiI, fillParts, binSV, intBin, unSV, simprocAttr, ev2, ev4, h2, h5, h6, h7, hk, hcx, h0', h1', hc, n0, recheck, wantedS, SV.same_self, Bool.and_self]); (first | (with_reducible refine Nz.go ?_) | refine Hold_some ?_)))
      refine ⟨by simp only [ev, sop, bounds, loI, hiI, fillParts, binSV, intBin, unSV, simprocAttr, ev2, ev4, h6], by simp only [ev, sop, bounds, loI, hiI, fillParts, binSV, intBin, unSV, simprocAttr, ev2, ev4, h7], fun v w => ⟨by simp only [ev, sop, bounds, loI, hiI, fillParts, binSV, intBin, unSV, simprocAttr, ev2, ev4, h2], by simp only [ev, sop, bounds, loI, hiI, fillParts, binSV, intBin, unSV, simprocAttr, ev2, ev4, h5]; exact (ints_of_lt hk).symm, hn, by rw [htk, setCells_skip _ _ (by omega)]; exact hc⟩⟩
    have h1' : x < 200 := by omega
    have hxn : x.toNat < 200 := by omega
    have h00 : 0 ≤ x := h0'
    have hpx : x.toNat + 1 ≤ 200 := by omega
    repeat (first | (with_reducible refine Nx.go ?_) | ((with_reducible refine Ny.go ?_); (conv => arg 1; simp only [ev, sop, bounds, loI, hiI, fillParts, binSV, intBin, unSV, simprocAttr, ev2, ev4, h2, h5, h6, h7, hk, hcx, h0', h1', h00, hc, n0, setCells_len, hxn, hpx, paste_set true hxn, ofS_add _ _ h00, recheck, wantedS, SV.same_self, Bool.and_self]); (first | (with_reducible refine Nz.go ?_) | refine Hold_some ?_)))
    refine ⟨by simp only [ev, sop, bounds, loI, hiI, fillParts, binSV, intBin, unSV, simprocAttr, ev2, ev4, h6], by simp only [ev, sop, bounds, loI, hiI, fillParts, binSV, intBin, unSV, simprocAttr, ev2, ev4, h7], fun v w => ⟨by simp only [ev, sop, bounds, loI, hiI, fillParts, binSV, intBin, unSV, simprocAttr, ev2, ev4, h2], by simp only [ev, sop, bounds, loI, hiI, fillParts, binSV, intBin, unSV, simprocAttr, ev2, ev4, h5]; exact (ints_of_lt hk).symm, by simp [next_push, next_set]; omega, by rw [htk]; simp only [ev, sop, bounds, loI, hiI, fillParts, binSV, intBin, unSV, simprocAttr, ev2, ev4, hc, n0]⟩⟩
  · rintro t σ1 ⟨h2, h5, hn, hc⟩
    rw [List.take_length] at hc
    repeat (first | (with_reducible refine Nx.go ?_) | ((with_reducible refine Ny.go ?_); (conv => arg 1; simp only [ev, sop, bounds, loI, hiI, fillParts, binSV, intBin, unSV, simprocAttr, ev2, ev4, h2, hc, setCells_len, cut_all, paste_all, recheck, wantedS, SV.same_self, Bool.and_self]); (first | (with_reducible refine Nz.go ?_) | refine Hold_some ?_)))
    (refine Hold1_of ?_; (conv => arg 1; simp only [ev, sop, bounds, loI, hiI, fillParts, binSV, intBin, unSV, simprocAttr, ev2, ev4, h2, hc, cut_all, setCells_len, resultsSV, resMany, resOne]); refine Hold1_some ?_)
    exact frz_setc _ _

/-- The blocks of a set, rising. -/
def natV (x : Nat) : SV := .sc (.int .i64 (x : Int))
def membersTo (s : Nat → Bool) (k : Nat) : List Nat := (List.range k).filter s
def members (s : Nat → Bool) : List Nat := membersTo s 200
theorem membersTo_succ (s : Nat → Bool) (k : Nat) : membersTo s (k + 1) = membersTo s k ++ (if s k = true then [k] else []) := by
  unfold membersTo
  rw [List.range_succ, List.filter_append]
  by_cases h : s k = true <;> simp [h]
theorem membersTo_prefix (s : Nat → Bool) {k n : Nat} (h : k ≤ n) : membersTo s k <+: membersTo s n := by
  induction n with
  | zero => rw [Nat.le_zero.1 h]; exact List.prefix_rfl
  | succ n ih =>
    by_cases e : k = n + 1
    · subst e; exact List.prefix_rfl
    · refine (ih (by omega)).trans ?_
      rw [membersTo_succ]
      exact List.prefix_append _ _
theorem mem_members {s : Nat → Bool} {i : Nat} : i ∈ members s ↔ i < 200 ∧ s i = true := by simp [members, membersTo]
theorem members_len (s : Nat → Bool) : (members s).length ≤ 200 := by
  have := List.length_filter_le s (List.range 200)
  simpa [members, membersTo] using this

set_option maxHeartbeats 2000000 in
theorem it_setEach (s : Nat → Bool) {m box sid : Nat} : Iter m 89 [] [.ptr box 0] ((members s).map natV) (fun σ => cellsOf σ box = some [.ptr sid 0] ∧ cellsOf σ sid = some (setCells s)) := by
  intro y J Stop σ hmono hdom hy hJ
  refine inline_fn rfl rfl rfl rfl ?_
  obtain ⟨hc0, _⟩ := hdom _ _ hJ
  simp only [List.nil_append, List.cons_append]
  repeat (first | (with_reducible refine Nx.go ?_) | ((with_reducible refine Ny.go ?_); (conv => arg 1; simp only [ev, sop, bounds, loI, hiI, fillParts, binSV, intBin, unSV, simprocAttr, ev2, ev4, hc0, recheck, wantedS, SV.same_self, Bool.and_self]); (first | (with_reducible refine Nz.go ?_) | refine Hold_some ?_)))
  refine WP_rangeK (N := 200) (fun k t σ1 => getT t 0 = y ∧ getT t 5 = .ptr sid 0 ∧ J ((membersTo s k).map natV) σ1) (by omega) rfl (by simp only [ev, sop, bounds, loI, hiI, fillParts, binSV, intBin, unSV, simprocAttr, ev2, ev4]) (by decide) ⟨by simp only [ev, sop, bounds, loI, hiI, fillParts, binSV, intBin, unSV, simprocAttr, ev2, ev4], by simp only [ev, sop, bounds, loI, hiI, fillParts, binSV, intBin, unSV, simprocAttr, ev2, ev4], by simpa [membersTo] using hJ⟩ ?_ ?_
  · rintro k t σ1 hk h6 ⟨h0, h5, hJ⟩
    obtain ⟨_, hc⟩ := hdom _ _ hJ
    have hcs := cut_set (f := s) hk
    have hk' : (k : Int) < 200 := by omega
    have hk2 : k + 1 ≤ 200 := hk
    by_cases hs : s k = true
    · have hpre : (membersTo s k).map natV ++ [natV k] = (membersTo s (k + 1)).map natV := by rw [membersTo_succ, if_pos hs]; simp
      have hpf : (membersTo s (k + 1)).map natV <+: (members s).map natV := (membersTo_prefix s (by omega)).map _
      repeat (first | (with_reducible refine Nx.go ?_) | ((with_reducible refine Ny.go ?_); (conv => arg 1; simp only [ev, sop, bounds, loI, hiI, fillParts, binSV, intBin, unSV, simprocAttr, ev2, ev4, h0, h5, h6, hc, hcs, hk', hk2, hs, setCells_len, recheck, wantedS, SV.same_self, Bool.and_self]); (first | (with_reducible refine Nz.go ?_) | refine Hold_some ?_)))
      refine st_callv (by first | with_reducible exact wantedS_none | (refine wantedS_some ?_; simp only [ev, sop, bounds, loI, hiI, fillParts, binSV, intBin, unSV, simprocAttr, ev2, ev4, h0]; done)) (by simp only [ev, sop, bounds, loI, hiI, fillParts, binSV, intBin, unSV, simprocAttr, ev2, ev4, h0] <;> rfl) (by simp only [ev, sop, bounds, loI, hiI, fillParts, binSV, intBin, unSV, simprocAttr, ev2, ev4, h0] <;> rfl) ?_
      refine (hy _ (natV k) σ1 (by rw [hpre]; exact hpf) hJ).mono ?_
      rintro v σ2 (⟨rfl, hJ2⟩ | ⟨rfl, hst⟩)
      · refine ⟨recheck_nil, ?_⟩
        rw [hpre] at hJ2
        repeat (first | (with_reducible refine Nx.go ?_) | ((with_reducible refine Ny.go ?_); (conv => arg 1; simp only [ev, sop, bounds, loI, hiI, fillParts, binSV, intBin, unSV, simprocAttr, ev2, ev4, recheck, wantedS, SV.same_self, Bool.and_self]); (first | (with_reducible refine Nz.go ?_) | refine Hold_some ?_)))
        refine ⟨by simp only [ev, sop, bounds, loI, hiI, fillParts, binSV, intBin, unSV, simprocAttr, ev2, ev4, h6], fun v w => ⟨by simp only [ev, sop, bounds, loI, hiI, fillParts, binSV, intBin, unSV, simprocAttr, ev2, ev4, h0], by simp only [ev, sop, bounds, loI, hiI, fillParts, binSV, intBin, unSV, simprocAttr, ev2, ev4, h5], hJ2⟩⟩
      · refine ⟨recheck_nil, ?_⟩
        repeat (first | (with_reducible refine Nx.go ?_) | ((with_reducible refine Ny.go ?_); (conv => arg 1; simp only [ev, sop, bounds, loI, hiI, fillParts, binSV, intBin, unSV, simprocAttr, ev2, ev4, recheck, wantedS, SV.same_self, Bool.and_self]); (first | (with_reducible refine Nz.go ?_) | refine Hold_some ?_)))
        (refine Hold1_of ?_; (conv => arg 1; simp only [ev, sop, bounds, loI, hiI, fillParts, binSV, intBin, unSV, simprocAttr, ev2, ev4, resultsSV, resMany, resOne]); refine Hold1_some ?_)
        exact .inr hst
    · have hs' : s k = false := by simpa using hs
      repeat (first | (with_reducible refine Nx.go ?_) | ((with_reducible refine Ny.go ?_); (conv => arg 1; simp only [ev, sop, bounds, loI, hiI, fillParts, binSV, intBin, unSV, simprocAttr, ev2, ev4, h0, h5, h6, hc, hcs, hk', hk2, hs', setCells_len, recheck, wantedS, SV.same_self, Bool.and_self]); (first | (with_reducible refine Nz.go ?_) | refine Hold_some ?_)))
      refine ⟨by simp only [ev, sop, bounds, loI, hiI, fillParts, binSV, intBin, unSV, simprocAttr, ev2, ev4, h6], fun v w => ⟨by simp only [ev, sop, bounds, loI, hiI, fillParts, binSV, intBin, unSV, simprocAttr, ev2, ev4, h0], by simp only [ev, sop, bounds, loI, hiI, fillParts, binSV, intBin, unSV, simprocAttr, ev2, ev4, h5], ?_⟩⟩
      rw [membersTo_succ, if_neg hs, List.append_nil]
      exact hJ
  · rintro t σ1 ⟨h0, h5, hJ⟩
    repeat (first | (with_reducible refine Nx.go ?_) | ((with_reducible refine Ny.go ?_); (conv => arg 1; simp only [ev, sop, bounds, loI, hiI, fillParts, binSV, intBin, unSV, simprocAttr, ev2, ev4, recheck, wantedS, SV.same_self, Bool.and_self]); (first | (with_reducible refine Nz.go ?_) | refine Hold_some ?_)))
    (refine Hold1_of ?_; (conv => arg 1; simp only [ev, sop, bounds, loI, hiI, fillParts, binSV, intBin, unSV, simprocAttr, ev2, ev4, resultsSV, resMany, resOne]); refine Hold1_some ?_)
    exact .inl hJ
end Go.Proofs.Ytojjhcgbbmknmaa.Sh

/- What hangs together; rings; where some blocks are entered. -/
namespace Go.Proofs.Ytojjhcgbbmknmaa.Sh
set_option linter.unusedSimpArgs false
set_option linter.unusedVariables false
open Go Go.Proofs

/-- The blocks that hang together with one, within some. -/
noncomputable def knotS (inS : Nat → Bool) (to from_ : List (Option (List Int))) (b : Nat) : Nat → Bool := fun i => wayS inS to b i && wayS inS from_ b i
/-- Rows that lead to places of theirs. -/
def RowsIn (n : Nat) (next : List (Option (List Int))) : Prop := next.length = n ∧ ∀ l ∈ next, (ol l).length ≤ 2 ^ 40 ∧ ∀ y ∈ ol l, 0 ≤ y ∧ y < (n : Int)
theorem RowsIn.walk {n : Nat} {next : List (Option (List Int))} (h : RowsIn n next) : ∀ l ∈ next, (ol l).length ≤ 2 ^ 40 ∧ ∀ y ∈ ol l, 0 ≤ y ∧ y < (next.length : Int) := by rw [h.1]; exact h.2

set_option maxHeartbeats 4000000 in
theorem t_knot {ps bs : SV} {to from_ : List (Option (List Int))} {n b : Nat} {inS : Nat → Bool} (hp : ps.pure = true) (hb : bs.pure = true) (h1 : ps.one = true) (h2 : bs.one = true) (ht : RowsIn n to) (hf : RowsIn n from_) (hn : n ≤ 200) (hbn : b < n) :
    Tells 81 [.agg [ps, bs, rowsV to, rowsV from_], .sc (.int .i64 (b : Nat)), setV inS] (setV (knotS inS to from_ b)) := by
  refine tells_fn rfl rfl rfl rfl ?_
  rw [setCells_none]
  unfold setV
  have w1 := t_walk (w := [ps, bs, rowsV to, rowsV from_]) (inS := inS) (next := to) (b := b) (by simp [pures, hp, hb, pure_rows]) rfl (by rw [ht.1]; exact hbn) (by rw [ht.1]; exact hn) ht.walk
  have w2 := t_walk (w := [ps, bs, rowsV to, rowsV from_]) (inS := inS) (next := from_) (b := b) (by simp [pures, hp, hb, pure_rows]) rfl (by rw [hf.1]; exact hbn) (by rw [hf.1]; exact hn) hf.walk
  unfold setV at w1 w2
  generalize hA : wayS inS to b = A at w1
  generalize hB : wayS inS from_ b = B at w2
  have hs := setCells_len inS
  repeat (first | (with_reducible refine Nx.go ?_) | ((with_reducible refine Ny.go ?_); (conv => arg 1; simp only [ev, sop, bounds, loI, hiI, fillParts, binSV, intBin, unSV, simprocAttr, ev2, ev4, cut_all, recheck, wantedS, SV.same_self, Bool.and_self]); (first | (with_reducible refine Nz.go ?_) | refine Hold_some ?_)))
  refine st_tellp (w1) ⟨_, rfl, by first | omega | decide⟩ wantedS_none (by simp only [ev, sop, bounds, loI, hiI, fillParts, binSV, intBin, unSV, simprocAttr, ev2, ev4, cut_all] <;> rfl) (by first | rfl | simp [pures, SV.pure, *, pure_func, pure_ints, pure_blks, pure_insV, pure_rows, pure_tiles, pure_set, pures_set]) (by first | with_reducible exact recheck_nil | (simp only [recheck, wantedS]; simp only [ev, sop, bounds, loI, hiI, fillParts, binSV, intBin, unSV, simprocAttr, ev2, ev4, cut_all]; simp only [SV.same_self, Bool.and_self, beq_self_eq_true])) ?_
  repeat (first | (with_reducible refine Nx.go ?_) | ((with_reducible refine Ny.go ?_); (conv => arg 1; simp only [ev, sop, bounds, loI, hiI, fillParts, binSV, intBin, unSV, simprocAttr, ev2, ev4, cut_all, recheck, wantedS, SV.same_self, Bool.and_self]); (first | (with_reducible refine Nz.go ?_) | refine Hold_some ?_)))
  refine st_tellp (w2) ⟨_, rfl, by first | omega | decide⟩ wantedS_none (by simp only [ev, sop, bounds, loI, hiI, fillParts, binSV, intBin, unSV, simprocAttr, ev2, ev4, cut_all] <;> rfl) (by first | rfl | simp [pures, SV.pure, *, pure_func, pure_ints, pure_blks, pure_insV, pure_rows, pure_tiles, pure_set, pures_set]) (by first | with_reducible exact recheck_nil | (simp only [recheck, wantedS]; simp only [ev, sop, bounds, loI, hiI, fillParts, binSV, intBin, unSV, simprocAttr, ev2, ev4, cut_all]; simp only [SV.same_self, Bool.and_self, beq_self_eq_true])) ?_
  repeat (first | (with_reducible refine Nx.go ?_) | ((with_reducible refine Ny.go ?_); (conv => arg 1; simp only [ev, sop, bounds, loI, hiI, fillParts, binSV, intBin, unSV, simprocAttr, ev2, ev4, cut_all, setCells_len, paste_all, recheck, wantedS, SV.same_self, Bool.and_self]); (first | (with_reducible refine Nz.go ?_) | refine Hold_some ?_)))
  refine WP_rangeK (N := 200) (fun k t σ => getT t 6 = .ptr 2 0 ∧ getT t 7 = .ptr 3 0 ∧ getT t 8 = .ptr 4 0 ∧ 5 ≤ σ.next ∧ cellsOf σ 2 = some (setCells fun i => decide (i < k) && (A i && B i)) ∧ cellsOf σ 3 = some (setCells A) ∧ cellsOf σ 4 = some (setCells B)) (by omega) rfl (by simp only [ev, sop, bounds, loI, hiI, fillParts, binSV, intBin, unSV, simprocAttr, ev2, ev4]) (by decide)
    ⟨by simp only [ev, sop, bounds, loI, hiI, fillParts, binSV, intBin, unSV, simprocAttr, ev2, ev4], by simp only [ev, sop, bounds, loI, hiI, fillParts, binSV, intBin, unSV, simprocAttr, ev2, ev4], by simp only [ev, sop, bounds, loI, hiI, fillParts, binSV, intBin, unSV, simprocAttr, ev2, ev4], by simp [next_push, next_set, next_empty], by simp only [ev, sop, bounds, loI, hiI, fillParts, binSV, intBin, unSV, simprocAttr, ev2, ev4]; simp, by simp only [ev, sop, bounds, loI, hiI, fillParts, binSV, intBin, unSV, simprocAttr, ev2, ev4], by simp only [ev, sop, bounds, loI, hiI, fillParts, binSV, intBin, unSV, simprocAttr, ev2, ev4]⟩ ?_ ?_
  · rintro k t σ hk h22 ⟨g6, g7, g8, hnx, c2, c3, c4⟩
    have hk' : (k : Int) < 200 := by omega
    have hk2 : k + 1 ≤ 200 := hk
    have hca := cut_set (f := A) hk
    have hcb := cut_set (f := B) hk
    have hpk : ∀ v : Bool, v = (A k && B k) → paste (setCells fun i => decide (i < k) && (A i && B i)) k [.sc (.bool v)] = setCells fun i => decide (i < k + 1) && (A i && B i) := by
      rintro v rfl
      rw [paste_set _ hk]
      refine setCells_congr fun i _ => ?_
      by_cases e : i = k
      · subst e; simp
      · rw [if_neg e]
        have : decide (i < k + 1) = decide (i < k) := by by_cases h : i < k <;> simp [h] <;> omega
        rw [this]
    by_cases ha : A k = true
    · by_cases hb : B k = true
      · have hpk := hpk true (by rw [ha, hb]; rfl)
        repeat (first | (with_reducible refine Nx.go ?_) | ((with_reducible refine Ny.go ?_); (conv => arg 1; simp only [ev, sop, bounds, loI, hiI, fillParts, binSV, intBin, unSV, simprocAttr, ev2, ev4, g6, g7, g8, h22, hk', hk2, c2, c3, c4, hca, hcb, ha, hb, setCells_len, hpk, recheck, wantedS, SV.same_self, Bool.and_self]); (first | (with_reducible refine Nz.go ?_) | refine Hold_some ?_)))
        refine ⟨by simp only [ev, sop, bounds, loI, hiI, fillParts, binSV, intBin, unSV, simprocAttr, ev2, ev4, h22], fun v w => ⟨by simp only [ev, sop, bounds, loI, hiI, fillParts, binSV, intBin, unSV, simprocAttr, ev2, ev4, g6], by simp only [ev, sop, bounds, loI, hiI, fillParts, binSV, intBin, unSV, simprocAttr, ev2, ev4, g7], by simp only [ev, sop, bounds, loI, hiI, fillParts, binSV, intBin, unSV, simprocAttr, ev2, ev4, g8], hnx, by simp only [ev, sop, bounds, loI, hiI, fillParts, binSV, intBin, unSV, simprocAttr, ev2, ev4, c2], by simp only [ev, sop, bounds, loI, hiI, fillParts, binSV, intBin, unSV, simprocAttr, ev2, ev4, c3], by simp only [ev, sop, bounds, loI, hiI, fillParts, binSV, intBin, unSV, simprocAttr, ev2, ev4, c4]⟩⟩
      · have hb : B k = false := by simpa using hb
        have hpk := hpk false (by rw [ha, hb]; rfl)
        repeat (first | (with_reducible refine Nx.go ?_) | ((with_reducible refine Ny.go ?_); (conv => arg 1; simp only [ev, sop, bounds, loI, hiI, fillParts, binSV, intBin, unSV, simprocAttr, ev2, ev4, g6, g7, g8, h22, hk', hk2, c2, c3, c4, hca, hcb, ha, hb, setCells_len, hpk, recheck, wantedS, SV.same_self, Bool.and_self]); (first | (with_reducible refine Nz.go ?_) | refine Hold_some ?_)))
        refine ⟨by simp only [ev, sop, bounds, loI, hiI, fillParts, binSV, intBin, unSV, simprocAttr, ev2, ev4, h22], fun v w => ⟨by simp only [ev, sop, bounds, loI, hiI, fillParts, binSV, intBin, unSV, simprocAttr, ev2, ev4, g6], by simp only [ev, sop, bounds, loI, hiI, fillParts, binSV, intBin, unSV, simprocAttr, ev2, ev4, g7], by simp only [ev, sop, bounds, loI, hiI, fillParts, binSV, intBin, unSV, simprocAttr, ev2, ev4, g8], hnx, by simp only [ev, sop, bounds, loI, hiI, fillParts, binSV, intBin, unSV, simprocAttr, ev2, ev4, c2], by simp only [ev, sop, bounds, loI, hiI, fillParts, binSV, intBin, unSV, simprocAttr, ev2, ev4, c3], by simp only [ev, sop, bounds, loI, hiI, fillParts, binSV, intBin, unSV, simprocAttr, ev2, ev4, c4]⟩⟩
    · have ha : A k = false := by simpa using ha
      have hpk := hpk false (by rw [ha]; rfl)
      repeat (first | (with_reducible refine Nx.go ?_) | ((with_reducible refine Ny.go ?_); (conv => arg 1; simp only [ev, sop, bounds, loI, hiI, fillParts, binSV, intBin, unSV, simprocAttr, ev2, ev4, g6, g7, g8, h22, hk', hk2, c2, c3, c4, hca, hcb, ha, setCells_len, hpk, recheck, wantedS, SV.same_self, Bool.and_self]); (first | (with_reducible refine Nz.go ?_) | refine Hold_some ?_)))
      refine ⟨by simp only [ev, sop, bounds, loI, hiI, fillParts, binSV, intBin, unSV, simprocAttr, ev2, ev4, h22], fun v w => ⟨by simp only [ev, sop, bounds, loI, hiI, fillParts, binSV, intBin, unSV, simprocAttr, ev2, ev4, g6], by simp only [ev, sop, bounds, loI, hiI, fillParts, binSV, intBin, unSV, simprocAttr, ev2, ev4, g7], by simp only [ev, sop, bounds, loI, hiI, fillParts, binSV, intBin, unSV, simprocAttr, ev2, ev4, g8], hnx, by simp only [ev, sop, bounds, loI, hiI, fillParts, binSV, intBin, unSV, simprocAttr, ev2, ev4, c2], by simp only [ev, sop, bounds, loI, hiI, fillParts, binSV, intBin, unSV, simprocAttr, ev2, ev4, c3], by simp only [ev, sop, bounds, loI, hiI, fillParts, binSV, intBin, unSV, simprocAttr, ev2, ev4, c4]⟩⟩
  · rintro t σ ⟨g6, g7, g8, hnx, c2, c3, c4⟩
    repeat (first | (with_reducible refine Nx.go ?_) | ((with_reducible refine Ny.go ?_); (conv => arg 1; simp only [ev, sop, bounds, loI, hiI, fillParts, binSV, intBin, unSV, simprocAttr, ev2, ev4, g6, c2, cut_all, setCells_len, paste_all, recheck, wantedS, SV.same_self, Bool.and_self]); (first | (with_reducible refine Nz.go ?_) | refine Hold_some ?_)))
    (refine Hold1_of ?_; (conv => arg 1; simp only [ev, sop, bounds, loI, hiI, fillParts, binSV, intBin, unSV, simprocAttr, ev2, ev4, g6, c2, cut_all, setCells_len, resultsSV, resMany, resOne]); refine Hold1_some ?_)
    rw [frz_setc]
    refine congrArg (fun x => some (SV.agg x)) (setCells_congr fun i hi => ?_)
    simp [hi, knotS, hA, hB]

theorem t_less {s : Nat → Bool} {b : Nat} (hb : b < 200) : Tells 73 [setV s, .sc (.int .i64 (b : Nat))] (setV (fun j => if j = b then false else s j)) := by
  refine tells_fn rfl rfl rfl rfl ?_
  rw [setCells_none]
  unfold setV
  have hb' : (b : Int) < 200 := by omega
  have hb2 : b + 1 ≤ 200 := hb
  repeat (first | (with_reducible refine Nx.go ?_) | ((with_reducible refine Ny.go ?_); (conv => arg 1; simp only [ev, sop, bounds, loI, hiI, fillParts, binSV, intBin, unSV, simprocAttr, ev2, ev4, hb', hb2, setCells_len, paste_set false hb, cut_all, paste_all, recheck, wantedS, SV.same_self, Bool.and_self]); (first | (with_reducible refine Nz.go ?_) | refine Hold_some ?_)))
  (refine Hold1_of ?_; (conv => arg 1; simp only [ev, sop, bounds, loI, hiI, fillParts, binSV, intBin, unSV, simprocAttr, ev2, ev4, hb', cut_all, setCells_len, resultsSV, resMany, resOne]); refine Hold1_some ?_)
  exact frz_setc _ _

theorem t_indexI (o : Option (List Int)) (x : Int) (hl : (ol o).length ≤ 2 ^ 62) : ∃ n : Int, (n ≥ 0 ↔ x ∈ ol o) ∧ Tells 96 [intsV o, .sc (.int .i64 x)] (.sc (.int .i64 n)) := by
  suffices h : WPF (EV 1) 96 [intsV o, .sc (.int .i64 x)] St.empty (fun v σ => ∃ n : Int, (n ≥ 0 ↔ x ∈ ol o) ∧ v = .sc (.int .i64 n)) by
    obtain ⟨q, v, σ, h1, n, h2, rfl⟩ := h
    exact ⟨n, h2, _, rfl, q, _, σ, h1, frz_of_pure rfl⟩
  refine told_fn rfl rfl rfl rfl ?_
  repeat (first | (with_reducible refine Nx.go ?_) | ((with_reducible refine Ny.go ?_); (conv => arg 1; simp only [ev, sop, bounds, loI, hiI, fillParts, binSV, intBin, unSV, simprocAttr, ev2, ev4, recheck, wantedS, SV.same_self, Bool.and_self]); (first | (with_reducible refine Nz.go ?_) | refine Hold_some ?_)))
  refine WP_range (N := (ol o).length) (fun k t σ1 => getT t 0 = intsV o ∧ getT t 1 = .sc (.int .i64 x) ∧ ∀ (j : Nat) (y : Int), j < k → (ol o)[j]? = some y → ¬ x = y) hl (by simp only [ev, sop, bounds, loI, hiI, fillParts, binSV, intBin, unSV, simprocAttr, ev2, ev4]) (by simp only [ev, sop, bounds, loI, hiI, fillParts, binSV, intBin, unSV, simprocAttr, ev2, ev4]) (by decide) ⟨by simp only [ev, sop, bounds, loI, hiI, fillParts, binSV, intBin, unSV, simprocAttr, ev2, ev4], by simp only [ev, sop, bounds, loI, hiI, fillParts, binSV, intBin, unSV, simprocAttr, ev2, ev4], by simp⟩ ?_ ?_
  · rintro k t σ1 hk h7 h8 ⟨h0, h1, hno⟩
    obtain ⟨y, hy⟩ := get_of_lt hk
    rw [ints_of_lt hk] at h0
    have hcy := cut_ints hy
    by_cases e : x = y
    · subst e
      have e' : (x == x) = true := by simp
      repeat (first | (with_reducible refine Nx.go ?_) | ((with_reducible refine Ny.go ?_); (conv => arg 1; simp only [ev, sop, bounds, loI, hiI, fillParts, binSV, intBin, unSV, simprocAttr, ev2, ev4, h0, h1, h8, hk, hcy, e', recheck, wantedS, SV.same_self, Bool.and_self]); (first | (with_reducible refine Nz.go ?_) | refine Hold_some ?_)))
      (refine Hold1_of ?_; (conv => arg 1; simp only [ev, sop, bounds, loI, hiI, fillParts, binSV, intBin, unSV, simprocAttr, ev2, ev4, resultsSV, resMany, resOne]); refine Hold1_some ?_)
      exact ⟨(k : Int), ⟨fun _ => List.mem_of_getElem? hy, fun _ => by omega⟩, rfl⟩
    · have e' : (x == y) = false := by simpa using e
      repeat (first | (with_reducible refine Nx.go ?_) | ((with_reducible refine Ny.go ?_); (conv => arg 1; simp only [ev, sop, bounds, loI, hiI, fillParts, binSV, intBin, unSV, simprocAttr, ev2, ev4, h0, h1, h8, hk, hcy, e', recheck, wantedS, SV.same_self, Bool.and_self]); (first | (with_reducible refine Nz.go ?_) | refine Hold_some ?_)))
      refine ⟨by simp only [ev, sop, bounds, loI, hiI, fillParts, binSV, intBin, unSV, simprocAttr, ev2, ev4, h7], by simp only [ev, sop, bounds, loI, hiI, fillParts, binSV, intBin, unSV, simprocAttr, ev2, ev4, h8], fun v w => ⟨by simp only [ev, sop, bounds, loI, hiI, fillParts, binSV, intBin, unSV, simprocAttr, ev2, ev4, h0]; exact (ints_of_lt hk).symm, by simp only [ev, sop, bounds, loI, hiI, fillParts, binSV, intBin, unSV, simprocAttr, ev2, ev4, h1], fun j z hj hz => ?_⟩⟩
      by_cases e2 : j = k
      · subst e2; rw [hy] at hz; cases hz; exact e
      · exact hno j z (by omega) hz
  · rintro t σ1 ⟨h0, h1, hno⟩
    repeat (first | (with_reducible refine Nx.go ?_) | ((with_reducible refine Ny.go ?_); (conv => arg 1; simp only [ev, sop, bounds, loI, hiI, fillParts, binSV, intBin, unSV, simprocAttr, ev2, ev4, recheck, wantedS, SV.same_self, Bool.and_self]); (first | (with_reducible refine Nz.go ?_) | refine Hold_some ?_)))
    (refine Hold1_of ?_; (conv => arg 1; simp only [ev, sop, bounds, loI, hiI, fillParts, binSV, intBin, unSV, simprocAttr, ev2, ev4, resultsSV, resMany, resOne]); refine Hold1_some ?_)
    refine ⟨-1, ⟨fun h => by omega, fun h => ?_⟩, rfl⟩
    obtain ⟨j, hj⟩ := List.mem_iff_getElem?.1 h
    exact absurd rfl (hno j x (List.getElem?_eq_some_iff.1 hj).1 hj)
theorem t_containsI (o : Option (List Int)) (x : Int) (hl : (ol o).length ≤ 2 ^ 62) : Tells 70 [intsV o, .sc (.int .i64 x)] (.sc (.bool (decide (x ∈ ol o)))) := by
  obtain ⟨n, hn, ht⟩ := t_indexI o x hl
  refine tells_fn rfl rfl rfl rfl ?_
  repeat (first | (with_reducible refine Nx.go ?_) | ((with_reducible refine Ny.go ?_); (conv => arg 1; simp only [ev, sop, bounds, loI, hiI, fillParts, binSV, intBin, unSV, simprocAttr, ev2, ev4, recheck, wantedS, SV.same_self, Bool.and_self]); (first | (with_reducible refine Nz.go ?_) | refine Hold_some ?_)))
  refine st_tellp (ht) ⟨_, rfl, by first | omega | decide⟩ wantedS_none (by simp only [ev, sop, bounds, loI, hiI, fillParts, binSV, intBin, unSV, simprocAttr, ev2, ev4] <;> rfl) (by first | rfl | simp [pures, SV.pure, *, pure_func, pure_ints, pure_blks, pure_insV, pure_rows, pure_tiles, pure_set, pures_set]) (by first | with_reducible exact recheck_nil | (simp only [recheck, wantedS]; simp only [ev, sop, bounds, loI, hiI, fillParts, binSV, intBin, unSV, simprocAttr, ev2, ev4]; simp only [SV.same_self, Bool.and_self, beq_self_eq_true])) ?_
  by_cases h : n ≥ 0
  · repeat (first | (with_reducible refine Nx.go ?_) | ((with_reducible refine Ny.go ?_); (conv => arg 1; simp only [ev, sop, bounds, loI, hiI, fillParts, binSV, intBin, unSV, simprocAttr, ev2, ev4, h, recheck, wantedS, SV.same_self, Bool.and_self]); (first | (with_reducible refine Nz.go ?_) | refine Hold_some ?_)))
    (refine Hold1_of ?_; (conv => arg 1; simp only [ev, sop, bounds, loI, hiI, fillParts, binSV, intBin, unSV, simprocAttr, ev2, ev4, resultsSV, resMany, resOne]); refine Hold1_some ?_)
    rw [decide_eq_true (hn.1 h)]; exact frz_of_pure rfl
  · repeat (first | (with_reducible refine Nx.go ?_) | ((with_reducible refine Ny.go ?_); (conv => arg 1; simp only [ev, sop, bounds, loI, hiI, fillParts, binSV, intBin, unSV, simprocAttr, ev2, ev4, h, recheck, wantedS, SV.same_self, Bool.and_self]); (first | (with_reducible refine Nz.go ?_) | refine Hold_some ?_)))
    (refine Hold1_of ?_; (conv => arg 1; simp only [ev, sop, bounds, loI, hiI, fillParts, binSV, intBin, unSV, simprocAttr, ev2, ev4, resultsSV, resMany, resOne]); refine Hold1_some ?_)
    rw [decide_eq_false (fun h' => h (hn.2 h'))]; exact frz_of_pure rfl
end Go.Proofs.Ytojjhcgbbmknmaa.Sh

/- Where some blocks are entered; rings; what hangs together. -/
namespace Go.Proofs.Ytojjhcgbbmknmaa.Sh
set_option linter.unusedSimpArgs false
set_option linter.unusedVariables false
open Go Go.Proofs

theorem c_setEach {m sid : Nat} {σ : St} : WPF (EV m) 59 [.ptr sid 0] σ (fun v σ' => v = .fn 89 [] [.ptr σ.next 0] ∧ Keeps σ σ' ∧ σ'.next = σ.next + 1 ∧ cellsOf σ' σ.next = some [.ptr sid 0]) := by
  refine inline_fn rfl rfl rfl rfl ?_
  repeat (first | (with_reducible refine Nx.go ?_) | ((with_reducible refine Ny.go ?_); (conv => arg 1; simp only [ev, sop, bounds, loI, hiI, fillParts, binSV, intBin, unSV, simprocAttr, ev2, ev4, recheck, wantedS, SV.same_self, Bool.and_self]); (first | (with_reducible refine Nz.go ?_) | refine Hold_some ?_)))
  (refine Hold1_of ?_; (conv => arg 1; simp only [ev, sop, bounds, loI, hiI, fillParts, binSV, intBin, unSV, simprocAttr, ev2, ev4, resultsSV, resMany, resOne]); refine Hold1_some ?_)
  exact ⟨rfl, (Keeps.refl _).push _, rfl, by simp only [ev, sop, bounds, loI, hiI, fillParts, binSV, intBin, unSV, simprocAttr, ev2, ev4]⟩

/-- A cell that holds a row of numbers. -/
def RowAt (σ : St) (r lo : Nat) (L : List Int) : Prop := (L = [] ∧ cellsOf σ r = some [.sc .nilsl]) ∨ ∃ id, L ≠ [] ∧ lo ≤ id ∧ id < σ.next ∧ cellsOf σ r = some [.sl id 0 L.length 1] ∧ cellsOf σ id = some (L.map SV.int)
theorem RowAt.keeps {σ σ' : St} {r lo : Nat} {L : List Int} (h : RowAt σ r lo L) (hr : r < σ.next) (k : Keeps σ σ') : RowAt σ' r lo L := by
  rcases h with ⟨h1, h2⟩ | ⟨id, h1, h2, h3, h4, h5⟩
  · exact .inl ⟨h1, by rw [k.cells hr]; exact h2⟩
  · exact .inr ⟨id, h1, h2, Nat.lt_of_lt_of_le h3 k.1, by rw [k.cells hr]; exact h4, by rw [k.cells h3]; exact h5⟩
theorem RowAt.set {σ : St} {r lo j : Nat} {o : Ob} {L : List Int} (h : RowAt σ r lo L) (hr : r ≠ j) (hj : j < lo) : RowAt (σ.set j o) r lo L := by
  rcases h with ⟨h1, h2⟩ | ⟨id, h1, h2, h3, h4, h5⟩
  · exact .inl ⟨h1, by rw [cells_set_ne hr]; exact h2⟩
  · exact .inr ⟨id, h1, h2, h3, by rw [cells_set_ne hr]; exact h4, by rw [cells_set_ne (by omega)]; exact h5⟩
theorem RowAt.frz {σ : St} {r lo : Nat} {L : List Int} (h : RowAt σ r lo L) : ∃ v, cellsOf σ r = some [v] ∧ v.one = true ∧ frz σ 20 v = some (intsV (nilRow L)) := by
  rcases h with ⟨rfl, h2⟩ | ⟨id, h1, h2, h3, h4, h5⟩
  · exact ⟨_, h2, rfl, frz_of_pure rfl⟩
  · refine ⟨_, h4, rfl, ?_⟩
    rw [show nilRow L = some L by unfold nilRow; rw [if_neg h1]]
    have := frz_sl h5 (n := L.length) (sz := 1) (off := 0) (cut_whole (by simp)) (pures_ints L)
    exact this

/-- Is a block entered from outside? -/
def entB (s : Nat → Bool) (from_ : List (Option (List Int))) (b : Nat) : Bool := decide (b < from_.length) && (ol (from_.getD b none)).any (fun x => !(s x.toNat))
def entL (s : Nat → Bool) (from_ : List (Option (List Int))) (p : List Nat) : List Int := (p.filter (entB s from_)).map fun b : Nat => (b : Int)
theorem entL_add (s : Nat → Bool) (from_ : List (Option (List Int))) (p : List Nat) (b : Nat) : entL s from_ (p ++ [b]) = entL s from_ p ++ (if entB s from_ b = true then [(b : Int)] else []) := by
  unfold entL
  rw [List.filter_append, List.map_append]
  by_cases h : entB s from_ b = true <;> simp [h]
theorem entL_len (s : Nat → Bool) (from_ : List (Option (List Int))) (p : List Nat) : (entL s from_ p).length ≤ p.length := by
  simpa [entL] using List.length_filter_le (entB s from_) p
theorem natV_inj : ∀ {p q : List Nat}, p.map natV = q.map natV → p = q
  | [], [], _ => rfl
  | [], _ :: _, h => by simp at h
  | _ :: _, [], h => by simp at h
  | a :: p, b :: q, h => by
    simp only [List.map_cons, List.cons.injEq] at h
    have h1 : (a : Int) = b := by have := h.1; unfold natV at this; injection this with this; injection this
    rw [natV_inj h.2, Int.ofNat.inj h1]

theorem cut_rows {ls : List (Option (List Int))} {i : Nat} {l : Option (List Int)} (h : ls[i]? = some l) : cut (ls.map intsV) i 1 = some [intsV l] := cut_one (by simp [h])

set_option maxHeartbeats 4000000 in
theorem t_entries {ps bs : SV} {to from_ : List (Option (List Int))} {n : Nat} {s : Nat → Bool} (hp : ps.pure = true) (hb : bs.pure = true) (h1 : ps.one = true) (h2 : bs.one = true) (hf : RowsIn n from_) (hn : n ≤ 200) :
    Tells 60 [.agg [ps, bs, rowsV to, rowsV from_], setV s] (intsV (nilRow (entL s from_ (members s)))) := by
  refine tells_fn rfl rfl rfl rfl ?_
  unfold setV
  have hm := members_len s
  repeat (first | (with_reducible refine Nx.go ?_) | ((with_reducible refine Ny.go ?_); (conv => arg 1; simp only [ev, sop, bounds, loI, hiI, fillParts, binSV, intBin, unSV, simprocAttr, ev2, ev4, recheck, wantedS, SV.same_self, Bool.and_self]); (first | (with_reducible refine Nz.go ?_) | refine Hold_some ?_)))
  refine st_callf (by first | with_reducible exact wantedS_none | (refine wantedS_some ?_; simp only [ev, sop, bounds, loI, hiI, fillParts, binSV, intBin, unSV, simprocAttr, ev2, ev4]; done)) (by simp only [ev, sop, bounds, loI, hiI, fillParts, binSV, intBin, unSV, simprocAttr, ev2, ev4] <;> rfl) (by simp only [ev, sop, bounds, loI, hiI, fillParts, binSV, intBin, unSV, simprocAttr, ev2, ev4] <;> rfl) ?_
  refine c_setEach.mono ?_
  rintro v σ1 ⟨rfl, hk, hnx, hc3⟩
  refine ⟨recheck_nil, ?_⟩
  simp only [next_push, next_empty] at hnx hc3 hk
  have k0 : cellsOf σ1 0 = some [ps, bs, rowsV to, rowsV from_] := by rw [hk.cells (by simp [next_push, next_empty])]; simp only [ev, sop, bounds, loI, hiI, fillParts, binSV, intBin, unSV, simprocAttr, ev2, ev4]
  have k1 : cellsOf σ1 1 = some (setCells s) := by rw [hk.cells (by simp [next_push, next_empty])]; simp only [ev, sop, bounds, loI, hiI, fillParts, binSV, intBin, unSV, simprocAttr, ev2, ev4]
  have k2 : cellsOf σ1 2 = some [.sc .nilsl] := by rw [hk.cells (by simp [next_push, next_empty])]; simp only [ev, sop, bounds, loI, hiI, fillParts, binSV, intBin, unSV, simprocAttr, ev2, ev4]
  simp only [Nat.zero_add, Nat.reduceAdd] at hnx hc3
  clear hk
  repeat (first | (with_reducible refine Nx.go ?_) | ((with_reducible refine Ny.go ?_); (conv => arg 1; simp only [ev, sop, bounds, loI, hiI, fillParts, binSV, intBin, unSV, simprocAttr, ev2, ev4, recheck, wantedS, SV.same_self, Bool.and_self]); (first | (with_reducible refine Nz.go ?_) | refine Hold_some ?_)))
  refine WP_rng_it (fun pre σ' => ∃ p : List Nat, pre = p.map natV ∧ 5 ≤ σ'.next ∧ cellsOf σ' 0 = some [ps, bs, rowsV to, rowsV from_] ∧ cellsOf σ' 1 = some (setCells s) ∧ cellsOf σ' 3 = some [.ptr 1 0] ∧ RowAt σ' 2 5 (entL s from_ p))
    (by simp only [ev, sop, bounds, loI, hiI, fillParts, binSV, intBin, unSV, simprocAttr, ev2, ev4] <;> rfl) rfl (it_setEach s (sid := 1)) ⟨[], rfl, by simp [next_push, hnx], by simp (disch := first | omega | (simp only [nx_push, nx_set]; done) | (simp only [nx_push, nx_set]; omega)) only [cells_push_ne, cells_push_eq, cells_set_ne, cells_set_eq, k0], by simp (disch := first | omega | (simp only [nx_push, nx_set]; done) | (simp only [nx_push, nx_set]; omega)) only [cells_push_ne, cells_push_eq, cells_set_ne, cells_set_eq, k1], by simp (disch := first | omega | (simp only [nx_push, nx_set]; done) | (simp only [nx_push, nx_set]; omega)) only [cells_push_ne, cells_push_eq, cells_set_ne, cells_set_eq, hc3], .inl ⟨rfl, by simp (disch := first | omega | (simp only [nx_push, nx_set]; done) | (simp only [nx_push, nx_set]; omega)) only [cells_push_ne, cells_push_eq, cells_set_ne, cells_set_eq, k2]⟩⟩ ?_ ?_ ?_ ?_ ?_
  · rintro pre σ2 σ3 ⟨p, rfl, hp5, g0, g1, g3, gr⟩ kk
    exact ⟨p, rfl, Nat.le_trans hp5 kk.1, by rw [kk.cells (by omega)]; exact g0, by rw [kk.cells (by omega)]; exact g1, by rw [kk.cells (by omega)]; exact g3, gr.keeps (by omega) kk⟩
  · rintro pre σ2 o ⟨p, rfl, hp5, g0, g1, g3, gr⟩
    rw [hnx]
    exact ⟨p, rfl, by simpa [next_set] using hp5, by simp (disch := first | omega | (simp only [nx_push, nx_set]; done) | (simp only [nx_push, nx_set]; omega)) only [cells_push_ne, cells_push_eq, cells_set_ne, cells_set_eq, g0], by simp (disch := first | omega | (simp only [nx_push, nx_set]; done) | (simp only [nx_push, nx_set]; omega)) only [cells_push_ne, cells_push_eq, cells_set_ne, cells_set_eq, g1], by simp (disch := first | omega | (simp only [nx_push, nx_set]; done) | (simp only [nx_push, nx_set]; omega)) only [cells_push_ne, cells_push_eq, cells_set_ne, cells_set_eq, g3], gr.set (by omega) (by omega)⟩
  · rintro pre σ2 ⟨p, rfl, hp5, g0, g1, g3, gr⟩ _
    exact ⟨g3, g1⟩
  · rintro pre v σ2 lr lb hpre hlt ⟨p, rfl, hp5, g0, g1, g3, gr⟩ hg
    obtain ⟨p', b, r, hes, hpp, rfl⟩ := prefix_map hpre
    cases natV_inj hpp
    have hbm : b ∈ members s := by rw [hes]; simp
    have hb200 := (mem_members.1 hbm).1
    have hpl : p.length < 200 := by have := hm; rw [hes] at this; simp at this; omega
    rw [hnx] at hg ⊢
    simp only [setMany_one, natV]
    repeat (first | (with_reducible refine Nx.go ?_) | ((with_reducible refine Ny.go ?_); (conv => arg 1; simp only [ev, sop, bounds, loI, hiI, fillParts, binSV, intBin, unSV, simprocAttr, ev2, ev4, recheck, wantedS, SV.same_self, Bool.and_self]); (first | (with_reducible refine Nz.go ?_) | refine Hold_some ?_)))
    refine ⟨by simp (disch := first | omega | (simp only [nx_push, nx_set]; done) | (simp only [nx_push, nx_set]; omega)) only [get_push_ne, get_set_ne, get_set_same, hg], ?_⟩
    have hnew : p.map natV ++ [SV.sc (.int .i64 (b : Int))] = (p ++ [b]).map natV := by simp [natV]
    rw [hnew]
    obtain ⟨σ3, hσ⟩ : ∃ x, x = σ2.set 4 lb := ⟨_, rfl⟩
    rw [← hσ]
    have e4 : σ3.get 4 = some lb := by rw [hσ]; exact get_set_eq
    have e5 : 5 ≤ σ3.next := by rw [hσ]; exact hp5
    have g0 : cellsOf σ3 0 = some [ps, bs, rowsV to, rowsV from_] := by rw [hσ]; simp (disch := first | omega | (simp only [nx_push, nx_set]; done) | (simp only [nx_push, nx_set]; omega)) only [cells_push_ne, cells_push_eq, cells_set_ne, cells_set_eq, g0]
    have g1 : cellsOf σ3 1 = some (setCells s) := by rw [hσ]; simp (disch := first | omega | (simp only [nx_push, nx_set]; done) | (simp only [nx_push, nx_set]; omega)) only [cells_push_ne, cells_push_eq, cells_set_ne, cells_set_eq, g1]
    have g3 : cellsOf σ3 3 = some [.ptr 1 0] := by rw [hσ]; simp (disch := first | omega | (simp only [nx_push, nx_set]; done) | (simp only [nx_push, nx_set]; omega)) only [cells_push_ne, cells_push_eq, cells_set_ne, cells_set_eq, g3]
    have gr : RowAt σ3 2 5 (entL s from_ p) := by rw [hσ]; exact gr.set (by omega) (by omega)
    clear hσ hg
    by_cases hbn : b < from_.length
    rotate_left
    · have hbl : ¬ (b : Int) < (from_.length : Int) := by omega
      have hE : entB s from_ b = false := by simp [entB, hbn]
      repeat (first | (with_reducible refine Nx.go ?_) | ((with_reducible refine Ny.go ?_); (conv => arg 1; simp only [ev, sop, bounds, loI, hiI, fillParts, binSV, intBin, unSV, simprocAttr, ev2, ev4, g0, rowsV, hbl, recheck, wantedS, SV.same_self, Bool.and_self]); (first | (with_reducible refine Nz.go ?_) | refine Hold_some ?_)))
      exact ⟨e4, by omega, p ++ [b], rfl, e5, g0, g1, g3, by rw [entL_add, hE]; simpa using gr⟩
    obtain ⟨l, hl⟩ := get_of_lt hbn
    have hbl : (b : Int) < (from_.length : Int) := by omega
    have hcl := cut_rows hl
    have hll := hf.2 l (List.mem_of_getElem? hl)
    repeat (first | (with_reducible refine Nx.go ?_) | ((with_reducible refine Ny.go ?_); (conv => arg 1; simp only [ev, sop, bounds, loI, hiI, fillParts, binSV, intBin, unSV, simprocAttr, ev2, ev4, g0, rowsV, hbl, hbn, hcl, recheck, wantedS, SV.same_self, Bool.and_self]); (first | (with_reducible refine Nz.go ?_) | refine Hold_some ?_)))
    refine st_callf (by first | with_reducible exact wantedS_none | (refine wantedS_some ?_; simp only [ev, sop, bounds, loI, hiI, fillParts, binSV, intBin, unSV, simprocAttr, ev2, ev4]; done)) (by simp only [ev, sop, bounds, loI, hiI, fillParts, binSV, intBin, unSV, simprocAttr, ev2, ev4] <;> rfl) (by simp only [ev, sop, bounds, loI, hiI, fillParts, binSV, intBin, unSV, simprocAttr, ev2, ev4] <;> rfl) ?_
    refine (c_containsFunc (o := l) (fun x => !(s x.toNat)) (fun σ4 => σ4 = σ3) (by omega) rfl ?_).mono ?_
    · intro x hx σ4 h4
      subst h4
      obtain ⟨hx0, hxn⟩ := hll.2 x hx
      have hx2 : x < 200 := by omega
      have hx3 : x.toNat < 200 := by omega
      have hx4 : x.toNat + 1 ≤ 200 := by omega
      have hcx := cut_set (f := s) hx3
      refine WPC_fn (inline_fn rfl rfl rfl rfl ?_)
      repeat (first | (with_reducible refine Nx.go ?_) | ((with_reducible refine Ny.go ?_); (conv => arg 1; simp only [ev, sop, bounds, loI, hiI, fillParts, binSV, intBin, unSV, simprocAttr, ev2, ev4, g1, hx0, hx2, hx3, hx4, setCells_len, hcx, recheck, wantedS, SV.same_self, Bool.and_self]); (first | (with_reducible refine Nz.go ?_) | refine Hold_some ?_)))
      (refine Hold1_of ?_; (conv => arg 1; simp only [ev, sop, bounds, loI, hiI, fillParts, binSV, intBin, unSV, simprocAttr, ev2, ev4, resultsSV, resMany, resOne]); refine Hold1_some ?_)
      exact ⟨rfl, rfl⟩
    rintro v σ4 ⟨rfl, h4⟩
    subst h4
    refine ⟨recheck_nil, ?_⟩
    have hE : entB s from_ b = (ol l).any (fun x => !(s x.toNat)) := by unfold entB; rw [decide_eq_true hbn, List.getD_eq_getElem?_getD, hl]; rfl
    rw [← hE]
    by_cases he : entB s from_ b = true
    rotate_left
    · have he : entB s from_ b = false := by simpa using he
      repeat (first | (with_reducible refine Nx.go ?_) | ((with_reducible refine Ny.go ?_); (conv => arg 1; simp only [ev, sop, bounds, loI, hiI, fillParts, binSV, intBin, unSV, simprocAttr, ev2, ev4, he, recheck, wantedS, SV.same_self, Bool.and_self]); (first | (with_reducible refine Nz.go ?_) | refine Hold_some ?_)))
      exact ⟨e4, by omega, p ++ [b], rfl, e5, g0, g1, g3, by rw [entL_add, he]; simpa using gr⟩
    have hadd : entL s from_ (p ++ [b]) = entL s from_ p ++ [(b : Int)] := by rw [entL_add, if_pos he]
    have n0 : (2 = σ4.next) = False := by simp; omega
    have n1 : (2 = σ4.next + 1) = False := by simp; omega
    rcases gr with ⟨hL, h4⟩ | ⟨id, hne, hlo, hid, h5, h6⟩
    · repeat (first | (with_reducible refine Nx.go ?_) | ((with_reducible refine Ny.go ?_); (conv => arg 1; simp only [ev, sop, bounds, loI, hiI, fillParts, binSV, intBin, unSV, simprocAttr, ev2, ev4, he, h4, n0, n1, recheck, wantedS, SV.same_self, Bool.and_self]); (first | (with_reducible refine Nz.go ?_) | refine Hold_some ?_)))
      refine ⟨by simp (disch := first | omega | (simp only [nx_push, nx_set]; done) | (simp only [nx_push, nx_set]; omega)) only [get_push_ne, get_set_ne, get_set_same, e4], by simp [next_push, next_set]; omega, p ++ [b], rfl, by simp [next_push, next_set]; omega, by simp (disch := first | omega | (simp only [nx_push, nx_set]; done) | (simp only [nx_push, nx_set]; omega)) only [cells_push_ne, cells_push_eq, cells_set_ne, cells_set_eq, g0], by simp (disch := first | omega | (simp only [nx_push, nx_set]; done) | (simp only [nx_push, nx_set]; omega)) only [cells_push_ne, cells_push_eq, cells_set_ne, cells_set_eq, g1], by simp (disch := first | omega | (simp only [nx_push, nx_set]; done) | (simp only [nx_push, nx_set]; omega)) only [cells_push_ne, cells_push_eq, cells_set_ne, cells_set_eq, g3], .inr ⟨σ4.next + 1, by rw [hadd]; simp, by omega, by simp [next_push, next_set], ?_, ?_⟩⟩
      · rw [hadd, hL]; simp (disch := first | omega | (simp only [nx_push, nx_set]; done) | (simp only [nx_push, nx_set]; omega)) only [cells_push_ne, cells_push_eq, cells_set_ne, cells_set_eq]; rfl
      · rw [hadd, hL]; simp (disch := first | omega | (simp only [nx_push, nx_set]; done) | (simp only [nx_push, nx_set]; omega)) only [cells_push_ne, cells_push_eq, cells_set_ne, cells_set_eq]; rfl
    · have n2 : (2 = id) = False := by simp; omega
      have n3 : (id = σ4.next) = False := by simp; omega
      have n4 : (id = σ4.next + 1) = False := by simp; omega
      have n5 : (σ4.next = id) = False := by simp; omega
      have hfl := entL_len s from_ p
      have hcw : cut ((entL s from_ p).map SV.int) 0 (entL s from_ p).length = some ((entL s from_ p).map SV.int) := cut_whole (by simp)
      have hb1 : ((entL s from_ p).length + 1) * 8 ≤ 1099511627776 ∧ (entL s from_ p).length + 1 ≤ 1099511627776 := by omega
      repeat (first | (with_reducible refine Nx.go ?_) | ((with_reducible refine Ny.go ?_); (conv => arg 1; simp only [ev, sop, bounds, loI, hiI, fillParts, binSV, intBin, unSV, simprocAttr, ev2, ev4, he, h5, h6, n0, n1, n2, n3, n4, n5, hcw, hb1, recheck, wantedS, SV.same_self, Bool.and_self]); (first | (with_reducible refine Nz.go ?_) | refine Hold_some ?_)))
      refine ⟨by simp (disch := first | omega | (simp only [nx_push, nx_set]; done) | (simp only [nx_push, nx_set]; omega)) only [get_push_ne, get_set_ne, get_set_same, e4], by simp [next_push, next_set]; omega, p ++ [b], rfl, by simp [next_push, next_set]; omega, by simp (disch := first | omega | (simp only [nx_push, nx_set]; done) | (simp only [nx_push, nx_set]; omega)) only [cells_push_ne, cells_push_eq, cells_set_ne, cells_set_eq, g0], by simp (disch := first | omega | (simp only [nx_push, nx_set]; done) | (simp only [nx_push, nx_set]; omega)) only [cells_push_ne, cells_push_eq, cells_set_ne, cells_set_eq, g1], by simp (disch := first | omega | (simp only [nx_push, nx_set]; done) | (simp only [nx_push, nx_set]; omega)) only [cells_push_ne, cells_push_eq, cells_set_ne, cells_set_eq, g3], .inr ⟨σ4.next + 1, by rw [hadd]; simp, by omega, by simp [next_push, next_set], ?_, ?_⟩⟩
      · rw [hadd]; simp (disch := first | omega | (simp only [nx_push, nx_set]; done) | (simp only [nx_push, nx_set]; omega)) only [cells_push_ne, cells_push_eq, cells_set_ne, cells_set_eq]; simp
      · rw [hadd]; simp (disch := first | omega | (simp only [nx_push, nx_set]; done) | (simp only [nx_push, nx_set]; omega)) only [cells_push_ne, cells_push_eq, cells_set_ne, cells_set_eq]; simp [SV.int]
  · rintro σ2 ⟨p, hpp, hp5, g0, g1, g3, gr⟩
    cases natV_inj hpp
    rw [hnx]
    rcases gr with ⟨hL, h4⟩ | ⟨id, hne, hlo, hid, h5, h6⟩
    · repeat (first | (with_reducible refine Nx.go ?_) | ((with_reducible refine Ny.go ?_); (conv => arg 1; simp only [ev, sop, bounds, loI, hiI, fillParts, binSV, intBin, unSV, simprocAttr, ev2, ev4, h4, recheck, wantedS, SV.same_self, Bool.and_self]); (first | (with_reducible refine Nz.go ?_) | refine Hold_some ?_)))
      (refine Hold1_of ?_; (conv => arg 1; simp only [ev, sop, bounds, loI, hiI, fillParts, binSV, intBin, unSV, simprocAttr, ev2, ev4, h4, resultsSV, resMany, resOne]); refine Hold1_some ?_)
      rw [hL]; exact frz_of_pure rfl
    · have n0 : (id = 4) = False := by simp; omega
      have n1 : (id = 2) = False := by simp; omega
      repeat (first | (with_reducible refine Nx.go ?_) | ((with_reducible refine Ny.go ?_); (conv => arg 1; simp only [ev, sop, bounds, loI, hiI, fillParts, binSV, intBin, unSV, simprocAttr, ev2, ev4, h5, n0, n1, recheck, wantedS, SV.same_self, Bool.and_self]); (first | (with_reducible refine Nz.go ?_) | refine Hold_some ?_)))
      (refine Hold1_of ?_; (conv => arg 1; simp only [ev, sop, bounds, loI, hiI, fillParts, binSV, intBin, unSV, simprocAttr, ev2, ev4, h5, n0, n1, resultsSV, resMany, resOne]); refine Hold1_some ?_)
      rw [show nilRow (entL s from_ (members s)) = some (entL s from_ (members s)) by unfold nilRow; rw [if_neg hne]]
      exact frz_sl (by simp (disch := first | omega | (simp only [nx_push, nx_set]; done) | (simp only [nx_push, nx_set]; omega)) only [cells_push_ne, cells_push_eq, cells_set_ne, cells_set_eq, h6]) (cut_whole (by simp)) (pures_ints _)

/-! ### Rings -/
theorem eqSV_set' (f g : Nat → Bool) : eqSV 5 200 (.agg (setCells f)) (.agg (setCells g)) = some (setEq f g) := eqSV_set f g
noncomputable def ringS (inS : Nat → Bool) (to from_ : List (Option (List Int))) (l : List Int) : Bool := l.any fun x => knotS inS to from_ x.toNat x.toNat
set_option maxHeartbeats 2000000 in
theorem t_rings {ps bs : SV} {to from_ : List (Option (List Int))} {n : Nat} {inS : Nat → Bool} {o : Option (List Int)} (hp : ps.pure = true) (hb : bs.pure = true) (h1 : ps.one = true) (h2 : bs.one = true) (ht : RowsIn n to) (hf : RowsIn n from_) (hn : n ≤ 200) (hl : (ol o).length ≤ 2 ^ 62) (ho : ∀ x ∈ ol o, 0 ≤ x ∧ x < (n : Int)) :
    Tells 72 [.agg [ps, bs, rowsV to, rowsV from_], intsV o, setV inS] (.sc (.bool (ringS inS to from_ (ol o)))) := by
  refine tells_fn rfl rfl rfl rfl ?_
  unfold setV
  repeat (first | (with_reducible refine Nx.go ?_) | ((with_reducible refine Ny.go ?_); (conv => arg 1; simp only [ev, sop, bounds, loI, hiI, fillParts, binSV, intBin, unSV, simprocAttr, ev2, ev4, recheck, wantedS, SV.same_self, Bool.and_self]); (first | (with_reducible refine Nz.go ?_) | refine Hold_some ?_)))
  refine st_callf (by first | with_reducible exact wantedS_none | (refine wantedS_some ?_; simp only [ev, sop, bounds, loI, hiI, fillParts, binSV, intBin, unSV, simprocAttr, ev2, ev4]; done)) (by simp only [ev, sop, bounds, loI, hiI, fillParts, binSV, intBin, unSV, simprocAttr, ev2, ev4] <;> rfl) (by simp only [ev, sop, bounds, loI, hiI, fillParts, binSV, intBin, unSV, simprocAttr, ev2, ev4] <;> rfl) ?_
  obtain ⟨σ1, hσ⟩ : ∃ x, x = (St.empty.push (.cells [ps, bs, rowsV to, rowsV from_])).push (.cells (setCells inS)) := ⟨_, rfl⟩
  rw [← hσ]
  have c0 : cellsOf σ1 0 = some [ps, bs, rowsV to, rowsV from_] := by rw [hσ]; simp only [ev, sop, bounds, loI, hiI, fillParts, binSV, intBin, unSV, simprocAttr, ev2, ev4]
  have c1 : cellsOf σ1 1 = some (setCells inS) := by rw [hσ]; simp only [ev, sop, bounds, loI, hiI, fillParts, binSV, intBin, unSV, simprocAttr, ev2, ev4]
  refine (c_containsFunc (o := o) (fun x => knotS inS to from_ x.toNat x.toNat) (fun σ4 => σ4 = σ1) hl rfl ?_).mono ?_
  · intro x hx σ4 h4
    subst h4
    obtain ⟨hx0, hxn⟩ := ho x hx
    obtain ⟨b, rfl⟩ := Int.eq_ofNat_of_zero_le hx0
    have hbn : b < n := by omega
    have hk := t_knot (inS := inS) hp hb h1 h2 ht hf hn hbn
    unfold setV at hk
    have hx2 : (b : Int) < 200 := by omega
    have hx4 : b + 1 ≤ 200 := by omega
    have hcx := cut_set (f := knotS inS to from_ b) (i := b) (by omega)
    refine WPC_fn (inline_fn rfl rfl rfl rfl ?_)
    repeat (first | (with_reducible refine Nx.go ?_) | ((with_reducible refine Ny.go ?_); (conv => arg 1; simp only [ev, sop, bounds, loI, hiI, fillParts, binSV, intBin, unSV, simprocAttr, ev2, ev4, c0, c1, cut_all, recheck, wantedS, SV.same_self, Bool.and_self]); (first | (with_reducible refine Nz.go ?_) | refine Hold_some ?_)))
    refine st_tellp (hk) ⟨_, rfl, by first | omega | decide⟩ wantedS_none (by simp only [ev, sop, bounds, loI, hiI, fillParts, binSV, intBin, unSV, simprocAttr, ev2, ev4, c0, c1, cut_all] <;> rfl) (by first | rfl | simp [pures, SV.pure, *, pure_func, pure_ints, pure_blks, pure_insV, pure_rows, pure_tiles, pure_set, pures_set]) (by first | with_reducible exact recheck_nil | (simp only [recheck, wantedS]; simp only [ev, sop, bounds, loI, hiI, fillParts, binSV, intBin, unSV, simprocAttr, ev2, ev4, c0, c1, cut_all]; simp only [SV.same_self, Bool.and_self, beq_self_eq_true])) ?_
    repeat (first | (with_reducible refine Nx.go ?_) | ((with_reducible refine Ny.go ?_); (conv => arg 1; simp only [ev, sop, bounds, loI, hiI, fillParts, binSV, intBin, unSV, simprocAttr, ev2, ev4, hx2, hx4, hcx, recheck, wantedS, SV.same_self, Bool.and_self]); (first | (with_reducible refine Nz.go ?_) | refine Hold_some ?_)))
    (refine Hold1_of ?_; (conv => arg 1; simp only [ev, sop, bounds, loI, hiI, fillParts, binSV, intBin, unSV, simprocAttr, ev2, ev4, resultsSV, resMany, resOne]); refine Hold1_some ?_)
    exact ⟨rfl, rfl⟩
  rintro v σ4 ⟨rfl, h4⟩
  refine ⟨recheck_nil, ?_⟩
  repeat (first | (with_reducible refine Nx.go ?_) | ((with_reducible refine Ny.go ?_); (conv => arg 1; simp only [ev, sop, bounds, loI, hiI, fillParts, binSV, intBin, unSV, simprocAttr, ev2, ev4, recheck, wantedS, SV.same_self, Bool.and_self]); (first | (with_reducible refine Nz.go ?_) | refine Hold_some ?_)))
  (refine Hold1_of ?_; (conv => arg 1; simp only [ev, sop, bounds, loI, hiI, fillParts, binSV, intBin, unSV, simprocAttr, ev2, ev4, resultsSV, resMany, resOne]); refine Hold1_some ?_)
  exact frz_of_pure rfl
/-- Do some blocks hang together? -/
noncomputable def togetherS (s : Nat → Bool) (to from_ : List (Option (List Int))) : Bool := match members s with
  | [] => true
  | b :: _ => setEq (knotS s to from_ b) s
set_option maxHeartbeats 2000000 in
theorem t_together {ps bs : SV} {to from_ : List (Option (List Int))} {n : Nat} {s : Nat → Bool} (hp : ps.pure = true) (hb : bs.pure = true) (h1 : ps.one = true) (h2 : bs.one = true) (ht : RowsIn n to) (hf : RowsIn n from_) (hn : n ≤ 200) (hs : ∀ b r, members s = b :: r → b < n) :
    Tells 71 [.agg [ps, bs, rowsV to, rowsV from_], setV s] (.sc (.bool (togetherS s to from_))) := by
  refine tells_fn rfl rfl rfl rfl ?_
  unfold setV
  repeat (first | (with_reducible refine Nx.go ?_) | ((with_reducible refine Ny.go ?_); (conv => arg 1; simp only [ev, sop, bounds, loI, hiI, fillParts, binSV, intBin, unSV, simprocAttr, ev2, ev4, recheck, wantedS, SV.same_self, Bool.and_self]); (first | (with_reducible refine Nz.go ?_) | refine Hold_some ?_)))
  refine st_callf (by first | with_reducible exact wantedS_none | (refine wantedS_some ?_; simp only [ev, sop, bounds, loI, hiI, fillParts, binSV, intBin, unSV, simprocAttr, ev2, ev4]; done)) (by simp only [ev, sop, bounds, loI, hiI, fillParts, binSV, intBin, unSV, simprocAttr, ev2, ev4] <;> rfl) (by simp only [ev, sop, bounds, loI, hiI, fillParts, binSV, intBin, unSV, simprocAttr, ev2, ev4] <;> rfl) ?_
  refine c_setEach.mono ?_
  rintro v σ1 ⟨rfl, hk, hnx, hc3⟩
  refine ⟨recheck_nil, ?_⟩
  simp only [next_push, next_empty] at hnx hc3 hk
  have k0 : cellsOf σ1 0 = some [ps, bs, rowsV to, rowsV from_] := by rw [hk.cells (by simp [next_push, next_empty])]; simp only [ev, sop, bounds, loI, hiI, fillParts, binSV, intBin, unSV, simprocAttr, ev2, ev4]
  have k1 : cellsOf σ1 1 = some (setCells s) := by rw [hk.cells (by simp [next_push, next_empty])]; simp only [ev, sop, bounds, loI, hiI, fillParts, binSV, intBin, unSV, simprocAttr, ev2, ev4]
  have k2 : cellsOf σ1 2 = some [.sc (.bool false)] := by rw [hk.cells (by simp [next_push, next_empty])]; simp only [ev, sop, bounds, loI, hiI, fillParts, binSV, intBin, unSV, simprocAttr, ev2, ev4]
  simp only [Nat.zero_add, Nat.reduceAdd] at hnx hc3
  clear hk
  repeat (first | (with_reducible refine Nx.go ?_) | ((with_reducible refine Ny.go ?_); (conv => arg 1; simp only [ev, sop, bounds, loI, hiI, fillParts, binSV, intBin, unSV, simprocAttr, ev2, ev4, recheck, wantedS, SV.same_self, Bool.and_self]); (first | (with_reducible refine Nz.go ?_) | refine Hold_some ?_)))
  refine WP_rng_it (fun pre σ' => pre = [] ∧ 5 ≤ σ'.next ∧ cellsOf σ' 0 = some [ps, bs, rowsV to, rowsV from_] ∧ cellsOf σ' 1 = some (setCells s) ∧ cellsOf σ' 3 = some [.ptr 1 0] ∧ cellsOf σ' 2 = some [.sc (.bool false)])
    (by simp only [ev, sop, bounds, loI, hiI, fillParts, binSV, intBin, unSV, simprocAttr, ev2, ev4] <;> rfl) rfl (it_setEach s (sid := 1)) ⟨rfl, by simp [next_push, hnx], by simp (disch := first | omega | (simp only [nx_push, nx_set]; done) | (simp only [nx_push, nx_set]; omega)) only [cells_push_ne, cells_push_eq, cells_set_ne, cells_set_eq, k0], by simp (disch := first | omega | (simp only [nx_push, nx_set]; done) | (simp only [nx_push, nx_set]; omega)) only [cells_push_ne, cells_push_eq, cells_set_ne, cells_set_eq, k1], by simp (disch := first | omega | (simp only [nx_push, nx_set]; done) | (simp only [nx_push, nx_set]; omega)) only [cells_push_ne, cells_push_eq, cells_set_ne, cells_set_eq, hc3], by simp (disch := first | omega | (simp only [nx_push, nx_set]; done) | (simp only [nx_push, nx_set]; omega)) only [cells_push_ne, cells_push_eq, cells_set_ne, cells_set_eq, k2]⟩ ?_ ?_ ?_ ?_ ?_
  · rintro pre σ2 σ3 ⟨rfl, hp5, g0, g1, g3, g2⟩ kk
    exact ⟨rfl, Nat.le_trans hp5 kk.1, by rw [kk.cells (by omega)]; exact g0, by rw [kk.cells (by omega)]; exact g1, by rw [kk.cells (by omega)]; exact g3, by rw [kk.cells (by omega)]; exact g2⟩
  · rintro pre σ2 o ⟨rfl, hp5, g0, g1, g3, g2⟩
    rw [hnx]
    exact ⟨rfl, by simpa [next_set] using hp5, by simp (disch := first | omega | (simp only [nx_push, nx_set]; done) | (simp only [nx_push, nx_set]; omega)) only [cells_push_ne, cells_push_eq, cells_set_ne, cells_set_eq, g0], by simp (disch := first | omega | (simp only [nx_push, nx_set]; done) | (simp only [nx_push, nx_set]; omega)) only [cells_push_ne, cells_push_eq, cells_set_ne, cells_set_eq, g1], by simp (disch := first | omega | (simp only [nx_push, nx_set]; done) | (simp only [nx_push, nx_set]; omega)) only [cells_push_ne, cells_push_eq, cells_set_ne, cells_set_eq, g3], by simp (disch := first | omega | (simp only [nx_push, nx_set]; done) | (simp only [nx_push, nx_set]; omega)) only [cells_push_ne, cells_push_eq, cells_set_ne, cells_set_eq, g2]⟩
  · rintro pre σ2 ⟨rfl, hp5, g0, g1, g3, g2⟩ _
    exact ⟨g3, g1⟩
  · rintro pre v σ2 lr lb hpre hlt ⟨rfl, hp5, g0, g1, g3, g2⟩ hg
    obtain ⟨p', b, r, hes, hpp, rfl⟩ := prefix_map hpre
    have hp0 : p' = [] := by cases p' with
      | nil => rfl
      | cons => simp at hpp
    subst hp0
    have hbn := hs b r hes
    have hk := t_knot (inS := s) hp hb h1 h2 ht hf hn hbn
    unfold setV at hk
    have heq := eqSV_set (knotS s to from_ b) s
    rw [hnx] at hg ⊢
    simp only [setMany_one, natV]
    repeat (first | (with_reducible refine Nx.go ?_) | ((with_reducible refine Ny.go ?_); (conv => arg 1; simp only [ev, sop, bounds, loI, hiI, fillParts, binSV, intBin, unSV, simprocAttr, ev2, ev4, recheck, wantedS, SV.same_self, Bool.and_self]); (first | (with_reducible refine Nz.go ?_) | refine Hold_some ?_)))
    refine ⟨by simp (disch := first | omega | (simp only [nx_push, nx_set]; done) | (simp only [nx_push, nx_set]; omega)) only [get_push_ne, get_set_ne, get_set_same, hg], ?_⟩
    obtain ⟨σ3, hσ⟩ : ∃ x, x = σ2.set 4 lb := ⟨_, rfl⟩
    rw [← hσ]
    have e4 : σ3.get 4 = some lb := by rw [hσ]; exact get_set_eq
    have e5 : 5 ≤ σ3.next := by rw [hσ]; exact hp5
    have g0 : cellsOf σ3 0 = some [ps, bs, rowsV to, rowsV from_] := by rw [hσ]; simp (disch := first | omega | (simp only [nx_push, nx_set]; done) | (simp only [nx_push, nx_set]; omega)) only [cells_push_ne, cells_push_eq, cells_set_ne, cells_set_eq, g0]
    have g1 : cellsOf σ3 1 = some (setCells s) := by rw [hσ]; simp (disch := first | omega | (simp only [nx_push, nx_set]; done) | (simp only [nx_push, nx_set]; omega)) only [cells_push_ne, cells_push_eq, cells_set_ne, cells_set_eq, g1]
    have g2 : cellsOf σ3 2 = some [.sc (.bool false)] := by rw [hσ]; simp (disch := first | omega | (simp only [nx_push, nx_set]; done) | (simp only [nx_push, nx_set]; omega)) only [cells_push_ne, cells_push_eq, cells_set_ne, cells_set_eq, g2]
    clear hσ hg
    repeat (first | (with_reducible refine Nx.go ?_) | ((with_reducible refine Ny.go ?_); (conv => arg 1; simp only [ev, sop, bounds, loI, hiI, fillParts, binSV, intBin, unSV, simprocAttr, ev2, ev4, g0, g1, g2, cut_all, recheck, wantedS, SV.same_self, Bool.and_self]); (first | (with_reducible refine Nz.go ?_) | refine Hold_some ?_)))
    refine st_tellp (hk) ⟨_, rfl, by first | omega | decide⟩ wantedS_none (by simp only [ev, sop, bounds, loI, hiI, fillParts, binSV, intBin, unSV, simprocAttr, ev2, ev4, g0, g1, g2, cut_all] <;> rfl) (by first | rfl | simp [pures, SV.pure, *, pure_func, pure_ints, pure_blks, pure_insV, pure_rows, pure_tiles, pure_set, pures_set]) (by first | with_reducible exact recheck_nil | (simp only [recheck, wantedS]; simp only [ev, sop, bounds, loI, hiI, fillParts, binSV, intBin, unSV, simprocAttr, ev2, ev4, g0, g1, g2, cut_all]; simp only [SV.same_self, Bool.and_self, beq_self_eq_true])) ?_
    repeat (first | (with_reducible refine Nx.go ?_) | ((with_reducible refine Ny.go ?_); (conv => arg 1; simp only [ev, sop, bounds, loI, hiI, fillParts, binSV, intBin, unSV, simprocAttr, ev2, ev4, g0, g1, g2, cut_all, heq, recheck, wantedS, SV.same_self, Bool.and_self]); (first | (with_reducible refine Nz.go ?_) | refine Hold_some ?_)))
    refine ⟨by simp (disch := first | omega | (simp only [nx_push, nx_set]; done) | (simp only [nx_push, nx_set]; omega)) only [get_push_ne, get_set_ne, get_set_same, e4], fun o => ?_⟩
    repeat (first | (with_reducible refine Nx.go ?_) | ((with_reducible refine Ny.go ?_); (conv => arg 1; simp only [ev, sop, bounds, loI, hiI, fillParts, binSV, intBin, unSV, simprocAttr, ev2, ev4, recheck, wantedS, SV.same_self, Bool.and_self]); (first | (with_reducible refine Nz.go ?_) | refine Hold_some ?_)))
    (refine Hold1_of ?_; (conv => arg 1; simp only [ev, sop, bounds, loI, hiI, fillParts, binSV, intBin, unSV, simprocAttr, ev2, ev4, resultsSV, resMany, resOne]); refine Hold1_some ?_)
    rw [show togetherS s to from_ = setEq (knotS s to from_ b) s by unfold togetherS; rw [hes]; rfl]
    exact frz_of_pure rfl
  · rintro σ2 ⟨hpp, hp5, g0, g1, g3, g2⟩
    have hms : members s = [] := by simpa using hpp
    rw [hnx]
    repeat (first | (with_reducible refine Nx.go ?_) | ((with_reducible refine Ny.go ?_); (conv => arg 1; simp only [ev, sop, bounds, loI, hiI, fillParts, binSV, intBin, unSV, simprocAttr, ev2, ev4, g2, recheck, wantedS, SV.same_self, Bool.and_self]); (first | (with_reducible refine Nz.go ?_) | refine Hold_some ?_)))
    (refine Hold1_of ?_; (conv => arg 1; simp only [ev, sop, bounds, loI, hiI, fillParts, binSV, intBin, unSV, simprocAttr, ev2, ev4, g2, resultsSV, resMany, resOne]); refine Hold1_some ?_)
    rw [show togetherS s to from_ = true by unfold togetherS; rw [hms]]
    exact frz_of_pure rfl
end Go.Proofs.Ytojjhcgbbmknmaa.Sh

/- What must hold of a tile (written by genU4.py). -/
namespace Go.Proofs.Ytojjhcgbbmknmaa.Sh
set_option linter.unusedSimpArgs false
set_option linter.unusedVariables false
open Go Go.Proofs

def lessS (s : Nat → Bool) (b : Nat) : Nat → Bool := fun j => if j = b then false else s j
noncomputable def holdsS (s : Nat → Bool) (to from_ : List (Option (List Int))) (kind : Int) (l : List Int) : Bool :=
  match (members s).filter (entB s from_) with
  | [] => if kind = 1 then !ringS s to from_ l else false
  | [b] => if kind = 1 then !ringS s to from_ l else if kind = 2 then decide ((b : Int) ∈ l) && togetherS s to from_ && !ringS (lessS s b) to from_ l else if kind = 4 then decide ((b : Int) ∈ l) && !ringS s to from_ l else false
  | _ :: _ :: _ => if kind = 1 then !ringS s to from_ l else if kind = 3 then togetherS s to from_ else false
set_option maxHeartbeats 8000000 in
theorem t_holds {ps bs : SV} {to from_ : List (Option (List Int))} {n : Nat} {s : Nat → Bool} {kind parent : Int} {o : Option (List Int)} (hp : ps.pure = true) (hb : bs.pure = true) (h1 : ps.one = true) (h2 : bs.one = true) (ht : RowsIn n to) (hf : RowsIn n from_) (hn : n ≤ 200) (hs : ∀ b r, members s = b :: r → b < n) (hl : (ol o).length ≤ 2 ^ 62) (ho : ∀ x ∈ ol o, 0 ≤ x ∧ x < (n : Int)) :
    Tells 37 [.agg [ps, bs, rowsV to, rowsV from_], .agg [.sc (.int .i64 kind), .sc (.int .i64 parent), intsV o], setV s] (.sc (.bool (holdsS s to from_ kind (ol o)))) := by
  refine tells_fn rfl rfl rfl rfl ?_
  have we := t_entries (to := to) (s := s) hp hb h1 h2 hf hn
  have wt := t_together (s := s) hp hb h1 h2 ht hf hn hs
  have wr := t_rings (inS := s) (o := o) hp hb h1 h2 ht hf hn hl ho
  unfold setV at we wt wr ⊢
  have hm : ∀ b ∈ (members s).filter (entB s from_), b < 200 := fun b hb => (mem_members.1 (List.mem_filter.1 hb).1).1
  unfold entL at we
  unfold holdsS
  generalize hM : (members s).filter (entB s from_) = M at *
  by_cases k1 : kind = 1
  · subst k1
    rcases M with _ | ⟨b, _ | ⟨b2, r⟩⟩
    · have we : Tells _ _ (.sc .nilsl) := we
      repeat (first | (with_reducible refine Nx.go ?_) | ((with_reducible refine Ny.go ?_); (conv => arg 1; simp only [ev, sop, bounds, loI, hiI, fillParts, binSV, intBin, unSV, simprocAttr, ev2, ev4, cut_all, recheck, wantedS, SV.same_self, Bool.and_self]); (first | (with_reducible refine Nz.go ?_) | refine Hold_some ?_)))
      refine st_tellp (we) ⟨_, rfl, by first | omega | decide⟩ wantedS_none (by simp only [ev, sop, bounds, loI, hiI, fillParts, binSV, intBin, unSV, simprocAttr, ev2, ev4, cut_all] <;> rfl) (by first | rfl | simp [pures, SV.pure, *, pure_func, pure_ints, pure_blks, pure_insV, pure_rows, pure_tiles, pure_set, pures_set]) (by first | with_reducible exact recheck_nil | (simp only [recheck, wantedS]; simp only [ev, sop, bounds, loI, hiI, fillParts, binSV, intBin, unSV, simprocAttr, ev2, ev4, cut_all]; simp only [SV.same_self, Bool.and_self, beq_self_eq_true])) ?_
      repeat (first | (with_reducible refine Nx.go ?_) | ((with_reducible refine Ny.go ?_); (conv => arg 1; simp only [ev, sop, bounds, loI, hiI, fillParts, binSV, intBin, unSV, simprocAttr, ev2, ev4, cut_all, recheck, wantedS, SV.same_self, Bool.and_self]); (first | (with_reducible refine Nz.go ?_) | refine Hold_some ?_)))
      refine st_tellp (wr) ⟨_, rfl, by first | omega | decide⟩ wantedS_none (by simp only [ev, sop, bounds, loI, hiI, fillParts, binSV, intBin, unSV, simprocAttr, ev2, ev4, cut_all] <;> rfl) (by first | rfl | simp [pures, SV.pure, *, pure_func, pure_ints, pure_blks, pure_insV, pure_rows, pure_tiles, pure_set, pures_set]) (by first | with_reducible exact recheck_nil | (simp only [recheck, wantedS]; simp only [ev, sop, bounds, loI, hiI, fillParts, binSV, intBin, unSV, simprocAttr, ev2, ev4, cut_all]; simp only [SV.same_self, Bool.and_self, beq_self_eq_true])) ?_
      repeat (first | (with_reducible refine Nx.go ?_) | ((with_reducible refine Ny.go ?_); (conv => arg 1; simp only [ev, sop, bounds, loI, hiI, fillParts, binSV, intBin, unSV, simprocAttr, ev2, ev4, recheck, wantedS, SV.same_self, Bool.and_self]); (first | (with_reducible refine Nz.go ?_) | refine Hold_some ?_)))
      (refine Hold1_of ?_; (conv => arg 1; simp only [ev, sop, bounds, loI, hiI, fillParts, binSV, intBin, unSV, simprocAttr, ev2, ev4, resultsSV, resMany, resOne]); refine Hold1_some ?_)
      first | exact frz_of_pure rfl | (rw [frz_of_pure rfl]; simp_all)
    · have hb200 := hm b (by simp)
      have we : Tells _ _ (.lst 1 1 [.sc (.int .i64 (b : Int))]) := we
      have hc0 : cut [SV.sc (.int .i64 (b : Int))] 0 1 = some [.sc (.int .i64 (b : Int))] := rfl
      have wc := t_containsI o (b : Int) hl
      repeat (first | (with_reducible refine Nx.go ?_) | ((with_reducible refine Ny.go ?_); (conv => arg 1; simp only [ev, sop, bounds, loI, hiI, fillParts, binSV, intBin, unSV, simprocAttr, ev2, ev4, cut_all, recheck, wantedS, SV.same_self, Bool.and_self]); (first | (with_reducible refine Nz.go ?_) | refine Hold_some ?_)))
      refine st_tellp (we) ⟨_, rfl, by first | omega | decide⟩ wantedS_none (by simp only [ev, sop, bounds, loI, hiI, fillParts, binSV, intBin, unSV, simprocAttr, ev2, ev4, cut_all] <;> rfl) (by first | rfl | simp [pures, SV.pure, *, pure_func, pure_ints, pure_blks, pure_insV, pure_rows, pure_tiles, pure_set, pures_set]) (by first | with_reducible exact recheck_nil | (simp only [recheck, wantedS]; simp only [ev, sop, bounds, loI, hiI, fillParts, binSV, intBin, unSV, simprocAttr, ev2, ev4, cut_all]; simp only [SV.same_self, Bool.and_self, beq_self_eq_true])) ?_
      repeat (first | (with_reducible refine Nx.go ?_) | ((with_reducible refine Ny.go ?_); (conv => arg 1; simp only [ev, sop, bounds, loI, hiI, fillParts, binSV, intBin, unSV, simprocAttr, ev2, ev4, cut_all, hc0, recheck, wantedS, SV.same_self, Bool.and_self]); (first | (with_reducible refine Nz.go ?_) | refine Hold_some ?_)))
      refine st_tellp (wc) ⟨_, rfl, by first | omega | decide⟩ wantedS_none (by simp only [ev, sop, bounds, loI, hiI, fillParts, binSV, intBin, unSV, simprocAttr, ev2, ev4, cut_all, hc0] <;> rfl) (by first | rfl | simp [pures, SV.pure, *, pure_func, pure_ints, pure_blks, pure_insV, pure_rows, pure_tiles, pure_set, pures_set]) (by first | with_reducible exact recheck_nil | (simp only [recheck, wantedS]; simp only [ev, sop, bounds, loI, hiI, fillParts, binSV, intBin, unSV, simprocAttr, ev2, ev4, cut_all, hc0]; simp only [SV.same_self, Bool.and_self, beq_self_eq_true])) ?_
      by_cases hin : (b : Int) ∈ ol o
      · rw [decide_eq_true hin] at *
        repeat (first | (with_reducible refine Nx.go ?_) | ((with_reducible refine Ny.go ?_); (conv => arg 1; simp only [ev, sop, bounds, loI, hiI, fillParts, binSV, intBin, unSV, simprocAttr, ev2, ev4, cut_all, hc0, recheck, wantedS, SV.same_self, Bool.and_self]); (first | (with_reducible refine Nz.go ?_) | refine Hold_some ?_)))
        refine st_tellp (wr) ⟨_, rfl, by first | omega | decide⟩ wantedS_none (by simp only [ev, sop, bounds, loI, hiI, fillParts, binSV, intBin, unSV, simprocAttr, ev2, ev4, cut_all] <;> rfl) (by first | rfl | simp [pures, SV.pure, *, pure_func, pure_ints, pure_blks, pure_insV, pure_rows, pure_tiles, pure_set, pures_set]) (by first | with_reducible exact recheck_nil | (simp only [recheck, wantedS]; simp only [ev, sop, bounds, loI, hiI, fillParts, binSV, intBin, unSV, simprocAttr, ev2, ev4, cut_all]; simp only [SV.same_self, Bool.and_self, beq_self_eq_true])) ?_
        repeat (first | (with_reducible refine Nx.go ?_) | ((with_reducible refine Ny.go ?_); (conv => arg 1; simp only [ev, sop, bounds, loI, hiI, fillParts, binSV, intBin, unSV, simprocAttr, ev2, ev4, recheck, wantedS, SV.same_self, Bool.and_self]); (first | (with_reducible refine Nz.go ?_) | refine Hold_some ?_)))
        (refine Hold1_of ?_; (conv => arg 1; simp only [ev, sop, bounds, loI, hiI, fillParts, binSV, intBin, unSV, simprocAttr, ev2, ev4, resultsSV, resMany, resOne]); refine Hold1_some ?_)
        first | exact frz_of_pure rfl | (rw [frz_of_pure rfl]; simp_all)
      · rw [decide_eq_false hin] at *
        repeat (first | (with_reducible refine Nx.go ?_) | ((with_reducible refine Ny.go ?_); (conv => arg 1; simp only [ev, sop, bounds, loI, hiI, fillParts, binSV, intBin, unSV, simprocAttr, ev2, ev4, cut_all, recheck, wantedS, SV.same_self, Bool.and_self]); (first | (with_reducible refine Nz.go ?_) | refine Hold_some ?_)))
        refine st_tellp (wr) ⟨_, rfl, by first | omega | decide⟩ wantedS_none (by simp only [ev, sop, bounds, loI, hiI, fillParts, binSV, intBin, unSV, simprocAttr, ev2, ev4, cut_all] <;> rfl) (by first | rfl | simp [pures, SV.pure, *, pure_func, pure_ints, pure_blks, pure_insV, pure_rows, pure_tiles, pure_set, pures_set]) (by first | with_reducible exact recheck_nil | (simp only [recheck, wantedS]; simp only [ev, sop, bounds, loI, hiI, fillParts, binSV, intBin, unSV, simprocAttr, ev2, ev4, cut_all]; simp only [SV.same_self, Bool.and_self, beq_self_eq_true])) ?_
        repeat (first | (with_reducible refine Nx.go ?_) | ((with_reducible refine Ny.go ?_); (conv => arg 1; simp only [ev, sop, bounds, loI, hiI, fillParts, binSV, intBin, unSV, simprocAttr, ev2, ev4, recheck, wantedS, SV.same_self, Bool.and_self]); (first | (with_reducible refine Nz.go ?_) | refine Hold_some ?_)))
        (refine Hold1_of ?_; (conv => arg 1; simp only [ev, sop, bounds, loI, hiI, fillParts, binSV, intBin, unSV, simprocAttr, ev2, ev4, resultsSV, resMany, resOne]); refine Hold1_some ?_)
        first | exact frz_of_pure rfl | (rw [frz_of_pure rfl]; simp_all)
    · rw [show intsV (nilRow ((b :: b2 :: r).map fun b : Nat => (b : Int))) = .lst (r.length + 1 + 1) 1 (((b :: b2 :: r).map fun b : Nat => (b : Int)).map SV.int) by simp [nilRow, intsV]] at we
      have hE1 : (((r.length + 1 + 1 : Nat) : Int) == 1) = false := by simp; omega
      have hE2 : ((r.length + 1 + 1 : Nat) : Int) > 1 := by omega
      repeat (first | (with_reducible refine Nx.go ?_) | ((with_reducible refine Ny.go ?_); (conv => arg 1; simp only [ev, sop, bounds, loI, hiI, fillParts, binSV, intBin, unSV, simprocAttr, ev2, ev4, cut_all, recheck, wantedS, SV.same_self, Bool.and_self]); (first | (with_reducible refine Nz.go ?_) | refine Hold_some ?_)))
      refine st_tellp (we) ⟨_, rfl, by first | omega | decide⟩ wantedS_none (by simp only [ev, sop, bounds, loI, hiI, fillParts, binSV, intBin, unSV, simprocAttr, ev2, ev4, cut_all] <;> rfl) (by first | rfl | simp [pures, SV.pure, *, pure_func, pure_ints, pure_blks, pure_insV, pure_rows, pure_tiles, pure_set, pures_set]) (by first | with_reducible exact recheck_nil | (simp only [recheck, wantedS]; simp only [ev, sop, bounds, loI, hiI, fillParts, binSV, intBin, unSV, simprocAttr, ev2, ev4, cut_all]; simp only [SV.same_self, Bool.and_self, beq_self_eq_true])) ?_
      repeat (first | (with_reducible refine Nx.go ?_) | ((with_reducible refine Ny.go ?_); (conv => arg 1; simp only [ev, sop, bounds, loI, hiI, fillParts, binSV, intBin, unSV, simprocAttr, ev2, ev4, cut_all, hE1, hE2, recheck, wantedS, SV.same_self, Bool.and_self]); (first | (with_reducible refine Nz.go ?_) | refine Hold_some ?_)))
      refine st_tellp (wr) ⟨_, rfl, by first | omega | decide⟩ wantedS_none (by simp only [ev, sop, bounds, loI, hiI, fillParts, binSV, intBin, unSV, simprocAttr, ev2, ev4, cut_all] <;> rfl) (by first | rfl | simp [pures, SV.pure, *, pure_func, pure_ints, pure_blks, pure_insV, pure_rows, pure_tiles, pure_set, pures_set]) (by first | with_reducible exact recheck_nil | (simp only [recheck, wantedS]; simp only [ev, sop, bounds, loI, hiI, fillParts, binSV, intBin, unSV, simprocAttr, ev2, ev4, cut_all]; simp only [SV.same_self, Bool.and_self, beq_self_eq_true])) ?_
      repeat (first | (with_reducible refine Nx.go ?_) | ((with_reducible refine Ny.go ?_); (conv => arg 1; simp only [ev, sop, bounds, loI, hiI, fillParts, binSV, intBin, unSV, simprocAttr, ev2, ev4, recheck, wantedS, SV.same_self, Bool.and_self]); (first | (with_reducible refine Nz.go ?_) | refine Hold_some ?_)))
      (refine Hold1_of ?_; (conv => arg 1; simp only [ev, sop, bounds, loI, hiI, fillParts, binSV, intBin, unSV, simprocAttr, ev2, ev4, resultsSV, resMany, resOne]); refine Hold1_some ?_)
      first | exact frz_of_pure rfl | (rw [frz_of_pure rfl]; simp_all)
  have k1' : (kind == 1) = false := by simpa using k1
  by_cases k2 : kind = 2
  · subst k2
    rcases M with _ | ⟨b, _ | ⟨b2, r⟩⟩
    · have we : Tells _ _ (.sc .nilsl) := we
      repeat (first | (with_reducible refine Nx.go ?_) | ((with_reducible refine Ny.go ?_); (conv => arg 1; simp only [ev, sop, bounds, loI, hiI, fillParts, binSV, intBin, unSV, simprocAttr, ev2, ev4, cut_all, recheck, wantedS, SV.same_self, Bool.and_self]); (first | (with_reducible refine Nz.go ?_) | refine Hold_some ?_)))
      refine st_tellp (we) ⟨_, rfl, by first | omega | decide⟩ wantedS_none (by simp only [ev, sop, bounds, loI, hiI, fillParts, binSV, intBin, unSV, simprocAttr, ev2, ev4, cut_all] <;> rfl) (by first | rfl | simp [pures, SV.pure, *, pure_func, pure_ints, pure_blks, pure_insV, pure_rows, pure_tiles, pure_set, pures_set]) (by first | with_reducible exact recheck_nil | (simp only [recheck, wantedS]; simp only [ev, sop, bounds, loI, hiI, fillParts, binSV, intBin, unSV, simprocAttr, ev2, ev4, cut_all]; simp only [SV.same_self, Bool.and_self, beq_self_eq_true])) ?_
      repeat (first | (with_reducible refine Nx.go ?_) | ((with_reducible refine Ny.go ?_); (conv => arg 1; simp only [ev, sop, bounds, loI, hiI, fillParts, binSV, intBin, unSV, simprocAttr, ev2, ev4, cut_all, recheck, wantedS, SV.same_self, Bool.and_self]); (first | (with_reducible refine Nz.go ?_) | refine Hold_some ?_)))
      (refine Hold1_of ?_; (conv => arg 1; simp only [ev, sop, bounds, loI, hiI, fillParts, binSV, intBin, unSV, simprocAttr, ev2, ev4, resultsSV, resMany, resOne]); refine Hold1_some ?_)
      first | exact frz_of_pure rfl | (rw [frz_of_pure rfl]; simp_all)
    · have hb200 := hm b (by simp)
      have we : Tells _ _ (.lst 1 1 [.sc (.int .i64 (b : Int))]) := we
      have hc0 : cut [SV.sc (.int .i64 (b : Int))] 0 1 = some [.sc (.int .i64 (b : Int))] := rfl
      have wc := t_containsI o (b : Int) hl
      have wl := t_less (s := s) hb200
      have wr2 := t_rings (inS := lessS s b) (o := o) hp hb h1 h2 ht hf hn hl ho
      unfold setV at wl wr2
      rw [show (fun j => if j = b then false else s j) = lessS s b from rfl] at wl
      repeat (first | (with_reducible refine Nx.go ?_) | ((with_reducible refine Ny.go ?_); (conv => arg 1; simp only [ev, sop, bounds, loI, hiI, fillParts, binSV, intBin, unSV, simprocAttr, ev2, ev4, cut_all, recheck, wantedS, SV.same_self, Bool.and_self]); (first | (with_reducible refine Nz.go ?_) | refine Hold_some ?_)))
      refine st_tellp (we) ⟨_, rfl, by first | omega | decide⟩ wantedS_none (by simp only [ev, sop, bounds, loI, hiI, fillParts, binSV, intBin, unSV, simprocAttr, ev2, ev4, cut_all] <;> rfl) (by first | rfl | simp [pures, SV.pure, *, pure_func, pure_ints, pure_blks, pure_insV, pure_rows, pure_tiles, pure_set, pures_set]) (by first | with_reducible exact recheck_nil | (simp only [recheck, wantedS]; simp only [ev, sop, bounds, loI, hiI, fillParts, binSV, intBin, unSV, simprocAttr, ev2, ev4, cut_all]; simp only [SV.same_self, Bool.and_self, beq_self_eq_true])) ?_
      repeat (first | (with_reducible refine Nx.go ?_) | ((with_reducible refine Ny.go ?_); (conv => arg 1; simp only [ev, sop, bounds, loI, hiI, fillParts, binSV, intBin, unSV, simprocAttr, ev2, ev4, cut_all, hc0, recheck, wantedS, SV.same_self, Bool.and_self]); (first | (with_reducible refine Nz.go ?_) | refine Hold_some ?_)))
      refine st_tellp (wc) ⟨_, rfl, by first | omega | decide⟩ wantedS_none (by simp only [ev, sop, bounds, loI, hiI, fillParts, binSV, intBin, unSV, simprocAttr, ev2, ev4, cut_all, hc0] <;> rfl) (by first | rfl | simp [pures, SV.pure, *, pure_func, pure_ints, pure_blks, pure_insV, pure_rows, pure_tiles, pure_set, pures_set]) (by first | with_reducible exact recheck_nil | (simp only [recheck, wantedS]; simp only [ev, sop, bounds, loI, hiI, fillParts, binSV, intBin, unSV, simprocAttr, ev2, ev4, cut_all, hc0]; simp only [SV.same_self, Bool.and_self, beq_self_eq_true])) ?_
      by_cases hin : (b : Int) ∈ ol o
      · rw [decide_eq_true hin] at *
        repeat (first | (with_reducible refine Nx.go ?_) | ((with_reducible refine Ny.go ?_); (conv => arg 1; simp only [ev, sop, bounds, loI, hiI, fillParts, binSV, intBin, unSV, simprocAttr, ev2, ev4, cut_all, hc0, recheck, wantedS, SV.same_self, Bool.and_self]); (first | (with_reducible refine Nz.go ?_) | refine Hold_some ?_)))
        refine st_tellp (wt) ⟨_, rfl, by first | omega | decide⟩ wantedS_none (by simp only [ev, sop, bounds, loI, hiI, fillParts, binSV, intBin, unSV, simprocAttr, ev2, ev4, cut_all] <;> rfl) (by first | rfl | simp [pures, SV.pure, *, pure_func, pure_ints, pure_blks, pure_insV, pure_rows, pure_tiles, pure_set, pures_set]) (by first | with_reducible exact recheck_nil | (simp only [recheck, wantedS]; simp only [ev, sop, bounds, loI, hiI, fillParts, binSV, intBin, unSV, simprocAttr, ev2, ev4, cut_all]; simp only [SV.same_self, Bool.and_self, beq_self_eq_true])) ?_
        by_cases htog : togetherS s to from_ = true
        · repeat (first | (with_reducible refine Nx.go ?_) | ((with_reducible refine Ny.go ?_); (conv => arg 1; simp only [ev, sop, bounds, loI, hiI, fillParts, binSV, intBin, unSV, simprocAttr, ev2, ev4, cut_all, htog, recheck, wantedS, SV.same_self, Bool.and_self]); (first | (with_reducible refine Nz.go ?_) | refine Hold_some ?_)))
          refine st_tellp (wl) ⟨_, rfl, by first | omega | decide⟩ wantedS_none (by simp only [ev, sop, bounds, loI, hiI, fillParts, binSV, intBin, unSV, simprocAttr, ev2, ev4, cut_all, htog] <;> rfl) (by first | rfl | simp [pures, SV.pure, *, pure_func, pure_ints, pure_blks, pure_insV, pure_rows, pure_tiles, pure_set, pures_set]) (by first | with_reducible exact recheck_nil | (simp only [recheck, wantedS]; simp only [ev, sop, bounds, loI, hiI, fillParts, binSV, intBin, unSV, simprocAttr, ev2, ev4, cut_all, htog]; simp only [SV.same_self, Bool.and_self, beq_self_eq_true])) ?_
          repeat (first | (with_reducible refine Nx.go ?_) | ((with_reducible refine Ny.go ?_); (conv => arg 1; simp only [ev, sop, bounds, loI, hiI, fillParts, binSV, intBin, unSV, simprocAttr, ev2, ev4, cut_all, htog, recheck, wantedS, SV.same_self, Bool.and_self]); (first | (with_reducible refine Nz.go ?_) | refine Hold_some ?_)))
          refine st_tellp (wr2) ⟨_, rfl, by first | omega | decide⟩ wantedS_none (by simp only [ev, sop, bounds, loI, hiI, fillParts, binSV, intBin, unSV, simprocAttr, ev2, ev4, cut_all, htog] <;> rfl) (by first | rfl | simp [pures, SV.pure, *, pure_func, pure_ints, pure_blks, pure_insV, pure_rows, pure_tiles, pure_set, pures_set]) (by first | with_reducible exact recheck_nil | (simp only [recheck, wantedS]; simp only [ev, sop, bounds, loI, hiI, fillParts, binSV, intBin, unSV, simprocAttr, ev2, ev4, cut_all, htog]; simp only [SV.same_self, Bool.and_self, beq_self_eq_true])) ?_
          repeat (first | (with_reducible refine Nx.go ?_) | ((with_reducible refine Ny.go ?_); (conv => arg 1; simp only [ev, sop, bounds, loI, hiI, fillParts, binSV, intBin, unSV, simprocAttr, ev2, ev4, recheck, wantedS, SV.same_self, Bool.and_self]); (first | (with_reducible refine Nz.go ?_) | refine Hold_some ?_)))
          (refine Hold1_of ?_; (conv => arg 1; simp only [ev, sop, bounds, loI, hiI, fillParts, binSV, intBin, unSV, simprocAttr, ev2, ev4, resultsSV, resMany, resOne]); refine Hold1_some ?_)
          first | exact frz_of_pure rfl | (rw [frz_of_pure rfl]; simp_all)
        · have htog : togetherS s to from_ = false := by simpa using htog
          repeat (first | (with_reducible refine Nx.go ?_) | ((with_reducible refine Ny.go ?_); (conv => arg 1; simp only [ev, sop, bounds, loI, hiI, fillParts, binSV, intBin, unSV, simprocAttr, ev2, ev4, cut_all, htog, recheck, wantedS, SV.same_self, Bool.and_self]); (first | (with_reducible refine Nz.go ?_) | refine Hold_some ?_)))
          (refine Hold1_of ?_; (conv => arg 1; simp only [ev, sop, bounds, loI, hiI, fillParts, binSV, intBin, unSV, simprocAttr, ev2, ev4, resultsSV, resMany, resOne]); refine Hold1_some ?_)
          first | exact frz_of_pure rfl | (rw [frz_of_pure rfl]; simp_all)
      · rw [decide_eq_false hin] at *
        repeat (first | (with_reducible refine Nx.go ?_) | ((with_reducible refine Ny.go ?_); (conv => arg 1; simp only [ev, sop, bounds, loI, hiI, fillParts, binSV, intBin, unSV, simprocAttr, ev2, ev4, cut_all, recheck, wantedS, SV.same_self, Bool.and_self]); (first | (with_reducible refine Nz.go ?_) | refine Hold_some ?_)))
        (refine Hold1_of ?_; (conv => arg 1; simp only [ev, sop, bounds, loI, hiI, fillParts, binSV, intBin, unSV, simprocAttr, ev2, ev4, resultsSV, resMany, resOne]); refine Hold1_some ?_)
        first | exact frz_of_pure rfl | (rw [frz_of_pure rfl]; simp_all)
    · rw [show intsV (nilRow ((b :: b2 :: r).map fun b : Nat => (b : Int))) = .lst (r.length + 1 + 1) 1 (((b :: b2 :: r).map fun b : Nat => (b : Int)).map SV.int) by simp [nilRow, intsV]] at we
      have hE1 : (((r.length + 1 + 1 : Nat) : Int) == 1) = false := by simp; omega
      have hE2 : ((r.length + 1 + 1 : Nat) : Int) > 1 := by omega
      repeat (first | (with_reducible refine Nx.go ?_) | ((with_reducible refine Ny.go ?_); (conv => arg 1; simp only [ev, sop, bounds, loI, hiI, fillParts, binSV, intBin, unSV, simprocAttr, ev2, ev4, cut_all, recheck, wantedS, SV.same_self, Bool.and_self]); (first | (with_reducible refine Nz.go ?_) | refine Hold_some ?_)))
      refine st_tellp (we) ⟨_, rfl, by first | omega | decide⟩ wantedS_none (by simp only [ev, sop, bounds, loI, hiI, fillParts, binSV, intBin, unSV, simprocAttr, ev2, ev4, cut_all] <;> rfl) (by first | rfl | simp [pures, SV.pure, *, pure_func, pure_ints, pure_blks, pure_insV, pure_rows, pure_tiles, pure_set, pures_set]) (by first | with_reducible exact recheck_nil | (simp only [recheck, wantedS]; simp only [ev, sop, bounds, loI, hiI, fillParts, binSV, intBin, unSV, simprocAttr, ev2, ev4, cut_all]; simp only [SV.same_self, Bool.and_self, beq_self_eq_true])) ?_
      repeat (first | (with_reducible refine Nx.go ?_) | ((with_reducible refine Ny.go ?_); (conv => arg 1; simp only [ev, sop, bounds, loI, hiI, fillParts, binSV, intBin, unSV, simprocAttr, ev2, ev4, cut_all, hE1, hE2, recheck, wantedS, SV.same_self, Bool.and_self]); (first | (with_reducible refine Nz.go ?_) | refine Hold_some ?_)))
      (refine Hold1_of ?_; (conv => arg 1; simp only [ev, sop, bounds, loI, hiI, fillParts, binSV, intBin, unSV, simprocAttr, ev2, ev4, resultsSV, resMany, resOne]); refine Hold1_some ?_)
      first | exact frz_of_pure rfl | (rw [frz_of_pure rfl]; simp_all)
  have k2' : (kind == 2) = false := by simpa using k2
  by_cases k3 : kind = 3
  · subst k3
    rcases M with _ | ⟨b, _ | ⟨b2, r⟩⟩
    · have we : Tells _ _ (.sc .nilsl) := we
      repeat (first | (with_reducible refine Nx.go ?_) | ((with_reducible refine Ny.go ?_); (conv => arg 1; simp only [ev, sop, bounds, loI, hiI, fillParts, binSV, intBin, unSV, simprocAttr, ev2, ev4, cut_all, recheck, wantedS, SV.same_self, Bool.and_self]); (first | (with_reducible refine Nz.go ?_) | refine Hold_some ?_)))
      refine st_tellp (we) ⟨_, rfl, by first | omega | decide⟩ wantedS_none (by simp only [ev, sop, bounds, loI, hiI, fillParts, binSV, intBin, unSV, simprocAttr, ev2, ev4, cut_all] <;> rfl) (by first | rfl | simp [pures, SV.pure, *, pure_func, pure_ints, pure_blks, pure_insV, pure_rows, pure_tiles, pure_set, pures_set]) (by first | with_reducible exact recheck_nil | (simp only [recheck, wantedS]; simp only [ev, sop, bounds, loI, hiI, fillParts, binSV, intBin, unSV, simprocAttr, ev2, ev4, cut_all]; simp only [SV.same_self, Bool.and_self, beq_self_eq_true])) ?_
      repeat (first | (with_reducible refine Nx.go ?_) | ((with_reducible refine Ny.go ?_); (conv => arg 1; simp only [ev, sop, bounds, loI, hiI, fillParts, binSV, intBin, unSV, simprocAttr, ev2, ev4, cut_all, recheck, wantedS, SV.same_self, Bool.and_self]); (first | (with_reducible refine Nz.go ?_) | refine Hold_some ?_)))
      (refine Hold1_of ?_; (conv => arg 1; simp only [ev, sop, bounds, loI, hiI, fillParts, binSV, intBin, unSV, simprocAttr, ev2, ev4, resultsSV, resMany, resOne]); refine Hold1_some ?_)
      first | exact frz_of_pure rfl | (rw [frz_of_pure rfl]; simp_all)
    · have hb200 := hm b (by simp)
      have we : Tells _ _ (.lst 1 1 [.sc (.int .i64 (b : Int))]) := we
      have hc0 : cut [SV.sc (.int .i64 (b : Int))] 0 1 = some [.sc (.int .i64 (b : Int))] := rfl
      have wc := t_containsI o (b : Int) hl
      repeat (first | (with_reducible refine Nx.go ?_) | ((with_reducible refine Ny.go ?_); (conv => arg 1; simp only [ev, sop, bounds, loI, hiI, fillParts, binSV, intBin, unSV, simprocAttr, ev2, ev4, cut_all, recheck, wantedS, SV.same_self, Bool.and_self]); (first | (with_reducible refine Nz.go ?_) | refine Hold_some ?_)))
      refine st_tellp (we) ⟨_, rfl, by first | omega | decide⟩ wantedS_none (by simp only [ev, sop, bounds, loI, hiI, fillParts, binSV, intBin, unSV, simprocAttr, ev2, ev4, cut_all] <;> rfl) (by first | rfl | simp [pures, SV.pure, *, pure_func, pure_ints, pure_blks, pure_insV, pure_rows, pure_tiles, pure_set, pures_set]) (by first | with_reducible exact recheck_nil | (simp only [recheck, wantedS]; simp only [ev, sop, bounds, loI, hiI, fillParts, binSV, intBin, unSV, simprocAttr, ev2, ev4, cut_all]; simp only [SV.same_self, Bool.and_self, beq_self_eq_true])) ?_
      repeat (first | (with_reducible refine Nx.go ?_) | ((with_reducible refine Ny.go ?_); (conv => arg 1; simp only [ev, sop, bounds, loI, hiI, fillParts, binSV, intBin, unSV, simprocAttr, ev2, ev4, cut_all, hc0, recheck, wantedS, SV.same_self, Bool.and_self]); (first | (with_reducible refine Nz.go ?_) | refine Hold_some ?_)))
      refine st_tellp (wc) ⟨_, rfl, by first | omega | decide⟩ wantedS_none (by simp only [ev, sop, bounds, loI, hiI, fillParts, binSV, intBin, unSV, simprocAttr, ev2, ev4, cut_all, hc0] <;> rfl) (by first | rfl | simp [pures, SV.pure, *, pure_func, pure_ints, pure_blks, pure_insV, pure_rows, pure_tiles, pure_set, pures_set]) (by first | with_reducible exact recheck_nil | (simp only [recheck, wantedS]; simp only [ev, sop, bounds, loI, hiI, fillParts, binSV, intBin, unSV, simprocAttr, ev2, ev4, cut_all, hc0]; simp only [SV.same_self, Bool.and_self, beq_self_eq_true])) ?_
      by_cases hin : (b : Int) ∈ ol o
      · rw [decide_eq_true hin] at *
        repeat (first | (with_reducible refine Nx.go ?_) | ((with_reducible refine Ny.go ?_); (conv => arg 1; simp only [ev, sop, bounds, loI, hiI, fillParts, binSV, intBin, unSV, simprocAttr, ev2, ev4, cut_all, hc0, recheck, wantedS, SV.same_self, Bool.and_self]); (first | (with_reducible refine Nz.go ?_) | refine Hold_some ?_)))
        (refine Hold1_of ?_; (conv => arg 1; simp only [ev, sop, bounds, loI, hiI, fillParts, binSV, intBin, unSV, simprocAttr, ev2, ev4, resultsSV, resMany, resOne]); refine Hold1_some ?_)
        first | exact frz_of_pure rfl | (rw [frz_of_pure rfl]; simp_all)
      · rw [decide_eq_false hin] at *
        repeat (first | (with_reducible refine Nx.go ?_) | ((with_reducible refine Ny.go ?_); (conv => arg 1; simp only [ev, sop, bounds, loI, hiI, fillParts, binSV, intBin, unSV, simprocAttr, ev2, ev4, cut_all, recheck, wantedS, SV.same_self, Bool.and_self]); (first | (with_reducible refine Nz.go ?_) | refine Hold_some ?_)))
        (refine Hold1_of ?_; (conv => arg 1; simp only [ev, sop, bounds, loI, hiI, fillParts, binSV, intBin, unSV, simprocAttr, ev2, ev4, resultsSV, resMany, resOne]); refine Hold1_some ?_)
        first | exact frz_of_pure rfl | (rw [frz_of_pure rfl]; simp_all)
    · rw [show intsV (nilRow ((b :: b2 :: r).map fun b : Nat => (b : Int))) = .lst (r.length + 1 + 1) 1 (((b :: b2 :: r).map fun b : Nat => (b : Int)).map SV.int) by simp [nilRow, intsV]] at we
      have hE1 : (((r.length + 1 + 1 : Nat) : Int) == 1) = false := by simp; omega
      have hE2 : ((r.length + 1 + 1 : Nat) : Int) > 1 := by omega
      repeat (first | (with_reducible refine Nx.go ?_) | ((with_reducible refine Ny.go ?_); (conv => arg 1; simp only [ev, sop, bounds, loI, hiI, fillParts, binSV, intBin, unSV, simprocAttr, ev2, ev4, cut_all, recheck, wantedS, SV.same_self, Bool.and_self]); (first | (with_reducible refine Nz.go ?_) | refine Hold_some ?_)))
      refine st_tellp (we) ⟨_, rfl, by first | omega | decide⟩ wantedS_none (by simp only [ev, sop, bounds, loI, hiI, fillParts, binSV, intBin, unSV, simprocAttr, ev2, ev4, cut_all] <;> rfl) (by first | rfl | simp [pures, SV.pure, *, pure_func, pure_ints, pure_blks, pure_insV, pure_rows, pure_tiles, pure_set, pures_set]) (by first | with_reducible exact recheck_nil | (simp only [recheck, wantedS]; simp only [ev, sop, bounds, loI, hiI, fillParts, binSV, intBin, unSV, simprocAttr, ev2, ev4, cut_all]; simp only [SV.same_self, Bool.and_self, beq_self_eq_true])) ?_
      repeat (first | (with_reducible refine Nx.go ?_) | ((with_reducible refine Ny.go ?_); (conv => arg 1; simp only [ev, sop, bounds, loI, hiI, fillParts, binSV, intBin, unSV, simprocAttr, ev2, ev4, cut_all, hE1, hE2, recheck, wantedS, SV.same_self, Bool.and_self]); (first | (with_reducible refine Nz.go ?_) | refine Hold_some ?_)))
      refine st_tellp (wt) ⟨_, rfl, by first | omega | decide⟩ wantedS_none (by simp only [ev, sop, bounds, loI, hiI, fillParts, binSV, intBin, unSV, simprocAttr, ev2, ev4, cut_all] <;> rfl) (by first | rfl | simp [pures, SV.pure, *, pure_func, pure_ints, pure_blks, pure_insV, pure_rows, pure_tiles, pure_set, pures_set]) (by first | with_reducible exact recheck_nil | (simp only [recheck, wantedS]; simp only [ev, sop, bounds, loI, hiI, fillParts, binSV, intBin, unSV, simprocAttr, ev2, ev4, cut_all]; simp only [SV.same_self, Bool.and_self, beq_self_eq_true])) ?_
      repeat (first | (with_reducible refine Nx.go ?_) | ((with_reducible refine Ny.go ?_); (conv => arg 1; simp only [ev, sop, bounds, loI, hiI, fillParts, binSV, intBin, unSV, simprocAttr, ev2, ev4, recheck, wantedS, SV.same_self, Bool.and_self]); (first | (with_reducible refine Nz.go ?_) | refine Hold_some ?_)))
      (refine Hold1_of ?_; (conv => arg 1; simp only [ev, sop, bounds, loI, hiI, fillParts, binSV, intBin, unSV, simprocAttr, ev2, ev4, resultsSV, resMany, resOne]); refine Hold1_some ?_)
      first | exact frz_of_pure rfl | (rw [frz_of_pure rfl]; simp_all)
  have k3' : (kind == 3) = false := by simpa using k3
  by_cases k4 : kind = 4
  · subst k4
    rcases M with _ | ⟨b, _ | ⟨b2, r⟩⟩
    · have we : Tells _ _ (.sc .nilsl) := we
      repeat (first | (with_reducible refine Nx.go ?_) | ((with_reducible refine Ny.go ?_); (conv => arg 1; simp only [ev, sop, bounds, loI, hiI, fillParts, binSV, intBin, unSV, simprocAttr, ev2, ev4, cut_all, recheck, wantedS, SV.same_self, Bool.and_self]); (first | (with_reducible refine Nz.go ?_) | refine Hold_some ?_)))
      refine st_tellp (we) ⟨_, rfl, by first | omega | decide⟩ wantedS_none (by simp only [ev, sop, bounds, loI, hiI, fillParts, binSV, intBin, unSV, simprocAttr, ev2, ev4, cut_all] <;> rfl) (by first | rfl | simp [pures, SV.pure, *, pure_func, pure_ints, pure_blks, pure_insV, pure_rows, pure_tiles, pure_set, pures_set]) (by first | with_reducible exact recheck_nil | (simp only [recheck, wantedS]; simp only [ev, sop, bounds, loI, hiI, fillParts, binSV, intBin, unSV, simprocAttr, ev2, ev4, cut_all]; simp only [SV.same_self, Bool.and_self, beq_self_eq_true])) ?_
      repeat (first | (with_reducible refine Nx.go ?_) | ((with_reducible refine Ny.go ?_); (conv => arg 1; simp only [ev, sop, bounds, loI, hiI, fillParts, binSV, intBin, unSV, simprocAttr, ev2, ev4, cut_all, recheck, wantedS, SV.same_self, Bool.and_self]); (first | (with_reducible refine Nz.go ?_) | refine Hold_some ?_)))
      (refine Hold1_of ?_; (conv => arg 1; simp only [ev, sop, bounds, loI, hiI, fillParts, binSV, intBin, unSV, simprocAttr, ev2, ev4, resultsSV, resMany, resOne]); refine Hold1_some ?_)
      first | exact frz_of_pure rfl | (rw [frz_of_pure rfl]; simp_all)
    · have hb200 := hm b (by simp)
      have we : Tells _ _ (.lst 1 1 [.sc (.int .i64 (b : Int))]) := we
      have hc0 : cut [SV.sc (.int .i64 (b : Int))] 0 1 = some [.sc (.int .i64 (b : Int))] := rfl
      have wc := t_containsI o (b : Int) hl
      repeat (first | (with_reducible refine Nx.go ?_) | ((with_reducible refine Ny.go ?_); (conv => arg 1; simp only [ev, sop, bounds, loI, hiI, fillParts, binSV, intBin, unSV, simprocAttr, ev2, ev4, cut_all, recheck, wantedS, SV.same_self, Bool.and_self]); (first | (with_reducible refine Nz.go ?_) | refine Hold_some ?_)))
      refine st_tellp (we) ⟨_, rfl, by first | omega | decide⟩ wantedS_none (by simp only [ev, sop, bounds, loI, hiI, fillParts, binSV, intBin, unSV, simprocAttr, ev2, ev4, cut_all] <;> rfl) (by first | rfl | simp [pures, SV.pure, *, pure_func, pure_ints, pure_blks, pure_insV, pure_rows, pure_tiles, pure_set, pures_set]) (by first | with_reducible exact recheck_nil | (simp only [recheck, wantedS]; simp only [ev, sop, bounds, loI, hiI, fillParts, binSV, intBin, unSV, simprocAttr, ev2, ev4, cut_all]; simp only [SV.same_self, Bool.and_self, beq_self_eq_true])) ?_
      repeat (first | (with_reducible refine Nx.go ?_) | ((with_reducible refine Ny.go ?_); (conv => arg 1; simp only [ev, sop, bounds, loI, hiI, fillParts, binSV, intBin, unSV, simprocAttr, ev2, ev4, cut_all, hc0, recheck, wantedS, SV.same_self, Bool.and_self]); (first | (with_reducible refine Nz.go ?_) | refine Hold_some ?_)))
      refine st_tellp (wc) ⟨_, rfl, by first | omega | decide⟩ wantedS_none (by simp only [ev, sop, bounds, loI, hiI, fillParts, binSV, intBin, unSV, simprocAttr, ev2, ev4, cut_all, hc0] <;> rfl) (by first | rfl | simp [pures, SV.pure, *, pure_func, pure_ints, pure_blks, pure_insV, pure_rows, pure_tiles, pure_set, pures_set]) (by first | with_reducible exact recheck_nil | (simp only [recheck, wantedS]; simp only [ev, sop, bounds, loI, hiI, fillParts, binSV, intBin, unSV, simprocAttr, ev2, ev4, cut_all, hc0]; simp only [SV.same_self, Bool.and_self, beq_self_eq_true])) ?_
      by_cases hin : (b : Int) ∈ ol o
      · rw [decide_eq_true hin] at *
        repeat (first | (with_reducible refine Nx.go ?_) | ((with_reducible refine Ny.go ?_); (conv => arg 1; simp only [ev, sop, bounds, loI, hiI, fillParts, binSV, intBin, unSV, simprocAttr, ev2, ev4, cut_all, hc0, recheck, wantedS, SV.same_self, Bool.and_self]); (first | (with_reducible refine Nz.go ?_) | refine Hold_some ?_)))
        refine st_tellp (wr) ⟨_, rfl, by first | omega | decide⟩ wantedS_none (by simp only [ev, sop, bounds, loI, hiI, fillParts, binSV, intBin, unSV, simprocAttr, ev2, ev4, cut_all] <;> rfl) (by first | rfl | simp [pures, SV.pure, *, pure_func, pure_ints, pure_blks, pure_insV, pure_rows, pure_tiles, pure_set, pures_set]) (by first | with_reducible exact recheck_nil | (simp only [recheck, wantedS]; simp only [ev, sop, bounds, loI, hiI, fillParts, binSV, intBin, unSV, simprocAttr, ev2, ev4, cut_all]; simp only [SV.same_self, Bool.and_self, beq_self_eq_true])) ?_
        repeat (first | (with_reducible refine Nx.go ?_) | ((with_reducible refine Ny.go ?_); (conv => arg 1; simp only [ev, sop, bounds, loI, hiI, fillParts, binSV, intBin, unSV, simprocAttr, ev2, ev4, recheck, wantedS, SV.same_self, Bool.and_self]); (first | (with_reducible refine Nz.go ?_) | refine Hold_some ?_)))
        (refine Hold1_of ?_; (conv => arg 1; simp only [ev, sop, bounds, loI, hiI, fillParts, binSV, intBin, unSV, simprocAttr, ev2, ev4, resultsSV, resMany, resOne]); refine Hold1_some ?_)
        first | exact frz_of_pure rfl | (rw [frz_of_pure rfl]; simp_all)
      · rw [decide_eq_false hin] at *
        repeat (first | (with_reducible refine Nx.go ?_) | ((with_reducible refine Ny.go ?_); (conv => arg 1; simp only [ev, sop, bounds, loI, hiI, fillParts, binSV, intBin, unSV, simprocAttr, ev2, ev4, cut_all, recheck, wantedS, SV.same_self, Bool.and_self]); (first | (with_reducible refine Nz.go ?_) | refine Hold_some ?_)))
        (refine Hold1_of ?_; (conv => arg 1; simp only [ev, sop, bounds, loI, hiI, fillParts, binSV, intBin, unSV, simprocAttr, ev2, ev4, resultsSV, resMany, resOne]); refine Hold1_some ?_)
        first | exact frz_of_pure rfl | (rw [frz_of_pure rfl]; simp_all)
    · rw [show intsV (nilRow ((b :: b2 :: r).map fun b : Nat => (b : Int))) = .lst (r.length + 1 + 1) 1 (((b :: b2 :: r).map fun b : Nat => (b : Int)).map SV.int) by simp [nilRow, intsV]] at we
      have hE1 : (((r.length + 1 + 1 : Nat) : Int) == 1) = false := by simp; omega
      have hE2 : ((r.length + 1 + 1 : Nat) : Int) > 1 := by omega
      repeat (first | (with_reducible refine Nx.go ?_) | ((with_reducible refine Ny.go ?_); (conv => arg 1; simp only [ev, sop, bounds, loI, hiI, fillParts, binSV, intBin, unSV, simprocAttr, ev2, ev4, cut_all, recheck, wantedS, SV.same_self, Bool.and_self]); (first | (with_reducible refine Nz.go ?_) | refine Hold_some ?_)))
      refine st_tellp (we) ⟨_, rfl, by first | omega | decide⟩ wantedS_none (by simp only [ev, sop, bounds, loI, hiI, fillParts, binSV, intBin, unSV, simprocAttr, ev2, ev4, cut_all] <;> rfl) (by first | rfl | simp [pures, SV.pure, *, pure_func, pure_ints, pure_blks, pure_insV, pure_rows, pure_tiles, pure_set, pures_set]) (by first | with_reducible exact recheck_nil | (simp only [recheck, wantedS]; simp only [ev, sop, bounds, loI, hiI, fillParts, binSV, intBin, unSV, simprocAttr, ev2, ev4, cut_all]; simp only [SV.same_self, Bool.and_self, beq_self_eq_true])) ?_
      repeat (first | (with_reducible refine Nx.go ?_) | ((with_reducible refine Ny.go ?_); (conv => arg 1; simp only [ev, sop, bounds, loI, hiI, fillParts, binSV, intBin, unSV, simprocAttr, ev2, ev4, cut_all, hE1, hE2, recheck, wantedS, SV.same_self, Bool.and_self]); (first | (with_reducible refine Nz.go ?_) | refine Hold_some ?_)))
      (refine Hold1_of ?_; (conv => arg 1; simp only [ev, sop, bounds, loI, hiI, fillParts, binSV, intBin, unSV, simprocAttr, ev2, ev4, resultsSV, resMany, resOne]); refine Hold1_some ?_)
      first | exact frz_of_pure rfl | (rw [frz_of_pure rfl]; simp_all)
  have k4' : (kind == 4) = false := by simpa using k4
  rcases M with _ | ⟨b, _ | ⟨b2, r⟩⟩
  · have we : Tells _ _ (.sc .nilsl) := we
    repeat (first | (with_reducible refine Nx.go ?_) | ((with_reducible refine Ny.go ?_); (conv => arg 1; simp only [ev, sop, bounds, loI, hiI, fillParts, binSV, intBin, unSV, simprocAttr, ev2, ev4, cut_all, recheck, wantedS, SV.same_self, Bool.and_self]); (first | (with_reducible refine Nz.go ?_) | refine Hold_some ?_)))
    refine st_tellp (we) ⟨_, rfl, by first | omega | decide⟩ wantedS_none (by simp only [ev, sop, bounds, loI, hiI, fillParts, binSV, intBin, unSV, simprocAttr, ev2, ev4, cut_all] <;> rfl) (by first | rfl | simp [pures, SV.pure, *, pure_func, pure_ints, pure_blks, pure_insV, pure_rows, pure_tiles, pure_set, pures_set]) (by first | with_reducible exact recheck_nil | (simp only [recheck, wantedS]; simp only [ev, sop, bounds, loI, hiI, fillParts, binSV, intBin, unSV, simprocAttr, ev2, ev4, cut_all]; simp only [SV.same_self, Bool.and_self, beq_self_eq_true])) ?_
    repeat (first | (with_reducible refine Nx.go ?_) | ((with_reducible refine Ny.go ?_); (conv => arg 1; simp only [ev, sop, bounds, loI, hiI, fillParts, binSV, intBin, unSV, simprocAttr, ev2, ev4, cut_all, k1', k2', k3', k4', recheck, wantedS, SV.same_self, Bool.and_self]); (first | (with_reducible refine Nz.go ?_) | refine Hold_some ?_)))
    (refine Hold1_of ?_; (conv => arg 1; simp only [ev, sop, bounds, loI, hiI, fillParts, binSV, intBin, unSV, simprocAttr, ev2, ev4, resultsSV, resMany, resOne]); refine Hold1_some ?_)
    first | exact frz_of_pure rfl | (rw [frz_of_pure rfl]; simp_all)
  · have hb200 := hm b (by simp)
    have we : Tells _ _ (.lst 1 1 [.sc (.int .i64 (b : Int))]) := we
    have hc0 : cut [SV.sc (.int .i64 (b : Int))] 0 1 = some [.sc (.int .i64 (b : Int))] := rfl
    have wc := t_containsI o (b : Int) hl
    repeat (first | (with_reducible refine Nx.go ?_) | ((with_reducible refine Ny.go ?_); (conv => arg 1; simp only [ev, sop, bounds, loI, hiI, fillParts, binSV, intBin, unSV, simprocAttr, ev2, ev4, cut_all, recheck, wantedS, SV.same_self, Bool.and_self]); (first | (with_reducible refine Nz.go ?_) | refine Hold_some ?_)))
    refine st_tellp (we) ⟨_, rfl, by first | omega | decide⟩ wantedS_none (by simp only [ev, sop, bounds, loI, hiI, fillParts, binSV, intBin, unSV, simprocAttr, ev2, ev4, cut_all] <;> rfl) (by first | rfl | simp [pures, SV.pure, *, pure_func, pure_ints, pure_blks, pure_insV, pure_rows, pure_tiles, pure_set, pures_set]) (by first | with_reducible exact recheck_nil | (simp only [recheck, wantedS]; simp only [ev, sop, bounds, loI, hiI, fillParts, binSV, intBin, unSV, simprocAttr, ev2, ev4, cut_all]; simp only [SV.same_self, Bool.and_self, beq_self_eq_true])) ?_
    repeat (first | (with_reducible refine Nx.go ?_) | ((with_reducible refine Ny.go ?_); (conv => arg 1; simp only [ev, sop, bounds, loI, hiI, fillParts, binSV, intBin, unSV, simprocAttr, ev2, ev4, cut_all, hc0, recheck, wantedS, SV.same_self, Bool.and_self]); (first | (with_reducible refine Nz.go ?_) | refine Hold_some ?_)))
    refine st_tellp (wc) ⟨_, rfl, by first | omega | decide⟩ wantedS_none (by simp only [ev, sop, bounds, loI, hiI, fillParts, binSV, intBin, unSV, simprocAttr, ev2, ev4, cut_all, hc0] <;> rfl) (by first | rfl | simp [pures, SV.pure, *, pure_func, pure_ints, pure_blks, pure_insV, pure_rows, pure_tiles, pure_set, pures_set]) (by first | with_reducible exact recheck_nil | (simp only [recheck, wantedS]; simp only [ev, sop, bounds, loI, hiI, fillParts, binSV, intBin, unSV, simprocAttr, ev2, ev4, cut_all, hc0]; simp only [SV.same_self, Bool.and_self, beq_self_eq_true])) ?_
    by_cases hin : (b : Int) ∈ ol o
    · rw [decide_eq_true hin] at *
      repeat (first | (with_reducible refine Nx.go ?_) | ((with_reducible refine Ny.go ?_); (conv => arg 1; simp only [ev, sop, bounds, loI, hiI, fillParts, binSV, intBin, unSV, simprocAttr, ev2, ev4, cut_all, hc0, k1', k2', k3', k4', recheck, wantedS, SV.same_self, Bool.and_self]); (first | (with_reducible refine Nz.go ?_) | refine Hold_some ?_)))
      (refine Hold1_of ?_; (conv => arg 1; simp only [ev, sop, bounds, loI, hiI, fillParts, binSV, intBin, unSV, simprocAttr, ev2, ev4, resultsSV, resMany, resOne]); refine Hold1_some ?_)
      first | exact frz_of_pure rfl | (rw [frz_of_pure rfl]; simp_all)
    · rw [decide_eq_false hin] at *
      repeat (first | (with_reducible refine Nx.go ?_) | ((with_reducible refine Ny.go ?_); (conv => arg 1; simp only [ev, sop, bounds, loI, hiI, fillParts, binSV, intBin, unSV, simprocAttr, ev2, ev4, cut_all, k1', k2', k3', k4', recheck, wantedS, SV.same_self, Bool.and_self]); (first | (with_reducible refine Nz.go ?_) | refine Hold_some ?_)))
      (refine Hold1_of ?_; (conv => arg 1; simp only [ev, sop, bounds, loI, hiI, fillParts, binSV, intBin, unSV, simprocAttr, ev2, ev4, resultsSV, resMany, resOne]); refine Hold1_some ?_)
      first | exact frz_of_pure rfl | (rw [frz_of_pure rfl]; simp_all)
  · rw [show intsV (nilRow ((b :: b2 :: r).map fun b : Nat => (b : Int))) = .lst (r.length + 1 + 1) 1 (((b :: b2 :: r).map fun b : Nat => (b : Int)).map SV.int) by simp [nilRow, intsV]] at we
    have hE1 : (((r.length + 1 + 1 : Nat) : Int) == 1) = false := by simp; omega
    have hE2 : ((r.length + 1 + 1 : Nat) : Int) > 1 := by omega
    repeat (first | (with_reducible refine Nx.go ?_) | ((with_reducible refine Ny.go ?_); (conv => arg 1; simp only [ev, sop, bounds, loI, hiI, fillParts, binSV, intBin, unSV, simprocAttr, ev2, ev4, cut_all, recheck, wantedS, SV.same_self, Bool.and_self]); (first | (with_reducible refine Nz.go ?_) | refine Hold_some ?_)))
    refine st_tellp (we) ⟨_, rfl, by first | omega | decide⟩ wantedS_none (by simp only [ev, sop, bounds, loI, hiI, fillParts, binSV, intBin, unSV, simprocAttr, ev2, ev4, cut_all] <;> rfl) (by first | rfl | simp [pures, SV.pure, *, pure_func, pure_ints, pure_blks, pure_insV, pure_rows, pure_tiles, pure_set, pures_set]) (by first | with_reducible exact recheck_nil | (simp only [recheck, wantedS]; simp only [ev, sop, bounds, loI, hiI, fillParts, binSV, intBin, unSV, simprocAttr, ev2, ev4, cut_all]; simp only [SV.same_self, Bool.and_self, beq_self_eq_true])) ?_
    repeat (first | (with_reducible refine Nx.go ?_) | ((with_reducible refine Ny.go ?_); (conv => arg 1; simp only [ev, sop, bounds, loI, hiI, fillParts, binSV, intBin, unSV, simprocAttr, ev2, ev4, cut_all, hE1, hE2, k1', k2', k3', k4', recheck, wantedS, SV.same_self, Bool.and_self]); (first | (with_reducible refine Nz.go ?_) | refine Hold_some ?_)))
    (refine Hold1_of ?_; (conv => arg 1; simp only [ev, sop, bounds, loI, hiI, fillParts, binSV, intBin, unSV, simprocAttr, ev2, ev4, resultsSV, resMany, resOne]); refine Hold1_some ?_)
    first | exact frz_of_pure rfl | (rw [frz_of_pure rfl]; simp_all)
end Go.Proofs.Ytojjhcgbbmknmaa.Sh

/- A number repeated; whose own each block is. -/
namespace Go.Proofs.Ytojjhcgbbmknmaa.Sh
set_option linter.unusedSimpArgs false
set_option linter.unusedVariables false
open Go Go.Proofs

theorem mul_all : (List.range 201).all (mulOK 95) = true := by kernel_rfl
theorem t_mul {n : Nat} (h : n ≤ 200) : Tells 95 [.sc (.int .u64 1), .sc (.int .u64 (n : Int))] (.tup [.sc (.int .u64 0), .sc (.int .u64 (n : Int))]) :=
  tells_mul rfl (List.all_eq_true.1 mul_all n (List.mem_range.2 (by omega)))

def repCells (n b : Nat) : List SV := List.replicate b (.sc (.int .i64 (-1))) ++ List.replicate (n - b) (.sc (.int .i64 0))
theorem repCells_len {n b : Nat} (h : b ≤ n) : (repCells n b).length = n := by simp [repCells]; omega
theorem repCells_zero (n : Nat) : repCells n 0 = List.replicate n (.sc (.int .i64 0)) := by simp [repCells]
theorem repCells_all (n : Nat) : repCells n n = List.replicate n (.sc (.int .i64 (-1))) := by simp [repCells]
theorem repCells_paste {n b c : Nat} (h : b + c ≤ n) : paste (repCells n b) b (List.replicate c (.sc (.int .i64 (-1)))) = repCells n (b + c) := by
  rw [paste_def]
  unfold repCells
  rw [List.take_append_of_le_length (by simp), List.take_of_length_le (by simp), List.length_replicate, List.drop_append, List.drop_eq_nil_of_le (by simp)]
  simp only [List.length_replicate, List.nil_append, List.drop_replicate]
  rw [List.replicate_append_replicate, show n - b - (b + c - b) = n - (b + c) by omega]
theorem repCells_take {n b c : Nat} (h : c ≤ b) (hb : b ≤ n) : cut (repCells n b) 0 c = some (List.replicate c (.sc (.int .i64 (-1)))) := by
  rw [cut_eq' (by rw [repCells_len hb]; omega), List.drop_zero]
  unfold repCells
  rw [List.take_append_of_le_length (by simp; omega), List.take_replicate, Nat.min_eq_left h]

set_option maxHeartbeats 2000000 in
theorem c_repeat {m id n : Nat} {σ : St} (hm : 0 < m) (h1 : 1 ≤ n) (h2 : n ≤ 200) (hid : id < σ.next) (hc : cellsOf σ id = some [.sc (.int .i64 (-1))]) :
    WPF (EV m) 69 [.sl id 0 1 1, .sc (.int .i64 n)] σ (fun v σ' => v = .sl σ.next 0 n 1 ∧ Keeps σ σ' ∧ σ.next < σ'.next ∧ cellsOf σ' σ.next = some (List.replicate n (.sc (.int .i64 (-1))))) := by
  refine inline_fn rfl rfl rfl rfl ?_
  have w1 : IntKind.u64.wrap 1 = 1 := by decide
  have w2 : IntKind.u64.wrap (n : Int) = (n : Int) := by simp [IntKind.wrap, IntKind.bits, IntKind.signed]; omega
  have w3 : IntKind.i64.wrap (n : Int) = (n : Int) := i64_in _ (by omega) (by omega)
  have hm1 : (n : Int) * 8 ≤ 1099511627776 := by omega
  have hm2 : (n : Int) ≤ 1099511627776 := by omega
  have hn0 : ¬ (n : Int) < 0 := by omega
  have hn1 : ¬ (n : Int) > 9223372036854775807 := by omega
  have hid' : (id = σ.next) = False := by simp; omega
  have hmin : Nat.min 1 n = 1 := by simp [Nat.min_def]; omega
  have hfr : (List.replicate n [SV.sc (.int .i64 0)]).flatten = repCells n 0 := by rw [repCells_zero]; exact flat_rep _
  have hp1 : paste (repCells n 0) 0 [.sc (.int .i64 (-1))] = repCells n 1 := repCells_paste (b := 0) (c := 1) (by omega)
  have hcl := repCells_len (n := n) (b := 0) (by omega)
  repeat (first | (with_reducible refine Nx.go ?_) | ((with_reducible refine Ny.go ?_); (conv => arg 1; simp only [ev, sop, bounds, loI, hiI, fillParts, binSV, intBin, unSV, simprocAttr, ev2, ev4, hn0, w1, w2, recheck, wantedS, SV.same_self, Bool.and_self]); (first | (with_reducible refine Nz.go ?_) | refine Hold_some ?_)))
  refine st_tellp (t_mul h2) ⟨_, rfl, by omega⟩ (by first | with_reducible exact wantedS_none | (refine wantedS_some ?_; simp only [ev, sop, bounds, loI, hiI, fillParts, binSV, intBin, unSV, simprocAttr, ev2, ev4]; done)) (by simp only [ev, sop, bounds, loI, hiI, fillParts, binSV, intBin, unSV, simprocAttr, ev2, ev4, w1, w2] <;> rfl) (by rfl) (by with_reducible exact recheck_nil) ?_
  repeat (first | (with_reducible refine Nx.go ?_) | ((with_reducible refine Ny.go ?_); (conv => arg 1; simp only [ev, sop, bounds, loI, hiI, fillParts, binSV, intBin, unSV, simprocAttr, ev2, ev4, hn1, w3, hm1, hm2, hfr, hc, hid', h1, hcl, hmin, hp1, recheck, wantedS, SV.same_self, Bool.and_self]); (first | (with_reducible refine Nz.go ?_) | refine Hold_some ?_)))
  refine WP_blockloop (fun q t σ' => ∃ b, q = n - b ∧ 1 ≤ b ∧ b ≤ n ∧ getT t 7 = .sl σ.next 0 n 1 ∧ getT t 8 = .sc (.int .i64 (b : Int)) ∧ Keeps σ σ' ∧ σ.next < σ'.next ∧ cellsOf σ' σ.next = some (repCells n b)) (k0 := n - 1)
    ⟨1, rfl, by omega, h1, by simp only [ev, sop, bounds, loI, hiI, fillParts, binSV, intBin, unSV, simprocAttr, ev2, ev4], by simp only [ev, sop, bounds, loI, hiI, fillParts, binSV, intBin, unSV, simprocAttr, ev2, ev4], ((Keeps.refl _).push _).set _ (by omega), by simp [next_push, next_set], by simp (disch := first | omega | (simp only [nx_push, nx_set]; done) | (simp only [nx_push, nx_set]; omega)) only [cells_push_ne, cells_push_eq, cells_set_ne, cells_set_eq]⟩ ?_
  rintro q t σ' ⟨b, rfl, hb1, hbn, g7, g8, hk, hnx, hcs⟩
  by_cases hlt : b < n
  · have hlt' : (b : Int) < (n : Int) := by omega
    have hle' : (b : Int) ≤ (n : Int) := by omega
    have hb0 : 0 ≤ (b : Int) := by omega
    have ht1 := repCells_take (n := n) (b := b) (c := b) (by omega) hbn
    have hlen := repCells_len hbn
    have hfit : b + (n - b) ≤ n := by omega
    obtain ⟨c, hc⟩ : ∃ c, c = Nat.min b (n - b) := ⟨_, rfl⟩
    have hc1 : 1 ≤ c ∧ c ≤ b ∧ b + c ≤ n := by rw [hc]; simp only [Nat.min_def]; split <;> omega
    have htk : (List.replicate b (SV.sc (.int .i64 (-1)))).take c = List.replicate c (.sc (.int .i64 (-1))) := by rw [List.take_replicate, Nat.min_eq_left hc1.2.1]
    have hpp := repCells_paste (n := n) (b := b) (c := c) hc1.2.2
    have hw : IntKind.i64.wrap ((b : Int) + (c : Int)) = ((b + c : Nat) : Int) := by rw [i64_in _ (by omega) (by omega)]; rfl
    repeat (first | (with_reducible refine Nx.go ?_) | ((with_reducible refine Ny.go ?_); (conv => arg 1; simp only [ev, sop, bounds, loI, hiI, fillParts, binSV, intBin, unSV, simprocAttr, ev2, ev4, g7, g8, hlt', hle', hb0, hcs, ht1, hlen, hfit, hbn, ← hc, List.length_replicate, htk, hpp, hw, recheck, wantedS, SV.same_self, Bool.and_self]); (first | (with_reducible refine Nz.go ?_) | refine Hold_some ?_)))
    refine ⟨n - (b + c), by omega, b + c, rfl, by omega, by omega, by simp only [ev, sop, bounds, loI, hiI, fillParts, binSV, intBin, unSV, simprocAttr, ev2, ev4, g7], by simp only [ev, sop, bounds, loI, hiI, fillParts, binSV, intBin, unSV, simprocAttr, ev2, ev4], hk.set _ (Nat.le_refl _), by simpa [next_set] using hnx, by simp (disch := first | omega | (simp only [nx_push, nx_set]; done) | (simp only [nx_push, nx_set]; omega)) only [cells_push_ne, cells_push_eq, cells_set_ne, cells_set_eq]⟩
  · have hlt' : ¬ (b : Int) < (n : Int) := by omega
    have : b = n := by omega
    subst this
    repeat (first | (with_reducible refine Nx.go ?_) | ((with_reducible refine Ny.go ?_); (conv => arg 1; simp only [ev, sop, bounds, loI, hiI, fillParts, binSV, intBin, unSV, simprocAttr, ev2, ev4, g7, g8, hlt', recheck, wantedS, SV.same_self, Bool.and_self]); (first | (with_reducible refine Nz.go ?_) | refine Hold_some ?_)))
    (refine Hold1_of ?_; (conv => arg 1; simp only [ev, sop, bounds, loI, hiI, fillParts, binSV, intBin, unSV, simprocAttr, ev2, ev4, g7, resultsSV, resMany, resOne]); refine Hold1_some ?_)
    exact ⟨rfl, hk, hnx, by rw [hcs, repCells_all]⟩
end Go.Proofs.Ytojjhcgbbmknmaa.Sh
