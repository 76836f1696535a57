/- Where ways lead: the walk. -/
import Derived.Test.YtojjhcgbbmknmaaShT2
namespace Go.Proofs.Ytojjhcgbbmknmaa.Sh
set_option linter.unusedSimpArgs false
set_option linter.unusedVariables false
open Go Go.Proofs

def rowsV (ls : List (Option (List Int))) : SV := .lst ls.length 1 (ls.map intsV)
theorem pure_rows (ls : List (Option (List Int))) : (rowsV ls).pure = true := by
  show pures _ = true
  rw [pures_iff]; intro c hc; obtain ⟨x, _, rfl⟩ := List.mem_map.1 hc; exact pure_ints x
/-- An edge from a row to a number of its. -/
def Edg (next : List (Option (List Int))) (x y : Nat) : Prop := ∃ l, next[x]? = some l ∧ (y : Int) ∈ ol l
/-- Where ways of one edge or more lead to, within some. -/
inductive Way (inS : Nat → Bool) (next : List (Option (List Int))) (b : Nat) : Nat → Prop
  | one {y : Nat} : Edg next b y → inS y = true → Way inS next b y
  | more {x y : Nat} : Way inS next b x → Edg next x y → inS y = true → Way inS next b y
noncomputable def wayS (inS : Nat → Bool) (next : List (Option (List Int))) (b : Nat) : Nat → Bool := fun y => @decide (inS b = true ∧ Way inS next b y) (Classical.propDecidable _)
theorem wayS_iff {inS : Nat → Bool} {next : List (Option (List Int))} {b y : Nat} : wayS inS next b y = true ↔ inS b = true ∧ Way inS next b y := by
  unfold wayS; exact @decide_eq_true_iff _ (Classical.propDecidable _)
/-- One more. -/
def upd (s : Nat → Bool) (y : Nat) : Nat → Bool := fun j => if j = y then true else s j
theorem upd_eq {s : Nat → Bool} {y : Nat} : upd s y y = true := by simp [upd]
theorem upd_ne {s : Nat → Bool} {y j : Nat} (h : j ≠ y) : upd s y j = s j := by simp [upd, h]
/-- How many are not there yet. -/
def unset (s : Nat → Bool) : Nat := ((List.range 200).filter fun i => !s i).length
theorem unset_le (s : Nat → Bool) : unset s ≤ 200 := by unfold unset; have := List.length_filter_le (fun i => !s i) (List.range 200); simpa using this
theorem unset_set {s : Nat → Bool} {y : Nat} (h : y < 200) (hs : s y = false) : unset (upd s y) + 1 = unset s := by
  unfold unset
  have key : ∀ (l : List Nat), l.Nodup → y ∈ l → (l.filter fun i => !(upd s y i)).length + 1 = (l.filter fun i => !s i).length := by
    intro l
    induction l with
    | nil => intro _ h; simp at h
    | cons x r ih =>
      intro hn hm
      obtain ⟨hx, hr⟩ := List.nodup_cons.1 hn
      rw [List.filter_cons, List.filter_cons]
      by_cases e : x = y
      · subst e
        have : (r.filter fun i => !(upd s x i)) = r.filter fun i => !s i := by
          apply List.filter_congr
          intro i hi
          rw [upd_ne (fun e => hx (by rw [← e]; exact hi))]
        rw [this, upd_eq, hs]
        simp
      · have hm : y ∈ r := by
          rcases List.mem_cons.1 hm with e' | h
          · exact absurd e'.symm e
          · exact h
        have := ih hr hm
        rw [upd_ne e]
        cases s x <;> simp <;> omega
  exact key _ List.nodup_range (List.mem_range.2 h)

theorem t_whole {ps bs to from_ : SV} {n : Nat} (hp : pures [ps, bs, to, from_] = true) (hn : lenSV bs = some n) (h200 : n ≤ 200) : Tells 51 [.agg [ps, bs, to, from_]] (setV (fun i => decide (i < n))) := by
  refine tells_fn rfl rfl rfl ?_
  rw [setCells_none]
  repeat (first | (with_reducible refine Nx.go ?_) | ((with_reducible refine Ny.go ?_); (conv => arg 1; simp only [ev, sop, bounds, loI, hiI, fillParts, binSV, intBin, unSV, simprocAttr, hn, recheck, wantedS, SV.same_self, Bool.and_self]); (first | (with_reducible refine Nz.go ?_) | refine Hold_some ?_)))
  refine WP_range (N := n) (fun k t σ1 => getT t 2 = .ptr 1 0 ∧ cellsOf σ1 1 = some (setCells (fun j => decide (j < k)))) (by omega) (by simp only [ev, sop, bounds, loI, hiI, fillParts, binSV, intBin, unSV, simprocAttr]) (by simp only [ev, sop, bounds, loI, hiI, fillParts, binSV, intBin, unSV, simprocAttr]) (by decide) ⟨by simp only [ev, sop, bounds, loI, hiI, fillParts, binSV, intBin, unSV, simprocAttr], by simp only [ev, sop, bounds, loI, hiI, fillParts, binSV, intBin, unSV, simprocAttr, Nat.reduceEqDiff, Nat.not_lt_zero]⟩ ?_ ?_
  · rintro k t σ1 hlt h7 h8 ⟨h2, hc⟩
    have hk : k < 200 := by omega
    have hk' : (k : Int) < 200 := by omega
    have hk2 : k + 1 ≤ 200 := by omega
    repeat (first | (with_reducible refine Nx.go ?_) | ((with_reducible refine Ny.go ?_); (conv => arg 1; simp only [ev, sop, bounds, loI, hiI, fillParts, binSV, intBin, unSV, simprocAttr, h2, h8, hc, hk, hk', hk2, setCells_len, paste_set true hk, recheck, wantedS, SV.same_self, Bool.and_self]); (first | (with_reducible refine Nz.go ?_) | refine Hold_some ?_)))
    refine ⟨by simp only [ev, sop, bounds, loI, hiI, fillParts, binSV, intBin, unSV, simprocAttr, h7], by simp only [ev, sop, bounds, loI, hiI, fillParts, binSV, intBin, unSV, simprocAttr, h8], fun v w => ⟨by simp only [ev, sop, bounds, loI, hiI, fillParts, binSV, intBin, unSV, simprocAttr, h2], ?_⟩⟩
    simp only [ev, sop, bounds, loI, hiI, fillParts, binSV, intBin, unSV, simprocAttr]
    congr 1
    refine setCells_congr fun j hj => ?_
    by_cases e : j = k
    · subst e; simp
    · simp [e]; omega
  · rintro t σ1 ⟨h2, hc⟩
    repeat (first | (with_reducible refine Nx.go ?_) | ((with_reducible refine Ny.go ?_); (conv => arg 1; simp only [ev, sop, bounds, loI, hiI, fillParts, binSV, intBin, unSV, simprocAttr, h2, hc, cut_all, setCells_len, paste_all, recheck, wantedS, SV.same_self, Bool.and_self]); (first | (with_reducible refine Nz.go ?_) | refine Hold_some ?_)))
    (refine Hold1_of ?_; (conv => arg 1; simp only [ev, sop, bounds, loI, hiI, fillParts, binSV, intBin, unSV, simprocAttr, h2, cut_all, resultsSV, resMany, resOne]); refine Hold1_some ?_)
    exact frz_of_pure (pure_set _)

/-- What holds while the walk goes on. -/
structure WalkI (inS : Nat → Bool) (next : List (Option (List Int))) (b : Nat) (skip : Option Nat) (s : Nat → Bool) (todo : List Nat) : Prop where
  way : ∀ y, s y = true → Way inS next b y
  closed : ∀ x, (x = b ∨ s x = true) → x ∈ todo ∨ some x = skip ∨ ∀ y, Edg next x y → inS y = true → s y = true
  from_ : ∀ x ∈ todo, x = b ∨ s x = true

theorem WalkI.done {inS : Nat → Bool} {next : List (Option (List Int))} {b : Nat} {s : Nat → Bool} (hb : inS b = true) (h : WalkI inS next b none s []) : ∀ y, s y = wayS inS next b y := by
  have key : ∀ y, Way inS next b y → s y = true := by
    intro y hy
    induction hy with
    | one e i =>
      rcases h.closed b (.inl rfl) with h1 | h1 | h1
      · simp at h1
      · cases h1
      · exact h1 _ e i
    | more _ e i ih =>
      rcases h.closed _ (.inr ih) with h1 | h1 | h1
      · simp at h1
      · cases h1
      · exact h1 _ e i
  intro y
  rw [Bool.eq_iff_iff, wayS_iff]
  exact ⟨fun hy => ⟨hb, h.way y hy⟩, fun e => key y e.2⟩

theorem WalkI.pop {inS : Nat → Bool} {next : List (Option (List Int))} {b x : Nat} {s : Nat → Bool} {init : List Nat} (h : WalkI inS next b none s (init ++ [x])) : WalkI inS next b (some x) s init := by
  refine ⟨h.way, fun z hz => ?_, fun z hz => h.from_ z (by simp [hz])⟩
  rcases h.closed z hz with h1 | h1 | h1
  · rcases List.mem_append.1 h1 with h2 | h2
    · exact .inl h2
    · simp at h2; exact .inr (.inl (by rw [h2]))
  · cases h1
  · exact .inr (.inr h1)
theorem WalkI.add {inS : Nat → Bool} {next : List (Option (List Int))} {b x y : Nat} {s : Nat → Bool} {todo : List Nat} (h : WalkI inS next b (some x) s todo) (hx : x = b ∨ s x = true) (he : Edg next x y) (hy : inS y = true) : WalkI inS next b (some x) (upd s y) (todo ++ [y]) := by
  have mono : ∀ z, s z = true → upd s y z = true := fun z hz => by simp [upd, hz]
  refine ⟨fun z hz => ?_, fun z hz => ?_, fun z hz => ?_⟩
  · by_cases e : z = y
    · subst e
      rcases hx with rfl | hx
      · exact .one he hy
      · exact .more (h.way x hx) he hy
    · rw [upd_ne e] at hz; exact h.way z hz
  · by_cases e : z = y
    · exact .inl (by simp [e])
    · rw [upd_ne e] at hz
      rcases h.closed z hz with h1 | h1 | h1
      · exact .inl (by simp [h1])
      · exact .inr (.inl h1)
      · exact .inr (.inr fun u hu hi => mono _ (h1 u hu hi))
  · rcases List.mem_append.1 hz with h1 | h1
    · exact (h.from_ z h1).imp id (mono z)
    · simp at h1; subst h1; exact .inr upd_eq
theorem WalkI.close {inS : Nat → Bool} {next : List (Option (List Int))} {b x : Nat} {s : Nat → Bool} {todo : List Nat} (h : WalkI inS next b (some x) s todo) (hc : ∀ y, Edg next x y → inS y = true → s y = true) : WalkI inS next b none s todo := by
  refine ⟨h.way, fun z hz => ?_, h.from_⟩
  rcases h.closed z hz with h1 | h1 | h1
  · exact .inl h1
  · cases h1; exact .inr (.inr hc)
  · exact .inr (.inr h1)

set_option maxHeartbeats 2000000 in
theorem t_walk {w : List SV} {inS : Nat → Bool} {next : List (Option (List Int))} {b : Nat} (hw : pures w = true) (hw4 : w.length = 4) (hb : b < next.length) (h200 : next.length ≤ 200) (hnx : ∀ l ∈ next, (ol l).length ≤ 2 ^ 40 ∧ ∀ y ∈ ol l, 0 ≤ y ∧ y < (next.length : Int)) :
    Tells 68 [.agg w, .sc (.int .i64 b), setV inS, rowsV next] (setV (wayS inS next b)) := by
  refine tells_fn rfl rfl rfl ?_
  unfold setV
  rw [setCells_none]
  have hb2 : b < 200 := by omega
  have hb3 : (b : Int) < 200 := by omega
  have hcb := cut_set (f := inS) hb2
  by_cases hin : inS b = true
  · repeat (first | (with_reducible refine Nx.go ?_) | ((with_reducible refine Ny.go ?_); (conv => arg 1; simp only [ev, sop, bounds, loI, hiI, fillParts, binSV, intBin, unSV, simprocAttr, hb2, hb3, hcb, hin, recheck, wantedS, SV.same_self, Bool.and_self]); (first | (with_reducible refine Nz.go ?_) | refine Hold_some ?_)))
    refine WP_blockloop (fun k t σ1 => ∃ (todo : List Nat) (s : Nat → Bool) (id : Nat) (cs : List SV), k = todo.length + unset s ∧ todo.length + unset s ≤ 201 ∧ WalkI inS next b none s todo ∧ (∀ x ∈ todo, x < next.length) ∧
      getT t 3 = rowsV next ∧ getT t 6 = .ptr 1 0 ∧ getT t 8 = .ptr 2 0 ∧ getT t 9 = .sl id 0 todo.length 1 ∧ 3 ≤ id ∧ id < σ1.next ∧ cellsOf σ1 1 = some (setCells inS) ∧ cellsOf σ1 2 = some (setCells s) ∧ cellsOf σ1 id = some cs ∧ cut cs 0 todo.length = some (natCells todo))
      (k0 := 1 + unset fun _ => false) ⟨[b], fun _ => false, 3, [.sc (.int .i64 b)], by simp, by have := unset_le (fun _ => false); simp; omega, ⟨by simp, ?_, by simp⟩, by simpa using hb, by simp only [ev, sop, bounds, loI, hiI, fillParts, binSV, intBin, unSV, simprocAttr], by simp only [ev, sop, bounds, loI, hiI, fillParts, binSV, intBin, unSV, simprocAttr], by simp only [ev, sop, bounds, loI, hiI, fillParts, binSV, intBin, unSV, simprocAttr], by simp only [ev, sop, bounds, loI, hiI, fillParts, binSV, intBin, unSV, simprocAttr], by omega, by simp only [ev, sop, bounds, loI, hiI, fillParts, binSV, intBin, unSV, simprocAttr] <;> omega, by simp only [ev, sop, bounds, loI, hiI, fillParts, binSV, intBin, unSV, simprocAttr], by simp only [ev, sop, bounds, loI, hiI, fillParts, binSV, intBin, unSV, simprocAttr], by simp only [ev, sop, bounds, loI, hiI, fillParts, binSV, intBin, unSV, simprocAttr], by simp [cut_def, natCells]⟩ ?_
    · intro x hx
      simp at hx
      exact .inl (by simp [hx])
    rintro k t σ1 ⟨todo, s, id, cs, rfl, hK, hI, htd, h3, h6, h8, h9, hid, hlt, hc1, hc2, hcs, hcut⟩
    by_cases hemp : todo = []
    · subst hemp
      repeat (first | (with_reducible refine Nx.go ?_) | ((with_reducible refine Ny.go ?_); (conv => arg 1; simp only [ev, sop, bounds, loI, hiI, fillParts, binSV, intBin, unSV, simprocAttr, h9, Int.lt_irrefl, gt_iff_lt, h8, hc2, cut_all, paste_all, setCells_len, recheck, wantedS, SV.same_self, Bool.and_self]); (first | (with_reducible refine Nz.go ?_) | refine Hold_some ?_)))
      (refine Hold1_of ?_; (conv => arg 1; simp only [ev, sop, bounds, loI, hiI, fillParts, binSV, intBin, unSV, simprocAttr, h8, cut_all, resultsSV, resMany, resOne]); refine Hold1_some ?_)
      rw [frz_setc]
      exact congrArg (fun l => some (SV.agg l)) (setCells_congr fun i _ => hI.done hin i)
    obtain ⟨init, x, rfl⟩ := concat_of_ne hemp
    have hx : x < next.length := htd x (by simp)
    obtain ⟨l, hl⟩ := get_of_lt hx
    obtain ⟨hl40, hly⟩ := hnx l (List.mem_of_getElem? hl)
    have hpos : (0 : Int) < ((init.length + 1 : Nat) : Int) := by omega
    have hw1 : IntKind.i64.wrap (((init.length + 1 : Nat) : Int) - 1) = (init.length : Int) := by
      have := hK; simp at this; rw [i64_in _ (by omega) (by omega)]; omega
    have hcx := cut_get hcut (i := init.length) (natCells_get (x := x) (by simp))
    rw [Nat.zero_add] at hcx
    have hcl := cut_one (cs := next.map intsV) (i := x) (x := intsV l) (by simp [hl])
    have hlen1 : init.length < init.length + 1 := by omega
    have hle1 : init.length ≤ init.length + 1 := by omega
    unfold rowsV at h3
    repeat (first | (with_reducible refine Nx.go ?_) | ((with_reducible refine Ny.go ?_); (conv => arg 1; simp only [ev, sop, bounds, loI, hiI, fillParts, binSV, intBin, unSV, simprocAttr, h9, hpos, gt_iff_lt, hw1, hlen1, hle1, hcs, hcx, h3, hx, hcl, lenSV_ints, recheck, wantedS, SV.same_self, Bool.and_self]); (first | (with_reducible refine Nz.go ?_) | refine Hold_some ?_)))
    have hxb := hI.from_ x (by simp)
    have hvl : intsV l = .lst (ol l).length 1 ((ol l).map SV.int) ∨ ol l = [] := by cases l <;> simp [intsV, ol]
    refine WP_range (N := (ol l).length) (fun k t σ1 => ∃ (todo : List Nat) (s' : Nat → Bool) (id : Nat) (cs : List SV), todo.length + unset s' = init.length + unset s ∧ WalkI inS next b (some x) s' todo ∧ (∀ x ∈ todo, x < next.length) ∧ (x = b ∨ s' x = true) ∧
      (∀ (j y : Nat), j < k → (ol l)[j]? = some (y : Int) → inS y = true → s' y = true) ∧
      getT t 3 = rowsV next ∧ getT t 6 = .ptr 1 0 ∧ getT t 8 = .ptr 2 0 ∧ getT t 9 = .sl id 0 todo.length 1 ∧ getT t 37 = intsV l ∧ 3 ≤ id ∧ id < σ1.next ∧ cellsOf σ1 1 = some (setCells inS) ∧ cellsOf σ1 2 = some (setCells s') ∧ cellsOf σ1 id = some cs ∧ cut cs 0 todo.length = some (natCells todo))
      (by omega) (by simp only [ev, sop, bounds, loI, hiI, fillParts, binSV, intBin, unSV, simprocAttr]) (by simp only [ev, sop, bounds, loI, hiI, fillParts, binSV, intBin, unSV, simprocAttr]) (by decide) ⟨init, s, id, cs, rfl, hI.pop, fun z hz => htd z (by simp [hz]), hxb, by simp, by simp only [ev, sop, bounds, loI, hiI, fillParts, binSV, intBin, unSV, simprocAttr, h3]; rfl, by simp only [ev, sop, bounds, loI, hiI, fillParts, binSV, intBin, unSV, simprocAttr, h6], by simp only [ev, sop, bounds, loI, hiI, fillParts, binSV, intBin, unSV, simprocAttr, h8], by simp only [ev, sop, bounds, loI, hiI, fillParts, binSV, intBin, unSV, simprocAttr], by simp only [ev, sop, bounds, loI, hiI, fillParts, binSV, intBin, unSV, simprocAttr], hid, hlt, hc1, hc2, hcs, ?_⟩ ?_ ?_
    · have := cut_less hcut (m := init.length) (by simp)
      rw [this, natCells_append, List.take_left' (by simp [natCells])]
    · rintro k t σ1 hk h38 h39 ⟨todo, s', id, cs, hM, hI, htd, hxb, hdone, h3, h6, h8, h9, h37, hid, hlt, hc1, hc2, hcs, hcut⟩
      obtain ⟨y, hy⟩ := get_of_lt hk
      obtain ⟨hy0, hyn⟩ := hly y (List.mem_of_getElem? hy)
      obtain ⟨y, rfl⟩ := Int.eq_ofNat_of_zero_le hy0
      have hy2 : y < 200 := by omega
      have hy3 : (y : Int) < 200 := by omega
      have hcy := cut_ints hy
      have hci := cut_set (f := inS) hy2
      have hcs' := cut_set (f := s') hy2
      rcases hvl with hvl | hvl
      rotate_left
      · rw [hvl] at hk; simp at hk
      rw [hvl] at h37
      have hedg : Edg next x y := ⟨l, hl, List.mem_of_getElem? hy⟩
      cases hiy : inS y with
      | false =>
        repeat (first | (with_reducible refine Nx.go ?_) | ((with_reducible refine Ny.go ?_); (conv => arg 1; simp only [ev, sop, bounds, loI, hiI, fillParts, binSV, intBin, unSV, simprocAttr, h37, h39, hk, hcy, h6, hy2, hy3, hc1, hci, hiy, recheck, wantedS, SV.same_self, Bool.and_self]); (first | (with_reducible refine Nz.go ?_) | refine Hold_some ?_)))
        refine ⟨by simp only [ev, sop, bounds, loI, hiI, fillParts, binSV, intBin, unSV, simprocAttr, h38], by simp only [ev, sop, bounds, loI, hiI, fillParts, binSV, intBin, unSV, simprocAttr, h39], fun v w => ⟨todo, s', id, cs, hM, hI, htd, hxb, fun j y' hj hy' hi => ?_, by simp only [ev, sop, bounds, loI, hiI, fillParts, binSV, intBin, unSV, simprocAttr, h3], by simp only [ev, sop, bounds, loI, hiI, fillParts, binSV, intBin, unSV, simprocAttr, h6], by simp only [ev, sop, bounds, loI, hiI, fillParts, binSV, intBin, unSV, simprocAttr, h8], by simp only [ev, sop, bounds, loI, hiI, fillParts, binSV, intBin, unSV, simprocAttr, h9], by simp only [ev, sop, bounds, loI, hiI, fillParts, binSV, intBin, unSV, simprocAttr, h37]; exact hvl.symm, hid, hlt, hc1, hc2, hcs, hcut⟩⟩
        by_cases e : j = k
        · subst e; rw [hy] at hy'; have e2 : (y : Int) = (y' : Int) := Option.some.inj hy'
          rw [← show y = y' by omega, hiy] at hi; cases hi
        · exact hdone j y' (by omega) hy' hi
      | true =>
        cases hsy : s' y with
        | true =>
          repeat (first | (with_reducible refine Nx.go ?_) | ((with_reducible refine Ny.go ?_); (conv => arg 1; simp only [ev, sop, bounds, loI, hiI, fillParts, binSV, intBin, unSV, simprocAttr, h37, h39, hk, hcy, h6, hy2, hy3, hc1, hci, hiy, h8, hc2, hcs', hsy, recheck, wantedS, SV.same_self, Bool.and_self]); (first | (with_reducible refine Nz.go ?_) | refine Hold_some ?_)))
          refine ⟨by simp only [ev, sop, bounds, loI, hiI, fillParts, binSV, intBin, unSV, simprocAttr, h38], by simp only [ev, sop, bounds, loI, hiI, fillParts, binSV, intBin, unSV, simprocAttr, h39], fun v w => ⟨todo, s', id, cs, hM, hI, htd, hxb, fun j y' hj hy' hi => ?_, by simp only [ev, sop, bounds, loI, hiI, fillParts, binSV, intBin, unSV, simprocAttr, h3], by simp only [ev, sop, bounds, loI, hiI, fillParts, binSV, intBin, unSV, simprocAttr, h6], by simp only [ev, sop, bounds, loI, hiI, fillParts, binSV, intBin, unSV, simprocAttr, h8], by simp only [ev, sop, bounds, loI, hiI, fillParts, binSV, intBin, unSV, simprocAttr, h9], by simp only [ev, sop, bounds, loI, hiI, fillParts, binSV, intBin, unSV, simprocAttr, h37]; exact hvl.symm, hid, hlt, hc1, hc2, hcs, hcut⟩⟩
          by_cases e : j = k
          · subst e; rw [hy] at hy'; have e2 : (y : Int) = (y' : Int) := Option.some.inj hy'
            rw [← show y = y' by omega]; exact hsy
          · exact hdone j y' (by omega) hy' hi
        | false =>
          have hun := unset_set hy2 hsy
          have hy4 : y + 1 ≤ 200 := by omega
          have n2 : (2 = σ1.next) = False := by simp; omega
          have n3 : (id = σ1.next) = False := by simp; omega
          have hK2 : todo.length + unset s' ≤ 201 := by simp at hK; omega
          have hb1 : (todo.length + 1) * 8 ≤ 2 ^ 40 ∧ todo.length + 1 ≤ 2 ^ 40 := by omega
          have n4 : (id = 2) = False := by simp; omega
          repeat (first | (with_reducible refine Nx.go ?_) | ((with_reducible refine Ny.go ?_); (conv => arg 1; simp only [ev, sop, bounds, loI, hiI, fillParts, binSV, intBin, unSV, simprocAttr, h37, h39, hk, hcy, h6, hy2, hy3, hc1, hci, hiy, h8, hc2, hcs', hsy, setCells_len, hy4, paste_set true hy2, h9, n2, n3, n4, hcs, hcut, natCells_len, hb1, recheck, wantedS, SV.same_self, Bool.and_self]); (first | (with_reducible refine Nz.go ?_) | refine Hold_some ?_)))
          refine ⟨by simp only [ev, sop, bounds, loI, hiI, fillParts, binSV, intBin, unSV, simprocAttr, h38], by simp only [ev, sop, bounds, loI, hiI, fillParts, binSV, intBin, unSV, simprocAttr, h39], fun v w => ⟨todo ++ [y], upd s' y, σ1.next + 1, natCells todo ++ [.sc (.int .i64 y)], by simp; omega, hI.add hxb hedg hiy, ?_, hxb.imp (fun h => h) (fun h => by simp [upd, h]), fun j y' hj hy' hi => ?_, by simp only [ev, sop, bounds, loI, hiI, fillParts, binSV, intBin, unSV, simprocAttr, h3], by simp only [ev, sop, bounds, loI, hiI, fillParts, binSV, intBin, unSV, simprocAttr, h6], by simp only [ev, sop, bounds, loI, hiI, fillParts, binSV, intBin, unSV, simprocAttr, h8], by simp only [ev, sop, bounds, loI, hiI, fillParts, binSV, intBin, unSV, simprocAttr], by simp only [ev, sop, bounds, loI, hiI, fillParts, binSV, intBin, unSV, simprocAttr, h37]; exact hvl.symm, by omega, by simp only [ev, sop, bounds, loI, hiI, fillParts, binSV, intBin, unSV, simprocAttr]; omega, ?_, ?_, ?_, ?_⟩⟩
          · intro z hz
            rcases List.mem_append.1 hz with h | h
            · exact htd z h
            · simp at h; omega
          · by_cases e : j = k
            · subst e; rw [hy] at hy'; have e2 : (y : Int) = (y' : Int) := Option.some.inj hy'
              rw [← show y = y' by omega]; exact upd_eq
            · simp [upd, hdone j y' (by omega) hy' hi]
          · simp (disch := first | omega | (simp only [nx_push, nx_set]; done) | (simp only [nx_push, nx_set]; omega)) only [cells_push_ne, cells_push_eq, cells_set_ne, cells_set_eq, hc1]
          · simp (disch := first | omega | (simp only [nx_push, nx_set]; done) | (simp only [nx_push, nx_set]; omega)) only [cells_push_ne, cells_push_eq, cells_set_ne, cells_set_eq]; rfl
          · simp (disch := first | omega | (simp only [nx_push, nx_set]; done) | (simp only [nx_push, nx_set]; omega)) only [cells_push_ne, cells_push_eq, cells_set_ne, cells_set_eq]
          · exact cut_whole (by simp [natCells]) |>.trans (by simp [natCells])
    · rintro t σ1 ⟨todo, s', id, cs, hM, hI, htd, hxb, hdone, h3, h6, h8, h9, h37, hid, hlt, hc1, hc2, hcs, hcut⟩
      repeat (first | (with_reducible refine Nx.go ?_) | ((with_reducible refine Ny.go ?_); (conv => arg 1; simp only [ev, sop, bounds, loI, hiI, fillParts, binSV, intBin, unSV, simprocAttr, recheck, wantedS, SV.same_self, Bool.and_self]); (first | (with_reducible refine Nz.go ?_) | refine Hold_some ?_)))
      refine ⟨todo.length + unset s', by simp; omega, todo, s', id, cs, rfl, by simp at hK; omega, hI.close ?_, htd, by simp only [ev, sop, bounds, loI, hiI, fillParts, binSV, intBin, unSV, simprocAttr, h3], by simp only [ev, sop, bounds, loI, hiI, fillParts, binSV, intBin, unSV, simprocAttr, h6], by simp only [ev, sop, bounds, loI, hiI, fillParts, binSV, intBin, unSV, simprocAttr, h8], by simp only [ev, sop, bounds, loI, hiI, fillParts, binSV, intBin, unSV, simprocAttr, h9], hid, hlt, hc1, hc2, hcs, hcut⟩
      rintro y ⟨l', hl', hy⟩ hi
      rw [hl] at hl'; cases hl'
      obtain ⟨j, hj⟩ := List.mem_iff_getElem?.1 hy
      exact hdone j y (List.getElem?_eq_some_iff.1 hj).1 hj hi
  · have hin : inS b = false := by simpa using hin
    repeat (first | (with_reducible refine Nx.go ?_) | ((with_reducible refine Ny.go ?_); (conv => arg 1; simp only [ev, sop, bounds, loI, hiI, fillParts, binSV, intBin, unSV, simprocAttr, hb2, hb3, hcb, hin, cut_all, paste_all, setCells_len, recheck, wantedS, SV.same_self, Bool.and_self]); (first | (with_reducible refine Nz.go ?_) | refine Hold_some ?_)))
    (refine Hold1_of ?_; (conv => arg 1; simp only [ev, sop, bounds, loI, hiI, fillParts, binSV, intBin, unSV, simprocAttr, cut_all, resultsSV, resMany, resOne]); refine Hold1_some ?_)
    rw [frz_setc]
    refine congrArg (fun l => some (SV.agg l)) (setCells_congr fun i _ => ?_)
    rw [Bool.eq_iff_iff, wayS_iff]
    simp [hin]
end Go.Proofs.Ytojjhcgbbmknmaa.Sh
