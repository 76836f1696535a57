/- Regions that draw their order: what has been looked at when they were turned into steps. -/
import Derived.Test.YtojjhcgbbmknmaaShDraw0
namespace Go.Proofs.Ytojjhcgbbmknmaa.Sh
set_option linter.unusedSimpArgs false
set_option linter.unusedVariables false
open Go

theorem mkItms_mem : ∀ {n : Nat} {l : List Oper} {ss : List Step} {x : Itm}, x ∈ mkItms n l ss → ∃ k o, l[k]? = some o ∧ ss[k]? = some x.s ∧ x.i = n + k ∧ x.ps = predsOf o
  | n, [], ss, x, h => by simp [mkItms] at h
  | n, o :: r, [], x, h => by simp [mkItms] at h
  | n, o :: r, s :: ss, x, h => by
    simp only [mkItms, List.mem_cons] at h
    rcases h with rfl | h
    · exact ⟨0, o, rfl, rfl, rfl, rfl⟩
    · obtain ⟨k, o', h1, h2, h3, h4⟩ := mkItms_mem h
      exact ⟨k + 1, o', by simpa using h1, by simpa using h2, by omega, h4⟩
theorem compSteps_get {P : Program} {N : Nat} {ops : Array Oper} : ∀ {l : List Oper} {ss : List Step} {k : Nat} {o : Oper} {s : Step}, compSteps P N ops l = some ss → l[k]? = some o → ss[k]? = some s → compStep P N ops o = some s
  | [], ss, k, o, s, h, h1, h2 => by simp at h1
  | o' :: r, ss, k, o, s, h, h1, h2 => by
    simp only [compSteps] at h
    split at h
    · rename_i s' ss' g1 g2
      cases h
      cases k with
      | zero => simp at h1 h2; subst h1 h2; exact g1
      | succ k => exact compSteps_get g2 (by simpa using h1) (by simpa using h2)
    · cases h
theorem pickReady_mem {done : List Nat} {big : Bool} : ∀ {rem r : List Itm} {x : Itm}, pickReady done big rem = some (x, r) → x ∈ rem ∧ ∀ y ∈ r, y ∈ rem
  | [], r, x, h => by simp [pickReady] at h
  | z :: rem, r, x, h => by
    simp only [pickReady] at h
    split at h
    · cases h; exact ⟨by simp, fun y hy => by simp [hy]⟩
    · obtain ⟨⟨y, l⟩, h1, h2⟩ := Option.map_eq_some_iff.1 h
      cases h2
      obtain ⟨g1, g2⟩ := pickReady_mem h1
      refine ⟨by simp [g1], fun y hy => ?_⟩
      rcases List.mem_cons.1 hy with rfl | hy
      · simp
      · simp [g2 y hy]
theorem canonGo_mem : ∀ {f : Nat} {done : List Nat} {rem : List Itm} {x : Itm}, x ∈ canonGo f done rem → x ∈ rem
  | 0, done, rem, x, h => by simp [canonGo] at h
  | f + 1, done, rem, x, h => by
    simp only [canonGo] at h
    split at h
    · rename_i y r hp
      obtain ⟨g1, g2⟩ := pickReady_mem hp
      rcases List.mem_cons.1 h with rfl | h
      · exact g1
      · exact g2 x (canonGo_mem h)
    · split at h
      · rename_i y r hp
        obtain ⟨g1, g2⟩ := pickReady_mem hp
        rcases List.mem_cons.1 h with rfl | h
        · exact g1
        · exact g2 x (canonGo_mem h)
      · simp at h

theorem lastBig_none : ∀ {l : List Itm} {b : Option Nat}, (∀ z ∈ l, isBig z.s = false) → lastBig l b = b
  | [], b, _ => rfl
  | x :: r, b, h => by
    simp only [lastBig]
    rw [h x (by simp)]
    exact lastBig_none fun z hz => h z (by simp [hz])
theorem lastBig_some : ∀ {l : List Itm} {b : Option Nat} {k : Nat} {z : Itm}, l[k]? = some z → isBig z.s = true → ∃ k' z', l[k']? = some z' ∧ isBig z'.s = true ∧ lastBig l b = some z'.i ∧ k ≤ k'
  | [], b, k, z, h, _ => by simp at h
  | x :: r, b, k, z, h, hb => by
    simp only [lastBig]
    by_cases hr : ∃ (k : Nat) (z : Itm), r[k]? = some z ∧ isBig z.s = true
    · obtain ⟨k1, z1, g1, g2⟩ := hr
      cases k with
      | zero =>
        obtain ⟨k', z', e1, e2, e3, e4⟩ := lastBig_some (b := if isBig x.s = true then some x.i else b) g1 g2
        exact ⟨k' + 1, z', by simpa using e1, e2, e3, by omega⟩
      | succ k =>
        obtain ⟨k', z', e1, e2, e3, e4⟩ := lastBig_some (b := if isBig x.s = true then some x.i else b) (show r[k]? = some z by simpa using h) hb
        exact ⟨k' + 1, z', by simpa using e1, e2, e3, by omega⟩
    · have hno : ∀ y ∈ r, isBig y.s = false := fun y hy => by
        obtain ⟨k, hk⟩ := List.mem_iff_getElem?.1 hy
        cases e : isBig y.s with
        | false => rfl
        | true => exact absurd ⟨k, y, hk, e⟩ hr
      cases k with
      | zero =>
        simp at h; subst h
        rw [lastBig_none hno, if_pos hb]
        exact ⟨0, x, rfl, hb, rfl, Nat.le_refl _⟩
      | succ k => exact absurd ⟨k, z, by simpa using h, hb⟩ hr

/-- The checks, at one item. -/
structure ChkAt (a : Anc) (all ahead : List Itm) (x : Itm) : Prop where
  preds : ∀ p ∈ x.ps, ∃ y ∈ ahead, y.i = p
  idx : ∀ y ∈ ahead, y.i ≠ x.i
  dst : ∀ y ∈ ahead, ∀ d e, y.s.dst = some d → x.s.dst = some e → d ≠ e
  own : ∀ y ∈ all, ∀ d, y.s.dst = some d → d ∈ stepTmps x.s → y.i = x.i ∨ y.i ∈ ancOf a x.i ∨ x.i ∈ ancOf a y.i
  big : ∀ b, lastBig ahead none = some b → b ∈ ancOf a x.i
  rd : sopKd x.s.op = .reads → (∃ d, x.s.dst = some d) ∧ ∀ y ∈ all, ∀ d, y.s.dst = some d → d ∈ stepTmps x.s → y.i ∈ ancOf a x.i
theorem drawChk_at {a : Anc} {all : List Itm} : ∀ {l ahead : List Itm} {j : Nat} {x : Itm}, drawChk a all ahead l = true → l[j]? = some x → ChkAt a all (ahead ++ l.take j) x
  | [], ahead, j, x, h, hx => by simp at hx
  | z :: r, ahead, j, x, h, hx => by
    unfold drawChk at h
    rw [Bool.and_eq_true] at h
    obtain ⟨h, hrest⟩ := h
    cases j with
    | succ j =>
      have := drawChk_at hrest (show r[j]? = some x by simpa using hx)
      simpa using this
    | zero =>
      simp at hx; subst hx
      simp only [Bool.and_eq_true] at h
      obtain ⟨⟨⟨⟨h1, h2⟩, h3⟩, h4⟩, h5⟩ := h
      simp only [List.take_zero, List.append_nil]
      refine ⟨fun p hp => ?_, fun y hy => ?_, fun y hy d e hd he => ?_, fun y hy d hd hm => ?_, fun b hb => ?_, fun hk => ?_⟩
      · have := List.all_eq_true.1 h1 p hp
        obtain ⟨y, hy, e⟩ := List.any_eq_true.1 this
        exact ⟨y, hy, by simpa using e⟩
      · have := List.all_eq_true.1 h2 y hy
        simp only [Bool.and_eq_true] at this
        simpa using this.1
      · have := List.all_eq_true.1 h2 y hy
        simp only [Bool.and_eq_true, hd, he] at this
        simpa using this.2
      · have := List.all_eq_true.1 h3 y hy
        simp only [hd, Bool.or_eq_true, beq_iff_eq, Bool.not_eq_true', List.contains_eq_mem, decide_eq_true_eq, decide_eq_false_iff_not] at this
        rcases this with e | (e | e) | e
        · exact .inl e
        · exact absurd hm e
        · exact .inr (.inl e)
        · exact .inr (.inr e)
      · rw [hb] at h4
        simpa using h4
      · simp only [hk, Bool.or_eq_true, Bool.and_eq_true, ne_eq, not_true_eq_false, decide_false, Bool.false_eq_true, false_or] at h5
        obtain ⟨h6, h7⟩ := h5
        refine ⟨Option.isSome_iff_exists.1 h6, fun y hy d hd hm => ?_⟩
        have := List.all_eq_true.1 h7 y hy
        simp only [hd, Bool.or_eq_true, Bool.not_eq_true', List.contains_eq_mem, decide_eq_true_eq, decide_eq_false_iff_not] at this
        rcases this with e | e
        · exact absurd hm e
        · exact e

theorem ancGo_ok {l : List Itm} : ∀ {r : List Itm} {acc : Anc}, (∀ x ∈ r, x ∈ l) →
    (∀ p ∈ acc, ∃ x ∈ l, x.i = p.1 ∧ ∀ L : Nat → Prop, (∀ y ∈ l, L y.i → ∀ q ∈ y.ps, L q) → (∀ q ∈ x.ps, L q) → ∀ q ∈ p.2, L q) →
    ∀ p ∈ ancGo acc r, ∃ x ∈ l, x.i = p.1 ∧ ∀ L : Nat → Prop, (∀ y ∈ l, L y.i → ∀ q ∈ y.ps, L q) → (∀ q ∈ x.ps, L q) → ∀ q ∈ p.2, L q
  | [], acc, _, h => h
  | x :: r, acc, hr, h => by
    simp only [ancGo]
    refine ancGo_ok (fun y hy => hr y (by simp [hy])) fun p hp => ?_
    rcases List.mem_cons.1 hp with rfl | hp
    · refine ⟨x, hr x (by simp), rfl, fun L hL hx q hq => ?_⟩
      rcases List.mem_append.1 hq with hq | hq
      · exact hx q hq
      · obtain ⟨p, hp1, hp2⟩ := List.mem_flatMap.1 hq
        unfold ancOf at hp2
        split at hp2
        · rename_i e hf
          obtain ⟨y, hy1, hy2, hy3⟩ := h e (List.mem_of_find?_eq_some hf)
          have := List.find?_some hf
          simp only [beq_iff_eq] at this
          refine hy3 L hL (hL y hy1 ?_) q hp2
          rw [hy2, this]; exact hx p hp1
        · simp at hp2
    · exact h p hp

structure DrawF (P : Program) (N : Nat) (ops : Array Oper) (a : Anc) (l : List Itm) : Prop where
  op : ∀ (j : Nat) (x : Itm), l[j]? = some x → ∃ o, ops[x.i]? = some o ∧ compStep P N ops o = some x.s ∧ x.ps = predsOf o
  cover : ∀ i, i < ops.size → ∃ (j : Nat) (x : Itm), l[j]? = some x ∧ x.i = i
  len : l.length = ops.size
  preds : ∀ (j : Nat) (x : Itm), l[j]? = some x → ∀ p ∈ x.ps, ∃ (j' : Nat) (y : Itm), j' < j ∧ l[j']? = some y ∧ y.i = p
  idx : ∀ (j j' : Nat) (x y : Itm), l[j]? = some x → l[j']? = some y → x.i = y.i → j = j'
  dst : ∀ (j j' : Nat) (x y : Itm) (d : Nat), l[j]? = some x → l[j']? = some y → x.s.dst = some d → y.s.dst = some d → j = j'
  own : ∀ (j j' : Nat) (x y : Itm) (d : Nat), l[j]? = some x → l[j']? = some y → y.s.dst = some d → d ∈ stepTmps x.s → j' = j ∨ y.i ∈ ancOf a x.i ∨ x.i ∈ ancOf a y.i
  big : ∀ (j j' : Nat) (x y : Itm), j' < j → l[j]? = some x → l[j']? = some y → isBig y.s = true → ∃ (j'' : Nat) (z : Itm), j' ≤ j'' ∧ j'' < j ∧ l[j'']? = some z ∧ isBig z.s = true ∧ z.i ∈ ancOf a x.i
  rd : ∀ (j : Nat) (x : Itm), l[j]? = some x → sopKd x.s.op = .reads → (∃ d, x.s.dst = some d) ∧ ∀ (j' : Nat) (y : Itm) (d : Nat), l[j']? = some y → y.s.dst = some d → d ∈ stepTmps x.s → y.i ∈ ancOf a x.i
  anc : ∀ (j : Nat) (x : Itm), l[j]? = some x → ∀ L : Nat → Prop, (∀ (j : Nat) (y : Itm), l[j]? = some y → L y.i → ∀ p ∈ y.ps, L p) → (∀ p ∈ x.ps, L p) → ∀ q ∈ ancOf a x.i, L q

theorem mem_take_get {α : Type} {l : List α} {j : Nat} {y : α} (h : y ∈ l.take j) : ∃ k, k < j ∧ l[k]? = some y := by
  obtain ⟨k, hk⟩ := List.mem_iff_getElem?.1 h
  rw [List.getElem?_take] at hk
  split at hk
  · exact ⟨k, by assumption, hk⟩
  · cases hk
theorem get_mem_take {α : Type} {l : List α} {j k : Nat} {y : α} (hk : k < j) (h : l[k]? = some y) : y ∈ l.take j :=
  List.mem_iff_getElem?.2 ⟨k, by rw [List.getElem?_take, if_pos hk]; exact h⟩

theorem drawItms_ok {P : Program} {N : Nat} {ops : Array Oper} {a : Anc} {l : List Itm} (h : drawItms P N ops = some (a, l)) : DrawF P N ops a l := by
  unfold drawItms at h
  split at h
  · rename_i ss hss
    simp only at h
    split at h
    · rename_i hc
      rw [Bool.and_eq_true] at hc
      obtain ⟨h1, h2⟩ := hc
      simp only [Option.some.injEq, Prod.mk.injEq] at h
      obtain ⟨ha, hl⟩ := h
      rw [hl] at h1 h2 ha
      rw [ha] at h2
      unfold idxChk at h1
      rw [Bool.and_eq_true] at h1
      have hat : ∀ (j : Nat) (x : Itm), l[j]? = some x → ChkAt a l (l.take j) x := fun j x hx => by simpa using drawChk_at h2 hx
      have idx0 : ∀ (j j' : Nat) (x y : Itm), j' < j → l[j]? = some x → l[j']? = some y → y.i ≠ x.i := fun j j' x y hlt hx hy => (hat j x hx).idx y (get_mem_take hlt hy)
      have hidx : ∀ (j j' : Nat) (x y : Itm), l[j]? = some x → l[j']? = some y → x.i = y.i → j = j' := fun j j' x y hx hy e => by
        rcases Nat.lt_trichotomy j j' with hlt | heq | hgt
        · exact absurd e (idx0 j' j y x hlt hy hx)
        · exact heq
        · exact absurd e.symm (idx0 j j' x y hgt hx hy)
      refine ⟨fun j x hx => ?_, fun i hi => ?_, of_decide_eq_true h1.1, fun j x hx p hp => ?_, hidx, fun j j' x y d hx hy hd he => ?_, fun j j' x y d hx hy hd hm => ?_, fun j j' x y hlt hx hy hb => ?_, fun j x hx hk => ?_, fun j x hx L hL hp q hq => ?_⟩
      · have hm : x ∈ mkItms 0 ops.toList ss := by
          have : x ∈ l := List.mem_of_getElem? hx
          rw [← hl] at this
          exact canonGo_mem this
        obtain ⟨k, o, g1, g2, g3, g4⟩ := mkItms_mem hm
        refine ⟨o, ?_, compSteps_get hss g1 g2, g4⟩
        rw [g3]; simpa using g1
      · obtain ⟨x, hx, e⟩ := List.any_eq_true.1 (List.all_eq_true.1 h1.2 i (List.mem_range.2 hi))
        obtain ⟨j, hj⟩ := List.mem_iff_getElem?.1 hx
        exact ⟨j, x, hj, by simpa using e⟩
      · obtain ⟨y, hy, e⟩ := (hat j x hx).preds p hp
        obtain ⟨k, hk, hy⟩ := mem_take_get hy
        exact ⟨k, y, hk, hy, e⟩
      · rcases Nat.lt_trichotomy j j' with hlt | heq | hgt
        · exact absurd rfl ((hat j' y hy).dst x (get_mem_take hlt hx) d d hd he)
        · exact heq
        · exact absurd rfl ((hat j x hx).dst y (get_mem_take hgt hy) d d he hd)
      · rcases (hat j x hx).own y (List.mem_of_getElem? hy) d hd hm with e | e
        · exact .inl (hidx _ _ _ _ hy hx e)
        · exact .inr e
      · obtain ⟨k', z', e1, e2, e3, e4⟩ := lastBig_some (l := l.take j) (b := none) (k := j') (z := y) (by rw [List.getElem?_take, if_pos hlt]; exact hy) hb
        have hk' : k' < j ∧ l[k']? = some z' := by
          rw [List.getElem?_take] at e1
          split at e1
          · exact ⟨by assumption, e1⟩
          · cases e1
        exact ⟨k', z', e4, hk'.1, hk'.2, e2, (hat j x hx).big _ e3⟩
      · obtain ⟨g1, g2⟩ := (hat j x hx).rd hk
        exact ⟨g1, fun j' y d hy hd hm => g2 y (List.mem_of_getElem? hy) d hd hm⟩
      · have hall := ancGo_ok (l := l) (r := l) (acc := []) (fun x hx => hx) (by simp)
        rw [ha] at hall
        unfold ancOf at hq
        split at hq
        · rename_i e hf
          obtain ⟨y, hy1, hy2, hy3⟩ := hall e (List.mem_of_find?_eq_some hf)
          have he := List.find?_some hf
          simp only [beq_iff_eq] at he
          obtain ⟨k, hk⟩ := List.mem_iff_getElem?.1 hy1
          have : k = j := hidx _ _ _ _ hk hx (hy2.trans he)
          subst this
          rw [hx] at hk; cases hk
          refine hy3 L (fun z hz hLz => ?_) hp q hq
          obtain ⟨kz, hkz⟩ := List.mem_iff_getElem?.1 hz
          exact hL kz z hkz hLz
        · simp at hq
    · cases h
  · cases h

theorem withRe_get {a : Anc} : ∀ {l ahead : List Itm} {j : Nat}, (withRe a ahead l)[j]? = (l[j]?).map fun x => if isBig x.s then { x with s := { x.s with re := reOf a (ahead ++ l.take j) x } } else x
  | [], ahead, j => by simp [withRe]
  | x :: r, ahead, 0 => by simp [withRe]
  | x :: r, ahead, j + 1 => by
    simp only [withRe, List.getElem?_cons_succ, List.take_succ_cons]
    rw [withRe_get]
    simp
theorem withRe_len {a : Anc} : ∀ {l ahead : List Itm}, (withRe a ahead l).length = l.length
  | [], ahead => rfl
  | x :: r, ahead => by simp [withRe, withRe_len]
end Go.Proofs.Ytojjhcgbbmknmaa.Sh
