/- Sums, comparisons, slices of slices, structs that are put together. -/
import Derived.Test.YtojjhcgbbmknmaaShPure2
import Derived.ChangeKeysEq
import Derived.Laws.StructEq
import Derived.Laws.Cover3
namespace Go.Proofs.Ytojjhcgbbmknmaa.Sh
set_option linter.unusedSimpArgs false
set_option linter.unusedVariables false
open Go Go.RowKit

section
variable {P : Program} {w0 : World} {ρ : Rho} {N : Nat} {t : Tr SV} {σ σ' : St} {a : Act} {o : Oper} {v : SV} {so : SOp}

theorem bytes_beq (b c : ByteArray) : (b == c) = decide (b = c) := by
  obtain ⟨x⟩ := b
  obtain ⟨y⟩ := c
  show (x == y) = _
  by_cases e : x = y
  · subst e; simp
  · rw [decide_eq_false (fun h => e (by injection h))]; simpa using e
theorem eqCells_len {q : Nat} : ∀ {a b : List SV} {r : Bool}, eqCells q a b = some r → a.length = b.length
  | [], [], _, _ => rfl
  | x :: a, y :: b, r, h => by
    have key : ∀ (p : Bool), (if p = true then eqCells q a b else (eqCells q a b).map fun _ => false) = some r → a.length = b.length := by
      intro p h
      cases p
      · simp only [Bool.false_eq_true, if_false, Option.map_eq_some_iff] at h
        obtain ⟨z, hz, _⟩ := h
        exact eqCells_len hz
      · exact eqCells_len (by simpa using h)
    rw [eqCells.eq_def] at h
    cases x with
    | sc s =>
      cases y with
      | sc s' =>
        cases s <;> cases s' <;> simp only at h <;> try (cases h; done)
        · rename_i k n k' m
          cases hq : Nat.beq q 2 <;> rw [hq] at h <;> simp only [cond_false, cond_true] at h
          · cases h
          · split at h
            · simp [key (decide (n = m)) (by simpa using h)]
            · cases h
        · rename_i n m
          cases hq : Nat.beq q 1 <;> rw [hq] at h <;> simp only [cond_false, cond_true] at h
          · cases h
          · simp [key (decide (n = m)) (by simpa using h)]
        · rename_i n m
          cases hq : Nat.beq q 3 <;> rw [hq] at h <;> simp only [cond_false, cond_true] at h
          · cases h
          · simp [key (decide (n = m)) (by simpa using h)]
      | _ => simp at h
    | _ => simp at h
  | [], y :: b, r, h => by simp [eqCells] at h
  | x :: a, [], r, h => by simp [eqCells] at h

theorem eqCells_append {q : Nat} : ∀ {a b c d : List SV} {r : Bool}, a.length = b.length → eqCells q (a ++ c) (b ++ d) = some r → ∃ r1 r2, eqCells q a b = some r1 ∧ eqCells q c d = some r2 ∧ r = (r1 && r2)
  | [], [], c, d, r, _, h => ⟨true, r, rfl, by simpa using h, by simp⟩
  | x :: a, y :: b, c, d, r, hl, h => by
    have hl' : a.length = b.length := by simpa using hl
    have key : ∀ (p : Bool), (if p = true then eqCells q (a ++ c) (b ++ d) else (eqCells q (a ++ c) (b ++ d)).map fun _ => false) = some r →
        ∃ r1 r2, (if p = true then eqCells q a b else (eqCells q a b).map fun _ => false) = some r1 ∧ eqCells q c d = some r2 ∧ r = (r1 && r2) := by
      intro p h
      cases p
      · simp only [Bool.false_eq_true, if_false, Option.map_eq_some_iff] at h
        obtain ⟨z, hz, rfl⟩ := h
        obtain ⟨r1, r2, h1, h2, _⟩ := eqCells_append hl' hz
        exact ⟨false, r2, by simp [h1], h2, by simp⟩
      · simp only [if_true] at h
        obtain ⟨r1, r2, h1, h2, h3⟩ := eqCells_append hl' h
        exact ⟨r1, r2, by simp [h1], h2, h3⟩
    rw [List.cons_append, List.cons_append] at h
    rw [eqCells.eq_def] at h ⊢
    cases x with
    | sc s =>
      cases y with
      | sc s' =>
        cases s <;> cases s' <;> simp only at h ⊢ <;> try (cases h; done)
        · rename_i k n k' m
          cases hq : Nat.beq q 2 <;> rw [hq] at h <;> simp only [cond_false, cond_true] at h ⊢
          · cases h
          · by_cases hk : k = k'
            · subst hk
              have := key (decide (n = m)) (by simpa using h)
              simpa using this
            · simp [hk] at h
        · rename_i n m
          cases hq : Nat.beq q 1 <;> rw [hq] at h <;> simp only [cond_false, cond_true] at h ⊢
          · cases h
          · have := key (decide (n = m)) (by simpa using h)
            simpa using this
        · rename_i n m
          cases hq : Nat.beq q 3 <;> rw [hq] at h <;> simp only [cond_false, cond_true] at h ⊢
          · cases h
          · have := key (decide (n = m)) (by simpa using h)
            simpa using this
      | _ => simp at h
    | _ => simp at h
  | [], _ :: _, _, _, _, hl, _ => by simp at hl
  | _ :: _, [], _, _, _, hl, _ => by simp at hl

/-- What 'Op.equalIn' tells of cells. -/
def EqC (P : Program) (q d : Nat) (ty : TypeId) : Prop :=
  ∀ (w : World) (w0 : World) (ρ : Rho) (x y : Value) (cs ds : List SV) (n : Nat) (r : Bool), szT P ty = some n → cs.length = n → VRs w0 ρ cs x.cells.toList → VRs w0 ρ ds y.cells.toList →
    (agT P ty = some true → (∃ A, x = .agg A) ∧ ∃ B, y = .agg B) → (agT P ty = some false → x.cells.toList = [x] ∧ y.cells.toList = [y]) → eqCells q cs ds = some r → (Op.equalIn d ty x y).run P w = .ok r w

theorem eqC_part {q d : Nat} {ty : TypeId} {n off : Nat} {ag : Bool} (he : EqC P q d ty) (hn : szT P ty = some n) (hag : agT P ty = some ag) (hn1 : ag = true ∨ n = 1) {X Y : Array Value} {cs ds : List SV} {r : Bool} (hX : VRs w0 ρ cs X.toList) (hY : VRs w0 ρ ds Y.toList)
    (hle : off + n ≤ cs.length) (hle' : off + n ≤ ds.length) (hr : eqCells q ((cs.drop off).take n) ((ds.drop off).take n) = some r) (w : World) :
    ∃ x y, (part ty X off).run P w = .ok x w ∧ (part ty Y off).run P w = .ok y w ∧ (Op.equalIn d ty x y).run P w = .ok r w := by
  have hlX := hX.len
  have hlY := hY.len
  have hcl : ((cs.drop off).take n).length = n := by simp; omega
  cases ag with
  | true =>
    refine ⟨.agg (X.extract off (off + n)), .agg (Y.extract off (off + n)), ?_, ?_, ?_⟩
    · simp [part, run_isAgg hag, run_sizeOf hn]
    · simp [part, run_isAgg hag, run_sizeOf hn]
    · refine he w w0 ρ _ _ _ _ n r hn hcl ?_ ?_ (fun _ => ⟨⟨_, rfl⟩, ⟨_, rfl⟩⟩) (fun e => by rw [hag] at e; cases e) hr
      · have := (hX.drop off).take n
        simpa [Value.cells, Array.toList_extract, List.extract_eq_take_drop, List.drop_take] using this
      · have := (hY.drop off).take n
        simpa [Value.cells, Array.toList_extract, List.extract_eq_take_drop, List.drop_take] using this
  | false =>
    have hn1 : n = 1 := by simpa using hn1
    subst hn1
    have hx := (hX.drop off).take 1
    have hy := (hY.drop off).take 1
    have e1 : List.take 1 (List.drop off X.toList) = [X.toList[off]'(by omega)] := by
      rw [List.drop_eq_getElem_cons (by omega)]; rfl
    have e2 : List.take 1 (List.drop off Y.toList) = [Y.toList[off]'(by omega)] := by
      rw [List.drop_eq_getElem_cons (by omega)]; rfl
    rw [e1] at hx
    rw [e2] at hy
    have gx : X[off]? = some (X.toList[off]'(by omega)) := by
      rw [← Array.getElem?_toList]; exact List.getElem?_eq_getElem (by omega)
    have gy : Y[off]? = some (Y.toList[off]'(by omega)) := by
      rw [← Array.getElem?_toList]; exact List.getElem?_eq_getElem (by omega)
    -- the elements are of one cell, as eqCells tells
    have one : ∀ (l m : List SV) (u : Value) (r : Bool), l.length = 1 → VRs w0 ρ l [u] → (eqCells q l m = some r ∨ eqCells q m l = some r) → u.cells.toList = [u] := by
      intro l m u r hl hv hq
      match l, hl with
      | [c], _ =>
        simp only [VRs] at hv
        obtain ⟨_, _, e, hv, _⟩ := hv
        cases e
        have : ∃ s, c = .sc s ∧ s ≠ .undef := by
          have sc1 : ∀ (c e : SV), eqCells q [c] [e] = some r → (∃ s, c = .sc s ∧ s ≠ .undef) ∧ ∃ s, e = .sc s ∧ s ≠ .undef := by
            intro c e h
            rw [eqCells.eq_def] at h
            cases c with
            | sc s =>
              cases e with
              | sc s' => cases s <;> cases s' <;> simp_all
              | _ => simp at h
            | _ => simp at h
          rcases hq with hq | hq
          · have hm := eqCells_len hq
            match m, hm with
            | [e], _ => exact (sc1 _ _ hq).1
          · have hm := eqCells_len hq
            match m, hm with
            | [e], _ => exact (sc1 _ _ hq).2
        obtain ⟨s, rfl, hs⟩ := this
        simp only [VR] at hv
        subst hv
        cases s <;> first | rfl | (exact absurd rfl hs)
    have hds : ((ds.drop off).take 1).length = 1 := by simp; omega
    refine ⟨X.toList[off]'(by omega), Y.toList[off]'(by omega), ?_, ?_, ?_⟩
    · simp [part, run_isAgg hag, gx]
    · simp [part, run_isAgg hag, gy]
    · refine he w w0 ρ _ _ _ _ 1 r hn hcl ?_ ?_ (fun e => by rw [hag] at e; cases e) (fun _ => ⟨one _ _ _ r hcl hx (.inl hr), one _ _ _ r hds hy (.inr hr)⟩) hr
      · rw [one _ _ _ r hcl hx (.inl hr)]; exact hx
      · rw [one _ _ _ r hds hy (.inr hr)]; exact hy


theorem eqT_ag {q d : Nat} {ty : TypeId} (h : eqT P q d ty = true) : ∃ ag, agT P ty = some ag ∧ ∀ n, szT P ty = some n → (ag = true ∨ n = 1) := by
  cases d with
  | zero => simp [eqT] at h
  | succ d =>
    unfold eqT at h
    cases hu : P.underlying ty with
    | none => simp [hu] at h
    | some k =>
      rw [hu] at h
      cases k
      case array => exact ⟨true, by simp [agT, hu], fun _ _ => .inl rfl⟩
      case struct => exact ⟨true, by simp [agT, hu], fun _ _ => .inl rfl⟩
      case bool => exact ⟨false, by simp [agT, hu], fun n hn => by rw [hn] at h; right; simpa using (Bool.and_eq_true_iff.1 h).1⟩
      case int => exact ⟨false, by simp [agT, hu], fun n hn => by rw [hn] at h; right; simpa using (Bool.and_eq_true_iff.1 h).1⟩
      case string => exact ⟨false, by simp [agT, hu], fun n hn => by rw [hn] at h; right; simpa using (Bool.and_eq_true_iff.1 h).1⟩
      all_goals simp at h

theorem eqF_run {q d : Nat} {X Y : Array Value} {cs ds : List SV} (hX : VRs w0 ρ cs X.toList) (hY : VRs w0 ρ ds Y.toList) (hl : cs.length = ds.length) (w : World) :
    ∀ (fs : List Field) (o n : Nat) (r : Bool), (∀ f ∈ fs, f.name ≠ "_" ∧ EqC P q d f.type ∧ ∃ ag, agT P f.type = some ag ∧ ∀ n, szT P f.type = some n → (ag = true ∨ n = 1)) →
      fs.foldl (fun (o : Option Nat) f => match o with
        | some o => if o = f.offset then (szT P f.type).map (o + ·) else none
        | none => none) (some o) = some n → n = cs.length → o ≤ n → eqCells q (cs.drop o) (ds.drop o) = some r → (Op.eqFields d X Y fs).run P w = .ok r w
  | [], o, n, r, _, hf, hn, _, hr => by
    simp only [List.foldl_nil, Option.some.injEq] at hf
    subst hf; subst hn
    rw [List.drop_length, hl, List.drop_length] at hr
    simp only [eqCells, Option.some.injEq] at hr
    subst hr
    simp [Op.eqFields]
  | f :: fs, o, n, r, hall, hf, hn, hle, hr => by
    obtain ⟨hname, heq, ag, hag, hn1⟩ := hall f (by simp)
    simp only [List.foldl_cons] at hf
    have hno : ∀ l : List Field, l.foldl (fun (o : Option Nat) f => match o with
        | some o => if o = f.offset then (szT P f.type).map (o + ·) else none
        | none => none) none = none := by
      intro l
      induction l with
      | nil => rfl
      | cons g l ih => simpa using ih
    by_cases ho : o = f.offset
    · rw [if_pos ho] at hf
      cases hs : szT P f.type with
      | none => rw [hs] at hf; simp only [Option.map_none] at hf; rw [hno] at hf; cases hf
      | some s =>
        rw [hs] at hf
        simp only [Option.map_some] at hf
        have hmono : ∀ (l : List Field) (x y : Nat), l.foldl (fun (o : Option Nat) f => match o with
            | some o => if o = f.offset then (szT P f.type).map (o + ·) else none
            | none => none) (some x) = some y → x ≤ y := by
          intro l
          induction l with
          | nil => intro x y h; simp at h; omega
          | cons g l ih =>
            intro x y h
            simp only [List.foldl_cons] at h
            split at h
            · cases hg : szT P g.type with
              | none => rw [hg] at h; simp only [Option.map_none] at h; rw [hno] at h; cases h
              | some z =>
                rw [hg] at h
                simp only [Option.map_some] at h
                have := ih _ _ h
                omega
            · rw [hno] at h; cases h
        have h2 := hmono _ _ _ hf
        have e1 : cs.drop o = (cs.drop o).take s ++ cs.drop (o + s) := by rw [← List.drop_drop, List.take_append_drop]
        have e2 : ds.drop o = (ds.drop o).take s ++ ds.drop (o + s) := by rw [← List.drop_drop, List.take_append_drop]
        rw [e1, e2] at hr
        obtain ⟨r1, r2, k1, k2, rfl⟩ := eqCells_append (by simp; omega) hr
        rw [ho] at k1
        obtain ⟨x, y, p1, p2, p3⟩ := eqC_part heq hs hag (hn1 s hs) hX hY (by omega) (by omega) k1 w
        have ih := eqF_run hX hY hl w fs (o + s) n r2 (fun g hg => hall g (by simp [hg])) hf hn h2 k2
        simp only [Op.eqFields, hname, ne_eq, not_false_eq_true, if_true, Sem.run_bind, p1, p2, p3, Result.andThen_ok]
        cases r1
        · simp
        · simpa using ih
    · rw [if_neg ho, hno] at hf; cases hf

theorem eqI_run {q d : Nat} {e : TypeId} {s : Nat} {ag : Bool} (heq : EqC P q d e) (hs : szT P e = some s) (hag : agT P e = some ag) (hn1 : ag = true ∨ s = 1) {X Y : Array Value} {cs ds : List SV} (hX : VRs w0 ρ cs X.toList) (hY : VRs w0 ρ ds Y.toList) (hl : cs.length = ds.length) (w : World) :
    ∀ (k i : Nat) (r : Bool), (i + k) * s = cs.length → eqCells q (cs.drop (i * s)) (ds.drop (i * s)) = some r → (Op.eqItems d e s X Y (List.range' i k)).run P w = .ok r w
  | 0, i, r, hn, hr => by
    rw [Nat.add_zero] at hn
    rw [hn, List.drop_length, hl, List.drop_length] at hr
    simp only [eqCells, Option.some.injEq] at hr
    subst hr
    simp [Op.eqItems]
  | k + 1, i, r, hn, hr => by
    have h3 : (i + (k + 1)) * s = i * s + s + k * s := by rw [Nat.add_mul, Nat.add_mul]; omega
    have e1 : cs.drop (i * s) = (cs.drop (i * s)).take s ++ cs.drop (i * s + s) := by rw [← List.drop_drop, List.take_append_drop]
    have e2 : ds.drop (i * s) = (ds.drop (i * s)).take s ++ ds.drop (i * s + s) := by rw [← List.drop_drop, List.take_append_drop]
    rw [e1, e2] at hr
    obtain ⟨r1, r2, k1, k2, rfl⟩ := eqCells_append (by simp; omega) hr
    obtain ⟨x, y, p1, p2, p3⟩ := eqC_part heq hs hag hn1 hX hY (by omega) (by omega) k1 w
    have h4 : (i + 1) * s = i * s + s := by rw [Nat.add_mul]; omega
    have ih := eqI_run heq hs hag hn1 hX hY hl w k (i + 1) r2 (by rw [← hn]; congr 1; omega) (by rw [h4]; exact k2)
    simp only [List.range'_succ, Op.eqItems, Sem.run_bind, p1, p2, p3, Result.andThen_ok]
    cases r1
    · simp
    · simpa using ih

theorem eqC_of {q : Nat} : ∀ (d : Nat) (ty : TypeId) (k : Nat), eqT P q d ty = true → EqC P q (d + k) ty
  | 0, _, _, h => by simp [eqT] at h
  | d + 1, ty, k, h => by
    intro w w0 ρ x y cs ds n r hn hlen hX hY hagg hone hr
    have hl := eqCells_len hr
    have hd : d + 1 + k = (d + k) + 1 := by omega
    rw [hd]
    have h0 := h
    unfold eqT at h
    cases hu : P.underlying ty with
    | none => simp [hu] at h
    | some qq =>
      rw [hu] at h
      have plain : agT P ty = some false → n = 1 → ∃ s s' : Sc, x = s.val ∧ y = s'.val ∧ eqCells q [.sc s] [.sc s'] = some r := by
        intro hf h1
        subst h1
        obtain ⟨h1, h2⟩ := hone hf
        rw [h1] at hX
        rw [h2] at hY
        match cs, ds, hlen, hl with
        | [c], [e], _, _ =>
          obtain ⟨_, e1, vx⟩ := hX.one
          obtain ⟨_, e2, vy⟩ := hY.one
          cases e1; cases e2
          have hr' := hr
          rw [eqCells.eq_def] at hr'
          cases c with
          | sc s =>
            cases e with
            | sc s' => exact ⟨s, s', by simpa only [VR] using vx, by simpa only [VR] using vy, hr⟩
            | _ => simp at hr'
          | _ => simp at hr'
      have h1n : ∀ {p : Bool}, (szT P ty == some 1 && p) = true → n = 1 ∧ p = true := by
        intro p h
        rw [hn] at h
        simpa using h
      cases qq <;> simp only at h <;> try (cases h; done)
      case bool =>
        obtain ⟨h1, h2⟩ := h1n h
        obtain rfl : q = 1 := by simpa using h2
        obtain ⟨s, s', rfl, rfl, hr⟩ := plain (by simp [agT, hu]) h1
        rw [eqCells.eq_def] at hr
        cases s <;> cases s' <;> simp [eqCells] at hr
        all_goals first
          | exact nomatch (show none = some r from hr)
          | (rename_i b c; rw [Sc.val, Sc.val, run_equalIn_bool' w (d + k) ty b c hu]; by_cases e : b = c <;> simp_all)
      case int kd =>
        obtain ⟨h1, h2⟩ := h1n h
        obtain rfl : q = 2 := by simpa using h2
        obtain ⟨s, s', rfl, rfl, hr⟩ := plain (by simp [agT, hu]) h1
        rw [eqCells.eq_def] at hr
        cases s <;> cases s' <;> simp [eqCells] at hr
        all_goals first
          | exact nomatch (show none = some r from hr)
          | (rename_i k1 b k2 c; obtain ⟨rfl, hr⟩ := hr; rw [Sc.val, Sc.val, run_equalIn_int w (d + k) ty k1 _ b c hu]; by_cases e : b = c <;> simp_all)
      case string =>
        obtain ⟨h1, h2⟩ := h1n h
        obtain rfl : q = 3 := by simpa using h2
        obtain ⟨s, s', rfl, rfl, hr⟩ := plain (by simp [agT, hu]) h1
        rw [eqCells.eq_def] at hr
        cases s <;> cases s' <;> simp [eqCells] at hr
        all_goals first
          | exact nomatch (show none = some r from hr)
          | (rename_i b c; rw [Sc.val, Sc.val, run_equalIn_string w (d + k) ty b c hu, ← beq_toListBytes, bytes_beq]; by_cases e : b = c <;> simp_all)
      case array m e =>
        simp only [Bool.and_eq_true] at h
        obtain ⟨h1, h2⟩ := h
        cases hs : szT P e with
        | none => rw [hs] at h2; simp at h2
        | some s =>
          rw [hs, hn] at h2
          simp only [Bool.and_eq_true, beq_iff_eq] at h2
          obtain ⟨⟨X, rfl⟩, ⟨Y, rfl⟩⟩ := hagg (by simp [agT, hu])
          obtain ⟨ag, hag, hn1⟩ := eqT_ag h1
          have hi : ∃ i, P.info? e = some i ∧ i.size = s := by
            unfold szT at hs
            obtain ⟨i, hi, h3⟩ := Option.map_eq_some_iff.1 hs
            exact ⟨i, hi, h3⟩
          obtain ⟨i, hi, h3⟩ := hi
          have hco : P.cellsOf e = s := by simp [Program.cellsOf, hi, h3]
          rw [run_equalIn_array w (d + k) X Y hu hi, hco, List.range_eq_range']
          exact eqI_run (eqC_of d e k h1) hs hag (hn1 s hs) hX hY hl w m 0 r (by rw [Nat.zero_add, hlen]; exact h2.1.symm) (by simpa using hr)
      case struct fs =>
        simp only [Bool.and_eq_true, Bool.not_eq_true', beq_iff_eq] at h
        obtain ⟨⟨h1, h2⟩, h3⟩ := h
        obtain ⟨⟨X, rfl⟩, ⟨Y, rfl⟩⟩ := hagg (by simp [agT, hu])
        have hfo : P.fieldsOf ty = fs := by simp [Program.fieldsOf, hu]
        rw [run_equalIn_struct w (d + k) ty X Y (by rw [hfo]; exact hu) h1, hfo]
        rw [hn] at h3
        refine eqF_run hX hY hl w fs.toList 0 n r (fun f hf => ?_) h3 hlen.symm (by omega) (by simpa using hr)
        have h4 := Array.all_eq_true'.1 h2 f (by simpa using hf)
        simp only [Bool.and_eq_true, bne_iff_ne, ne_eq] at h4
        exact ⟨h4.1, eqC_of d f.type k h4.2, eqT_ag h4.2⟩

theorem run_equalIn_nil_slice (w : World) (d : Nat) (t e : TypeId) (n m : Nat) (b : Option Addr) (l c : Nat) (h : P.underlying t = some (.slice e)) : (Op.equalIn (d + 1) t (.slice none n m) (.slice b l c)).run P w = .ok b.isNone w := by
  simp [Op.equalIn, run_underlying h]
theorem eqTag_spec {ty : TypeId} (h : 5 ≤ eqTag P ty) : (P.eqGuardType P.depth ty = false ∧ (szT P ty).isSome = true) ∧ eqT P (eqTag P ty - 4) 20 ty = true := by
  unfold eqTag at h ⊢
  by_cases h1 : P.eqGuardType P.depth ty = false ∧ (szT P ty).isSome = true
  · simp only [if_pos h1] at h ⊢
    by_cases h2 : eqT P 1 20 ty = true
    · simp only [if_pos h2]; exact ⟨h1, h2⟩
    · simp only [if_neg h2] at h ⊢
      by_cases h3 : eqT P 2 20 ty = true
      · simp only [if_pos h3]; exact ⟨h1, h3⟩
      · simp only [if_neg h3] at h ⊢
        by_cases h4 : eqT P 3 20 ty = true
        · simp only [if_pos h4]; exact ⟨h1, h4⟩
        · simp only [if_neg h4] at h; omega
  · simp only [if_neg h1] at h; omega
theorem eqTag_other {ty : TypeId} : eqTag P ty = 0 ∨ 5 ≤ eqTag P ty := by
  unfold eqTag
  split
  · split
    · exact .inr (by omega)
    · split
      · exact .inr (by omega)
      · split
        · exact .inr (by omega)
        · exact .inl rfl
  · exact .inl rfl

theorem run_eqGuard_sc {op : BinOp} {ty : TypeId} {x y : Operand} {s s' : Sc} {w : World} (h : s ≠ .nilif) : (eqGuard op ty x y s.val s'.val).run P w = .ok () w := by
  unfold eqGuard
  cases op <;> cases s <;> cases s' <;> simp_all [Sc.val, Go.undef]

theorem y_bin {op : BinOp} {ty ty' : TypeId} {x y : Operand} (ho : o.op = .binOp op ty x y ty') {x' y' : Opd} (hx : compOpd x = some x') (hy : compOpd y = some y') (k : TR w0 ρ t N a.tmps)
    (h : sop (.bin (match P.underlying ty with
        | some (.bool) => 1
        | some (.slice _) => 3
        | some (.struct _) | some (.array _ _) => eqTag P ty
        | _ => 0) ((szT P ty).getD 0) op x' y') t σ = some (v, σ')) : σ' = σ ∧ Yld P w0 ρ a o v := by
  simp only [sop, Option.map_eq_some_iff, Prod.mk.injEq] at h
  obtain ⟨v', h1, rfl, rfl⟩ := h
  refine ⟨rfl, fun w => ?_⟩
  have hok := opd_ok hx k
  have hok' := opd_ok hy k
  have fin : ∀ (u : Value), (eqGuard op ty x y (a.eval x) (a.eval y)).run P w = .ok () w → (Go.binOp op ty (a.eval x) (a.eval y)).run P w = .ok u w → (execOp a.eval o).run P w = .ok (.value u) w := by
    intro u g1 g2
    simp [execOp, ho, g1, g2]
  unfold binSV at h1
  split at h1
  · rename_i k1 n k2 m e1 e2
    have hX := hok.int e1
    have hY := hok'.int e2
    have g : (eqGuard op ty x y (a.eval x) (a.eval y)).run P w = .ok () w := by rw [hX, hY]; exact run_eqGuard_sc (s := .int k1 n) (s' := .int k2 m) (by simp)
    split at h1
    · split at h1
      · cases h1
      · rename_i hneg
        cases h1
        exact ⟨_, fin _ g (by rw [hX, hY]; simp [Go.binOp, Op.shift, hneg]; rfl), OK.mk_sc⟩
    · split at h1
      · cases h1
      · rename_i hneg
        cases h1
        exact ⟨_, fin _ g (by rw [hX, hY]; simp [Go.binOp, Op.shift, hneg]; rfl), OK.mk_sc⟩
    · split at h1
      · rename_i hk
        subst hk
        obtain ⟨s, hs, rfl⟩ := Option.map_eq_some_iff.1 h1
        refine ⟨s.val, fin _ g ?_, OK.mk_sc⟩
        rw [hX, hY]
        cases op <;> simp only [intBin] at hs <;> first
          | (cases hs; simp [Go.binOp, Op.intArith, Op.intBits, Op.intCmp, Sc.val]; done)
          | (split at hs <;> first | (cases hs; done) | (rename_i hz; cases hs; simp [Go.binOp, Op.intDiv, hz, Sc.val]; done))
          | (cases hs; done)
      · cases h1
  · -- '==', '!=' of what is no number
    have eqn : ∀ r, eqSV (match P.underlying ty with
        | some (.bool) => 1
        | some (.slice _) => 3
        | some (.struct _) | some (.array _ _) => eqTag P ty
        | _ => 0) ((szT P ty).getD 0) (x'.ev t) (y'.ev t) = some r → (eqGuard op ty x y (a.eval x) (a.eval y)).run P w = .ok () w ∧
          (Go.binOp .eql ty (a.eval x) (a.eval y)).run P w = .ok (.bool r) w ∧ (Go.binOp .neq ty (a.eval x) (a.eval y)).run P w = .ok (.bool (!r)) w := by
      intro r hr
      have tag1 : ∀ {T : Nat}, T = (match P.underlying ty with
        | some (.bool) => 1
        | some (.slice _) => 3
        | some (.struct _) | some (.array _ _) => eqTag P ty
        | _ => 0) → (T = 1 → P.underlying ty = some .bool) ∧ (T = 3 → ∃ e, P.underlying ty = some (.slice e)) ∧ (5 ≤ T → T = eqTag P ty ∧ agT P ty = some true) := by
        intro T hT
        have := eqTag_other (P := P) (ty := ty)
        split at hT
        · rename_i hu; exact ⟨fun _ => hu, fun e => by omega, fun e => by omega⟩
        · rename_i e hu; exact ⟨fun e => by omega, fun _ => ⟨_, hu⟩, fun e => by omega⟩
        · rename_i hu; exact ⟨fun e => by omega, fun e => by omega, fun _ => ⟨hT, by simp [agT, hu]⟩⟩
        · rename_i hu; exact ⟨fun e => by omega, fun e => by omega, fun _ => ⟨hT, by simp [agT, hu]⟩⟩
        · exact ⟨fun e => by omega, fun e => by omega, fun e => by omega⟩
      generalize hT : (match P.underlying ty with
        | some (.bool) => 1
        | some (.slice _) => 3
        | some (.struct _) | some (.array _ _) => eqTag P ty
        | _ => 0) = T at hr
      obtain ⟨t1, t3, t5⟩ := tag1 hT.symm
      have nilCase : T = 3 → ∀ (X Y : Value), a.eval x = X → a.eval y = Y → ((X = .slice none 0 0 ∧ ∃ b l c, Y = .slice b l c ∧ b.isNone = r) ∨ (Y = .slice none 0 0 ∧ ∃ b l c, X = .slice b l c ∧ b.isNone = r)) →
          (eqGuard op ty x y (a.eval x) (a.eval y)).run P w = .ok () w ∧ (Go.binOp .eql ty (a.eval x) (a.eval y)).run P w = .ok (.bool r) w ∧ (Go.binOp .neq ty (a.eval x) (a.eval y)).run P w = .ok (.bool (!r)) w := by
        intro h3 X Y hX hY hor
        obtain ⟨e, hu⟩ := t3 h3
        rw [hX, hY]
        rcases hor with ⟨rfl, b, l, c, rfl, hb⟩ | ⟨rfl, b, l, c, rfl, hb⟩
        · have hq := run_equalIn_nil_slice (P := P) w 9999 ty e 0 0 b l c hu
          refine ⟨by cases op <;> simp [eqGuard], ?_, ?_⟩ <;> simp [Go.binOp, Op.equal, Op.maxDepth, hq, hb]
        · have hq := run_equal_slice_nil (P := P) w ty e b l c hu
          refine ⟨by cases op <;> simp [eqGuard], ?_, ?_⟩ <;> simp [Go.binOp, hq, hb]
      unfold eqSV at hr
      split at hr
      · rename_i b c e1 e2
        cases ht : Nat.beq T 1 with
        | false => rw [ht] at hr; cases hr
        | true =>
          rw [ht] at hr
          cases hr
          have hu := t1 (Nat.eq_of_beq_eq_true ht)
          have hX := hok.bool e1
          have hY := hok'.bool e2
          rw [hX, hY]
          exact ⟨run_eqGuard_sc (s := .bool b) (s' := .bool c) (by simp), by simp [Go.binOp, Op.equal, Op.maxDepth, run_equalIn_bool' w 9999 ty b c hu], by simp [Go.binOp, Op.equal, Op.maxDepth, run_equalIn_bool' w 9999 ty b c hu]⟩
      · rename_i b c e1 e2
        cases hr
        have hX : a.eval x = .string b := by have := hok.1; rw [e1] at this; simpa only [VR, Sc.val] using this
        have hY : a.eval y = .string c := by have := hok'.1; rw [e2] at this; simpa only [VR, Sc.val] using this
        rw [hX, hY]
        exact ⟨run_eqGuard_sc (s := .str b) (s' := .str c) (by simp), by simp [Go.binOp, Op.stringOp, ← beq_toListBytes, bytes_beq], by simp [Go.binOp, Op.stringOp, ← beq_toListBytes, bytes_beq]⟩
      · rename_i cs ds e1 e2
        cases ht : Nat.ble 5 T with
        | false => rw [ht] at hr; cases hr
        | true =>
          rw [ht, Bool.true_and] at hr
          cases hln : Nat.beq cs.length ((szT P ty).getD 0) with
          | false => rw [hln] at hr; cases hr
          | true =>
          rw [hln] at hr
          simp only [cond_true] at hr
          have hln := Nat.eq_of_beq_eq_true hln
          have h5 : 5 ≤ T := Nat.le_of_ble_eq_true ht
          obtain ⟨hTe, hagt⟩ := t5 h5
          subst hTe
          obtain ⟨⟨g1, g0⟩, g2⟩ := eqTag_spec h5
          obtain ⟨A, hA, kA, oA⟩ := hok.agg e1
          obtain ⟨B, hB, kB, oB⟩ := hok'.agg e2
          obtain ⟨ag, hag, hn1⟩ := eqT_ag g2
          have hsz : ∃ n, szT P ty = some n ∧ cs.length = n := by
            obtain ⟨n, hn⟩ := Option.isSome_iff_exists.1 g0
            rw [hn] at hln
            exact ⟨n, hn, hln⟩
          obtain ⟨n, hn, hcl⟩ := hsz
          have hrun := eqC_of 20 ty 9980 g2 w w0 ρ (.agg A) (.agg B) cs ds n r hn hcl kA.1 kB.1 (fun _ => ⟨⟨_, rfl⟩, ⟨_, rfl⟩⟩) (fun e => by rw [hagt] at e; cases e) hr
          rw [hA, hB]
          refine ⟨run_eqGuard_agg w op ty x y A B g1, ?_, ?_⟩ <;> simp [Go.binOp, Op.equal, Op.maxDepth, hrun]
      all_goals first
        | (cases hr; done)
        | (rename_i e1 e2
           cases ht : Nat.beq T 3 with
           | false => rw [ht] at hr; cases hr
           | true =>
             rw [ht] at hr
             cases hr
             have h3 := Nat.eq_of_beq_eq_true ht
             have hX := hok.1
             have hY := hok'.1
             rw [e1] at hX
             rw [e2] at hY
             simp only [VR, Sc.val] at hX hY
             first
               | exact nilCase h3 _ _ hX hY (.inl ⟨rfl, none, 0, 0, rfl, rfl⟩)
               | (obtain ⟨p, cap, oo, _, hY, _⟩ := hY; exact nilCase h3 _ _ hX hY (.inl ⟨rfl, _, _, _, rfl, rfl⟩))
               | (obtain ⟨p, cap, oo, _, hX, _⟩ := hX; exact nilCase h3 _ _ hX hY (.inr ⟨rfl, _, _, _, rfl, rfl⟩))
               | (obtain ⟨p, cap, oo, hY, _⟩ := hY; exact nilCase h3 _ _ hX hY (.inl ⟨rfl, _, _, _, rfl, rfl⟩))
               | (obtain ⟨p, cap, oo, hX, _⟩ := hX; exact nilCase h3 _ _ hX hY (.inr ⟨rfl, _, _, _, rfl, rfl⟩)))
    split at h1
    · obtain ⟨r, hr, rfl⟩ := Option.map_eq_some_iff.1 h1
      obtain ⟨g1, g2, _⟩ := eqn r hr
      exact ⟨_, fin _ g1 g2, OK.mk_bool⟩
    · obtain ⟨r, hr, rfl⟩ := Option.map_eq_some_iff.1 h1
      obtain ⟨g1, _, g2⟩ := eqn r hr
      exact ⟨_, fin _ g1 g2, OK.mk_bool⟩
    · cases h1
end
end Go.Proofs.Ytojjhcgbbmknmaa.Sh
