/- Functions as the shadow has them: blocks, instructions; rows of rows. -/
import Derived.Test.YtojjhcgbbmknmaaShT3
namespace Go.Proofs.Ytojjhcgbbmknmaa.Sh
set_option linter.unusedSimpArgs false
set_option linter.unusedVariables false
open Go Go.Proofs

structure InsD where
  op : Int
  dst : Int
  a : Int
  b : Int
  imm : Int
  callee : Int
  args : Option (List Int)
  many : Int
def InsD.cells (d : InsD) : List SV := [.sc (.int .i64 d.op), .sc (.int .i64 d.dst), .sc (.int .i64 d.a), .sc (.int .i64 d.b), .sc (.int .i64 d.imm), .sc (.int .i64 d.callee), intsV d.args, .sc (.int .i64 d.many)]
/-- A row of records. -/
def recV {α : Type} (sz : Nat) (enc : α → List SV) : Option (List α) → SV
  | none => .sc .nilsl
  | some l => .lst l.length sz (l.flatMap enc)
theorem pures_append : ∀ {l m : List SV}, pures (l ++ m) = (pures l && pures m)
  | [], m => by simp [pures]
  | c :: l, m => by simp [pures, pures_append (l := l), Bool.and_assoc]
theorem pures_flat {α : Type} {enc : α → List SV} (h : ∀ x, pures (enc x) = true) : ∀ l : List α, pures (l.flatMap enc) = true
  | [] => rfl
  | x :: l => by rw [List.flatMap_cons, pures_append, h x, pures_flat h l]; rfl
theorem pure_rec {α : Type} {sz : Nat} {enc : α → List SV} (h : ∀ x, pures (enc x) = true) (o : Option (List α)) : (recV sz enc o).pure = true := by
  cases o with
  | none => rfl
  | some l => exact pures_flat h l
theorem lenSV_rec {α : Type} {sz : Nat} {enc : α → List SV} (o : Option (List α)) : lenSV (recV sz enc o) = some (ol o).length := by cases o <;> rfl
theorem rec_of_lt {α : Type} {sz : Nat} {enc : α → List SV} {o : Option (List α)} {k : Nat} (h : k < (ol o).length) : recV sz enc o = .lst (ol o).length sz ((ol o).flatMap enc) := by
  cases o with
  | none => simp [ol] at h
  | some l => rfl
theorem ints_of_lt {o : Option (List Int)} {k : Nat} (h : k < (ol o).length) : intsV o = .lst (ol o).length 1 ((ol o).map SV.int) := by
  cases o with
  | none => simp [ol] at h
  | some l => rfl
theorem flat_len {α : Type} {enc : α → List SV} {sz : Nat} (he : ∀ x, (enc x).length = sz) : ∀ l : List α, (l.flatMap enc).length = l.length * sz
  | [] => by simp
  | x :: l => by rw [List.flatMap_cons, List.length_append, he, flat_len he l, List.length_cons, Nat.add_mul, Nat.one_mul, Nat.add_comm]
theorem flat_drop {α : Type} {enc : α → List SV} {sz : Nat} (he : ∀ x, (enc x).length = sz) : ∀ {l : List α} {i : Nat} {x : α}, l[i]? = some x → (l.flatMap enc).drop (i * sz) = enc x ++ (l.drop (i + 1)).flatMap enc
  | [], i, x, h => by simp at h
  | y :: l, 0, x, h => by simp at h; subst h; simp
  | y :: l, i + 1, x, h => by
    rw [List.flatMap_cons, show (i + 1) * sz = (enc y).length + i * sz by rw [Nat.add_mul, he]; omega, List.drop_append]
    rw [List.drop_eq_nil_of_le (by omega), show (enc y).length + i * sz - (enc y).length = i * sz by omega, flat_drop he (l := l) (by simpa using h)]
    simp
theorem cut_flat {α : Type} {enc : α → List SV} {sz : Nat} (he : ∀ x, (enc x).length = sz) {l : List α} {i : Nat} {x : α} (h : l[i]? = some x) (j n : Nat) (hj : j + n ≤ sz) : cut (l.flatMap enc) (i * sz + j) n = some (((enc x).drop j).take n) := by
  have hlt : i < l.length := (List.getElem?_eq_some_iff.1 h).1
  have hm : (i + 1) * sz ≤ l.length * sz := Nat.mul_le_mul_right _ hlt
  rw [Nat.add_mul, Nat.one_mul] at hm
  rw [cut_eq' (by rw [flat_len he]; omega), ← List.drop_drop, flat_drop he h, List.drop_append_of_le_length (by rw [he]; omega), List.take_append_of_le_length (by rw [List.length_drop, he]; omega)]
theorem cut_flat0 {α : Type} {enc : α → List SV} {sz : Nat} (he : ∀ x, (enc x).length = sz) {l : List α} {i : Nat} {x : α} (h : l[i]? = some x) (n : Nat) (hj : n ≤ sz) : cut (l.flatMap enc) (i * sz) n = some ((enc x).take n) := by
  have := cut_flat he h 0 n (by omega)
  simpa using this

theorem pures_ins (x : InsD) : pures x.cells = true := by simp [InsD.cells, pures, SV.pure, pure_ints]
def insV : Option (List InsD) → SV := recV 8 InsD.cells
structure BlkD where
  ins : Option (List InsD)
  term : TermD
def BlkD.cells (b : BlkD) : List SV := [insV b.ins, .sc (.int .i64 b.term.k), .sc (.int .i64 b.term.a), .sc (.int .i64 b.term.x), .sc (.int .i64 b.term.y)]
theorem pures_blk (x : BlkD) : pures x.cells = true := by simp [BlkD.cells, pures, SV.pure, insV, pure_rec pures_ins]
def blksV : Option (List BlkD) → SV := recV 5 BlkD.cells
theorem pure_insV (o : Option (List InsD)) : (insV o).pure = true := pure_rec pures_ins o
theorem pure_blks (o : Option (List BlkD)) : (blksV o).pure = true := pure_rec pures_blk o
structure FuncD where
  params : Option (List Int)
  blocks : Option (List BlkD)
def FuncD.cells (f : FuncD) : List SV := [intsV f.params, blksV f.blocks]
def FuncD.sv (f : FuncD) : SV := .agg f.cells
def FuncD.bl (f : FuncD) : List BlkD := ol f.blocks
theorem pures_func (f : FuncD) : pures f.cells = true := by simp [FuncD.cells, pures, blksV, pure_ints, pure_rec pures_blk]
theorem pure_func (f : FuncD) : f.sv.pure = true := pures_func f

theorem flat_ints (o : Option (List Int)) : (intsV o).flat = [intsV o] := by cases o <;> rfl
theorem lay_ints (o : Option (List Int)) : (intsV o).lay = true := by cases o <;> rfl
theorem one_ints (o : Option (List Int)) : (intsV o).one = true := by cases o <;> rfl
theorem flat_recV {α : Type} {sz : Nat} {enc : α → List SV} (o : Option (List α)) : (recV sz enc o).flat = [recV sz enc o] := by cases o <;> rfl
theorem lay_recV {α : Type} {sz : Nat} {enc : α → List SV} (o : Option (List α)) : (recV sz enc o).lay = true := by cases o <;> rfl
theorem one_recV {α : Type} {sz : Nat} {enc : α → List SV} (o : Option (List α)) : (recV sz enc o).one = true := by cases o <;> rfl
/-- Rules for rows. -/
theorem ev2 : (∀ o, (intsV o).flat = [intsV o]) ∧ (∀ o, (intsV o).lay = true) ∧ (∀ o, (intsV o).one = true) ∧ (∀ o, lenSV (intsV o) = some (ol o).length) ∧
    (∀ o, (insV o).flat = [insV o]) ∧ (∀ o, (insV o).lay = true) ∧ (∀ o, (insV o).one = true) ∧ (∀ o, lenSV (insV o) = some (ol o).length) ∧
    (∀ o, (blksV o).flat = [blksV o]) ∧ (∀ o, (blksV o).lay = true) ∧ (∀ o, (blksV o).one = true) ∧ (∀ o, lenSV (blksV o) = some (ol o).length) :=
  ⟨flat_ints, lay_ints, one_ints, lenSV_ints, flat_recV, lay_recV, one_recV, lenSV_rec, flat_recV, lay_recV, one_recV, lenSV_rec⟩

/-! ### A function that fits -/
/-- Where a function's blocks go; whence. -/
def FuncD.to (f : FuncD) : List (Option (List Int)) := f.bl.map fun b => b.term.to
def fromStep (L : List (List Int)) (k : Nat) (l : List Int) : List (List Int) := l.foldl (fun L y => L.set y.toNat (L.getD y.toNat [] ++ [(k : Int)])) L
def fromsK (n : Nat) (rows : List (Option (List Int))) : Nat → List (List Int)
  | 0 => List.replicate n []
  | k + 1 => fromStep (fromsK n rows k) k (ol (rows.getD k none))
def FuncD.froms (f : FuncD) : List (List Int) := fromsK f.bl.length f.to f.bl.length
def nilRow (l : List Int) : Option (List Int) := if l = [] then none else some l
theorem ol_nilRow (l : List Int) : ol (nilRow l) = l := by unfold nilRow; split <;> simp_all [ol]
def FuncD.from_ (f : FuncD) : List (Option (List Int)) := f.froms.map nilRow
theorem fromStep_len (L : List (List Int)) (k : Nat) (l : List Int) : (fromStep L k l).length = L.length := by
  unfold fromStep
  induction l generalizing L with
  | nil => rfl
  | cons y l ih => rw [List.foldl_cons, ih]; simp
theorem fromsK_len (n : Nat) (rows : List (Option (List Int))) : ∀ k, (fromsK n rows k).length = n
  | 0 => by simp [fromsK]
  | k + 1 => by rw [fromsK, fromStep_len, fromsK_len n rows k]
theorem fromStep_add (L : List (List Int)) (k : Nat) (l : List Int) (y : Int) : fromStep L k (l ++ [y]) = (fromStep L k l).set y.toNat ((fromStep L k l).getD y.toNat [] ++ [(k : Int)]) := by
  unfold fromStep; rw [List.foldl_append]; rfl

theorem fromStep_get (k : Nat) {x : Nat} : ∀ (l : List Int) (L : List (List Int)) (l0 : List Int), L[x]? = some l0 → (fromStep L k l)[x]? = some (l0 ++ (l.filter (fun y => decide (y.toNat = x))).map (fun _ => (k : Int)))
  | [], L, l0, h => by simpa [fromStep] using h
  | y :: l, L, l0, h => by
    have hx : x < L.length := (List.getElem?_eq_some_iff.1 h).1
    have e : fromStep L k (y :: l) = fromStep (L.set y.toNat (L.getD y.toNat [] ++ [(k : Int)])) k l := rfl
    rw [e]
    by_cases hy : y.toNat = x
    · rw [fromStep_get k l _ (l0 ++ [(k : Int)]) (by rw [hy, List.getElem?_set_self hx, List.getD_eq_getElem?_getD, h]; rfl)]
      simp [List.filter_cons, hy]
    · rw [fromStep_get k l _ l0 (by rw [List.getElem?_set_ne hy]; exact h)]
      simp [List.filter_cons, hy]
/-- What comes to a block: from where, in order. -/
def comes (rows : List (Option (List Int))) (x k : Nat) : List Int := (List.range k).flatMap fun i => ((ol (rows.getD i none)).filter (fun y => decide (y.toNat = x))).map (fun _ => (i : Int))
theorem comes_succ (rows : List (Option (List Int))) (x k : Nat) : comes rows x (k + 1) = comes rows x k ++ ((ol (rows.getD k none)).filter (fun y => decide (y.toNat = x))).map (fun _ => (k : Int)) := by
  unfold comes; rw [List.range_succ, List.flatMap_append]; simp
theorem fromsK_get {n : Nat} {rows : List (Option (List Int))} {x : Nat} (hx : x < n) : ∀ k, (fromsK n rows k)[x]? = some (comes rows x k)
  | 0 => by simp [fromsK, comes, hx]
  | k + 1 => by rw [fromsK, fromStep_get k _ _ _ (fromsK_get hx k), comes_succ]
theorem comes_len {rows : List (Option (List Int))} (h : ∀ r ∈ rows, (ol r).length ≤ 2) (x : Nat) : ∀ k, (comes rows x k).length ≤ 2 * k
  | 0 => by simp [comes]
  | k + 1 => by
    rw [comes_succ, List.length_append, List.length_map]
    have h1 := comes_len h x k
    have h2 := List.length_filter_le (fun y : Int => decide (y.toNat = x)) (ol (rows.getD k none))
    have h3 : (ol (rows.getD k none)).length ≤ 2 := by
      rw [List.getD_eq_getElem?_getD]
      cases e : rows[k]? with
      | none => simp [ol]
      | some r => exact h r (List.mem_of_getElem? e)
    omega

/-- Rows of numbers that lie in blocks of their own, from block lo on. -/
structure RowsOwn (σ : St) (lo : Nat) (F : List SV) (L : List (List Int)) : Prop where
  len : F.length = L.length
  at_ : ∀ (x : Nat) (l : List Int), L[x]? = some l → (l = [] ∧ F[x]? = some (.sc .nilsl)) ∨ (l ≠ [] ∧ ∃ id, F[x]? = some (.sl id 0 l.length 1) ∧ lo ≤ id ∧ id < σ.next ∧ cellsOf σ id = some (l.map SV.int))
  inj : ∀ (x x' id a b a' b' : Nat), F[x]? = some (.sl id a b 1) → F[x']? = some (.sl id a' b' 1) → x = x'
theorem RowsOwn.start (σ : St) (lo n : Nat) : RowsOwn σ lo (List.replicate n (.sc .nilsl)) (List.replicate n []) := by
  refine ⟨by simp, fun x l h => ?_, fun x x' id a b a' b' h _ => ?_⟩
  · rw [List.getElem?_replicate] at h ⊢
    split at h
    · cases h; rename_i hx; rw [if_pos hx]; exact .inl ⟨rfl, rfl⟩
    · cases h
  · rw [List.getElem?_replicate] at h
    split at h <;> cases h
theorem RowsOwn.same {σ σ' : St} {lo : Nat} {F : List SV} {L : List (List Int)} (h : RowsOwn σ lo F L) (hn : σ.next ≤ σ'.next) (hc : ∀ i, lo ≤ i → i < σ.next → cellsOf σ' i = cellsOf σ i) : RowsOwn σ' lo F L := by
  refine ⟨h.len, fun x l hx => ?_, h.inj⟩
  rcases h.at_ x l hx with h1 | ⟨h0, id, h1, h2, h3, h4⟩
  · exact .inl h1
  · exact .inr ⟨h0, id, h1, h2, by omega, by rw [hc id h2 h3]; exact h4⟩
theorem RowsOwn.put {σ σ' : St} {lo : Nat} {F : List SV} {L : List (List Int)} (h : RowsOwn σ lo F L) {x id' : Nat} {l l' : List Int} (hx : L[x]? = some l) (hn : σ.next ≤ id') (hlo : lo ≤ id') (hn' : id' < σ'.next) (hne : l' ≠ []) (hl : cellsOf σ' id' = some (l'.map SV.int))
    (hc : ∀ i, lo ≤ i → i < σ.next → (∀ a b, F[x]? ≠ some (.sl i a b 1)) → cellsOf σ' i = cellsOf σ i) : RowsOwn σ' lo (F.set x (.sl id' 0 l'.length 1)) (L.set x l') := by
  have hlt : x < L.length := (List.getElem?_eq_some_iff.1 hx).1
  have hltF : x < F.length := by rw [h.len]; exact hlt
  have old : ∀ (y id a b : Nat), F[y]? = some (.sl id a b 1) → id < σ.next := by
    intro y id a b hy
    have hyL : y < L.length := by rw [← h.len]; exact (List.getElem?_eq_some_iff.1 hy).1
    obtain ⟨ly, hly⟩ := get_of_lt hyL
    rcases h.at_ y ly hly with ⟨_, h1⟩ | ⟨_, id2, h1, h2, h3, h4⟩
    · rw [hy] at h1; cases h1
    · rw [hy] at h1; cases h1; exact h3
  refine ⟨by simp [h.len], fun y ly hy => ?_, fun y y' id a b a' b' hy hy' => ?_⟩
  · rw [List.getElem?_set] at hy ⊢
    by_cases e : x = y
    · subst e
      rw [if_pos rfl, if_pos hlt] at hy
      cases hy
      rw [if_pos rfl, if_pos hltF]
      exact .inr ⟨hne, id', rfl, hlo, hn', hl⟩
    · rw [if_neg e] at hy ⊢
      rcases h.at_ y ly hy with h1 | ⟨h0, id, h1, h2, h3, h4⟩
      · exact .inl h1
      · refine .inr ⟨h0, id, h1, h2, by omega, ?_⟩
        rw [hc id h2 h3 (fun a b hxx => e (h.inj _ _ _ _ _ _ _ hxx h1))]
        exact h4
  · rw [List.getElem?_set] at hy hy'
    by_cases e : x = y
    · subst e
      rw [if_pos rfl, if_pos hltF] at hy
      cases hy
      by_cases e' : x = y'
      · exact e'
      · rw [if_neg e'] at hy'
        have := old _ _ _ _ hy'; omega
    · rw [if_neg e] at hy
      by_cases e' : x = y'
      · subst e'
        rw [if_pos rfl, if_pos hltF] at hy'
        cases hy'
        have := old _ _ _ _ hy; omega
      · rw [if_neg e'] at hy'
        exact h.inj _ _ _ _ _ _ _ hy hy'
/-- Rows that are read. -/
theorem mapO_of {f : SV → Option SV} : ∀ {l r : List SV}, l.length = r.length → (∀ (i : Nat) (x y : SV), l[i]? = some x → r[i]? = some y → f x = some y) → mapO f l = some r
  | [], [], _, _ => rfl
  | x :: l, y :: r, hl, h => by
    simp only [mapO, h 0 x y rfl rfl, mapO_of (l := l) (r := r) (by simpa using hl) (fun i x y hx hy => h (i + 1) x y (by simpa using hx) (by simpa using hy))]
  | [], _ :: _, hl, _ => by simp at hl
  | _ :: _, [], hl, _ => by simp at hl
theorem frz_ints {σ : St} {id : Nat} {l : List Int} {d : Nat} (h : cellsOf σ id = some (l.map SV.int)) : frz σ (d + 2) (.sl id 0 l.length 1) = some (.lst l.length 1 (l.map SV.int)) := by
  unfold frz
  rw [if_neg (by simp [SV.pure])]
  simp only [h, Option.bind_some, cut_whole (show l.length * 1 = (l.map SV.int).length by simp)]
  rw [mapO_pures (pures_ints l)]
  rfl
theorem RowsOwn.frz {σ : St} {lo : Nat} {F : List SV} {L : List (List Int)} (h : RowsOwn σ lo F L) (d : Nat) : mapO (frz σ (d + 2)) F = some ((L.map nilRow).map intsV) := by
  refine mapO_of (by simp [h.len]) fun i x y hx hy => ?_
  have hlt : i < L.length := by rw [← h.len]; exact (List.getElem?_eq_some_iff.1 hx).1
  obtain ⟨l, hl⟩ := get_of_lt hlt
  simp [hl] at hy
  subst hy
  rcases h.at_ i l hl with ⟨h1, h2⟩ | ⟨h0, id, h1, h2, h3, h4⟩
  · rw [hx] at h2; cases h2; subst h1
    exact frz_pure rfl
  · rw [hx] at h1; cases h1
    rw [frz_ints h4]
    unfold nilRow
    rw [if_neg h0]; rfl
end Go.Proofs.Ytojjhcgbbmknmaa.Sh
