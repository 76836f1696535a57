/- The same evaluator, eager in all that it keeps: for closed calls that the kernel carries out. -/
import Derived.Test.YtojjhcgbbmknmaaShCore
import Derived.Laws.BitsLemmas
namespace Go.Proofs.Ytojjhcgbbmknmaa.Sh
set_option linter.unusedSimpArgs false
set_option linter.unusedVariables false
open Go Go.Proofs

section
variable {R : Type}
def nNat (n : Nat) (k : Nat → R) : R := match n with
  | 0 => k 0
  | m + 1 => k (m + 1)
theorem nNat_eq (n : Nat) (k : Nat → R) : nNat n k = k n := by cases n <;> rfl
def nInt (i : Int) (k : Int → R) : R := match i with
  | .ofNat n => nNat n fun n => k (.ofNat n)
  | .negSucc n => nNat n fun n => k (.negSucc n)
theorem nInt_eq (n : Int) (k : Int → R) : nInt n k = k n := by cases n <;> simp only [nInt, nNat_eq]
def nSc (s : Sc) (k : Sc → R) : R := match s with
  | .int kd n => nInt n fun n => k (.int kd n)
  | .bool true => k (.bool true)
  | .bool false => k (.bool false)
  | .str s => k (.str s)
  | .nilsl => k .nilsl
  | .nilptr => k .nilptr
  | .nilmap => k .nilmap
  | .nilfn => k .nilfn
  | .nilif => k .nilif
  | .undef => k .undef
theorem nSc_eq (s : Sc) (k : Sc → R) : nSc s k = k s := by
  cases s with
  | bool b => cases b <;> rfl
  | int kd n => simp only [nSc, nInt_eq]
  | _ => rfl
mutual
def nSV : SV → (SV → R) → R
  | .sc s, k => nSc s fun s => k (.sc s)
  | .agg cs, k => nL cs fun cs => k (.agg cs)
  | .tup cs, k => nL cs fun cs => k (.tup cs)
  | .sl a b c d, k => nNat a fun a => nNat b fun b => nNat c fun c => nNat d fun d => k (.sl a b c d)
  | .lst a b cs, k => nNat a fun a => nNat b fun b => nL cs fun cs => k (.lst a b cs)
  | .ptr a b, k => nNat a fun a => nNat b fun b => k (.ptr a b)
  | .iptr cs a, k => nL cs fun cs => nNat a fun a => k (.iptr cs a)
  | .fn f a b, k => nNat f fun f => nL a fun a => nL b fun b => k (.fn f a b)
  | .yld l, k => nNat l fun l => k (.yld l)
  | .mp l, k => nNat l fun l => k (.mp l)
def nL : List SV → (List SV → R) → R
  | [], k => k []
  | c :: cs, k => nSV c fun c => nL cs fun cs => k (c :: cs)
end
mutual
theorem nSV_eq : ∀ (v : SV) (k : SV → R), nSV v k = k v
  | .sc s, k => by simp only [nSV, nSc_eq]
  | .agg cs, k => by simp only [nSV, nL_eq cs]
  | .tup cs, k => by simp only [nSV, nL_eq cs]
  | .sl a b c d, k => by simp only [nSV, nNat_eq]
  | .lst a b cs, k => by simp only [nSV, nNat_eq, nL_eq cs]
  | .ptr a b, k => by simp only [nSV, nNat_eq]
  | .iptr cs a, k => by simp only [nSV, nNat_eq, nL_eq cs]
  | .fn f a b, k => by simp only [nSV, nNat_eq, nL_eq a, nL_eq b]
  | .yld l, k => by simp only [nSV, nNat_eq]
  | .mp l, k => by simp only [nSV, nNat_eq]
theorem nL_eq : ∀ (v : List SV) (k : List SV → R), nL v k = k v
  | [], k => rfl
  | c :: cs, k => by simp only [nL, nSV_eq c, nL_eq cs]
end
variable {α : Type}
def setK : Nat → Tr α → Nat → α → (Tr α → R) → R
  | 0, t, _, _, k => k t
  | f + 1, .nil, n, x, k => bif Nat.beq n 0 then k (.node .nil (some x) .nil) else bif Nat.beq (n % 2) 1 then setK f .nil (n / 2) x fun l => k (.node l none .nil) else setK f .nil (n / 2 - 1) x fun r => k (.node .nil none r)
  | f + 1, .node l v r, n, x, k => bif Nat.beq n 0 then k (.node l (some x) r) else bif Nat.beq (n % 2) 1 then setK f l (n / 2) x fun l => k (.node l v r) else setK f r (n / 2 - 1) x fun r => k (.node l v r)
theorem setK_eq : ∀ (f : Nat) (t : Tr α) (n : Nat) (x : α) (k : Tr α → R), setK f t n x k = k (Tr.put0 f t n x)
  | 0, t, n, x, k => rfl
  | f + 1, .nil, n, x, k => by
    simp only [setK, Tr.put0, setK_eq f]
    cases Nat.beq n 0 <;> cases Nat.beq (n % 2) 1 <;> rfl
  | f + 1, .node l v r, n, x, k => by
    simp only [setK, Tr.put0, setK_eq f]
    cases Nat.beq n 0 <;> cases Nat.beq (n % 2) 1 <;> rfl
theorem put0_fuel : ∀ (f g : Nat) (t : Tr α) (n : Nat) (x : α), n < f → n < g → Tr.put0 f t n x = Tr.put0 g t n x
  | 0, _, _, _, _, h, _ => by omega
  | _ + 1, 0, _, _, _, _, h => by omega
  | f + 1, g + 1, .nil, n, x, h1, h2 => by
    simp only [Tr.put0]
    cases hn : Nat.beq n 0 with
    | true => rfl
    | false =>
      have : n ≠ 0 := fun e => by subst e; cases hn
      rw [put0_fuel f g .nil (n / 2) x (by omega) (by omega), put0_fuel f g .nil (n / 2 - 1) x (by omega) (by omega)]
  | f + 1, g + 1, .node l v r, n, x, h1, h2 => by
    simp only [Tr.put0]
    cases hn : Nat.beq n 0 with
    | true => rfl
    | false =>
      have : n ≠ 0 := fun e => by subst e; cases hn
      rw [put0_fuel f g l (n / 2) x (by omega) (by omega), put0_fuel f g r (n / 2 - 1) x (by omega) (by omega)]
noncomputable def setT (t : Tr α) (n : Nat) (x : α) (k : Tr α → R) : R :=
  Tr.rec (motive := fun _ => Nat → (Tr α → R) → R) (fun n k => setK (n + 1) .nil n x k)
    (fun l v r il ir n k => bif Nat.beq n 0 then k (.node l (some x) r) else bif Nat.beq (n % 2) 1 then il (n / 2) (fun l => k (.node l v r)) else ir (n / 2 - 1) (fun r => k (.node l v r))) t n k
theorem setT_eq (x : α) : ∀ (t : Tr α) (n : Nat) (k : Tr α → R), setT t n x k = k (t.set n x)
  | .nil, n, k => by show setK (n + 1) .nil n x k = _; rw [setK_eq]; rfl
  | .node l v r, n, k => by
    show (bif Nat.beq n 0 then k (.node l (some x) r) else bif Nat.beq (n % 2) 1 then setT l (n / 2) x (fun l => k (.node l v r)) else setT r (n / 2 - 1) x (fun r => k (.node l v r))) = _
    rw [setT_eq x l, setT_eq x r]
    show _ = k (Tr.put0 (n + 1) (.node l v r) n x)
    simp only [Tr.put0]
    cases hn : Nat.beq n 0 with
    | true => rfl
    | false =>
      have : n ≠ 0 := fun e => by subst e; cases hn
      simp only [cond_false]
      cases hm : Nat.beq (n % 2) 1 with
      | true => simp only [cond_true]; unfold Tr.set; rw [put0_fuel (n / 2 + 1) n l (n / 2) x (by omega) (by omega)]
      | false => simp only [cond_false]; unfold Tr.set; rw [put0_fuel (n / 2 - 1 + 1) n r (n / 2 - 1) x (by omega) (by omega)]
noncomputable def getR (t : Tr α) (n : Nat) : Option α :=
  Tr.rec (motive := fun _ => Nat → Option α) (fun _ => none) (fun _ v _ il ir n => bif Nat.beq n 0 then v else bif Nat.beq (n % 2) 1 then il (n / 2) else ir (n / 2 - 1)) t n
theorem getR_eq : ∀ (t : Tr α) (n : Nat), getR t n = t.get n
  | .nil, n => rfl
  | .node l v r, n => by
    show (bif Nat.beq n 0 then v else bif Nat.beq (n % 2) 1 then getR l (n / 2) else getR r (n / 2 - 1)) = _
    rw [getR_eq l, getR_eq r]; rfl
noncomputable def setS (σ : St) (i : Nat) (o : Ob) (k : St → R) : R := match σ with
  | ⟨h, n⟩ => setT h i o fun h => k ⟨h, n⟩
theorem setS_eq (σ : St) (i : Nat) (o : Ob) (k : St → R) : setS σ i o k = k (σ.set i o) := by cases σ; simp only [setS, setT_eq]; rfl
noncomputable def pushS (σ : St) (o : Ob) (k : St → R) : R := match σ with
  | ⟨h, n⟩ => setT h n o fun h => nNat (n + 1) fun n => k ⟨h, n⟩
theorem pushS_eq (σ : St) (o : Ob) (k : St → R) : pushS σ o k = k (σ.push o) := by cases σ; simp only [pushS, setT_eq, nNat_eq]; rfl
noncomputable def putN (t : Tr SV) (d : Option Nat) (v : SV) (k : Tr SV → R) : R := match d with
  | some d => setT t d v k
  | none => k t
theorem putN_eq (t : Tr SV) (d : Option Nat) (v : SV) (k : Tr SV → R) : putN t d v k = k (putD t d v) := by cases d <;> simp only [putN, putD, setT_eq]
noncomputable def evR (x : Opd) (t : Tr SV) : SV := match x with
  | .t n => (match getR t n with
    | some v => v
    | none => .sc .undef)
  | .k v => v
theorem evR_eq (x : Opd) (t : Tr SV) : evR x t = x.ev t := by cases x <;> simp only [evR, Opd.ev, getT, getR_eq] <;> rfl
noncomputable def wantR (t : Tr SV) (g : Option (Nat × Bool)) : Option Bool := match g with
  | none => some true
  | some (g, b) => match evR (.t g) t with
    | .sc (.bool c) => some (c == b)
    | .sc .undef => some false
    | _ => none
theorem wantR_eq (t : Tr SV) (g : Option (Nat × Bool)) : wantR t g = wantedS t g := by cases g <;> simp only [wantR, wantedS, evR_eq, Opd.ev] <;> rfl
noncomputable def cellsR (σ : St) (id : Nat) : Option (List SV) := match getR σ.heap id with
  | some (.cells cs) => some cs
  | _ => none
theorem cellsR_eq (σ : St) (id : Nat) : cellsR σ id = cellsOf σ id := by simp only [cellsR, cellsOf, getR_eq, St.get]; rfl
noncomputable def fillN (t : Tr SV) (n : Nat) : List SV → (Tr SV → R) → R
  | [], k => k t
  | x :: r, k => setT t n x fun t => fillN t (n + 1) r k
theorem fillN_eq : ∀ (l : List SV) (t : Tr SV) (n : Nat) (k : Tr SV → R), fillN t n l k = k (Tr.fill t n l)
  | [], t, n, k => rfl
  | x :: r, t, n, k => by simp only [fillN, setT_eq, fillN_eq r]; rfl
noncomputable def manyN (t : Tr SV) : List Nat → List SV → (Tr SV → R) → R
  | p :: ps, v :: vs, k => setT t p v fun t => manyN t ps vs k
  | _, _, k => k t
theorem manyN_eq : ∀ (ps : List Nat) (vs : List SV) (t : Tr SV) (k : Tr SV → R), manyN t ps vs k = k (setMany t ps vs)
  | p :: ps, v :: vs, t, k => by simp only [manyN, setT_eq, manyN_eq ps vs, setMany]
  | [], _, t, k => by simp [manyN, setMany]
  | _ :: _, [], t, k => by simp [manyN, setMany]
end
def outN (v : SV) (σ : St) : Option (SV × St) := nSV v fun v => some (v, σ)
theorem outN_eq (v : SV) (σ : St) : outN v σ = some (v, σ) := by simp only [outN, nSV_eq]
noncomputable def newN (σ : St) (cs : List SV) (mk : Nat → SV) : Option (SV × St) := nL cs fun cs => pushS σ (.cells cs) fun σ' => nSV (mk σ.next) fun v => some (v, σ')
theorem newN_eq (σ : St) (cs : List SV) (mk : Nat → SV) : newN σ cs mk = some (mk σ.next, σ.push (.cells cs)) := by simp only [newN, nL_eq, pushS_eq, nSV_eq]
/-! Lists, by their recursors: quicker in the kernel. -/
noncomputable def lenR (l : List SV) : Nat := List.rec 0 (fun _ _ ih => ih + 1) l
theorem lenR_eq : ∀ l : List SV, lenR l = l.length
  | [] => rfl
  | c :: l => by show lenR l + 1 = _; rw [lenR_eq l]; rfl
noncomputable def dropR (n : Nat) (l : List SV) : List SV := Nat.rec (motive := fun _ => List SV → List SV) (fun l => l) (fun _ ih l => List.casesOn l [] (fun _ t => ih t)) n l
theorem dropR_eq : ∀ (n : Nat) (l : List SV), dropR n l = l.drop n
  | 0, l => rfl
  | n + 1, [] => rfl
  | n + 1, c :: l => by show dropR n l = _; rw [dropR_eq n l]; rfl
noncomputable def oneAt (cs : List SV) (off : Nat) : Option SV := List.casesOn (dropR off cs) none (fun c _ => some c)
theorem oneAt_eq (cs : List SV) (off : Nat) : oneAt cs off = cs[off]? := by
  unfold oneAt
  rw [dropR_eq]
  by_cases h : off < cs.length
  · rw [List.drop_eq_getElem_cons h, List.getElem?_eq_getElem h]
  · rw [List.drop_eq_nil_of_le (by omega), List.getElem?_eq_none (by omega)]
noncomputable def pasteK {R : Type} (off : Nat) (cs : List SV) (v : SV) (k : List SV → R) : R :=
  Nat.rec (motive := fun _ => List SV → (List SV → R) → R) (fun cs k => List.casesOn cs (k [v]) (fun _ t => k (v :: t))) (fun _ ih cs k => List.casesOn cs (k [v]) (fun c t => ih t (fun t => k (c :: t)))) off cs k
theorem pasteK_eq {R : Type} (v : SV) : ∀ (off : Nat) (cs : List SV) (k : List SV → R), pasteK off cs v k = k (paste cs off [v])
  | 0, [], k => rfl
  | 0, c :: cs, k => rfl
  | off + 1, [], k => rfl
  | off + 1, c :: cs, k => by
    show pasteK off cs v (fun t => k (c :: t)) = _
    rw [pasteK_eq v off cs]; simp [paste]
noncomputable def loadN (σ : St) (ag : Bool) (n : Nat) (p : SV) : Option (SV × St) := match p with
  | .ptr id off => match cellsR σ id with
    | some cs => bif Nat.beq n 1 && !ag then (match oneAt cs off with
        | some v => some (v, σ)
        | none => none)
      else bif ag && (Nat.beq off 0 && Nat.beq (lenR cs) n) then some (.agg cs, σ)
      else (match loadSV σ ag n (.ptr id off) with
        | some v => outN v σ
        | none => none)
    | none => none
  | p => match loadSV σ ag n p with
    | some v => outN v σ
    | none => none
theorem map_outN (o : Option SV) (σ : St) : (match o with | some v => outN v σ | none => none) = o.map fun v => (v, σ) := by cases o <;> simp [outN_eq]
theorem loadN_eq (σ : St) (ag : Bool) (n : Nat) (p : SV) : loadN σ ag n p = (loadSV σ ag n p).map fun v => (v, σ) := by
  cases p with
  | ptr id off =>
    simp only [loadN, map_outN, cellsR_eq]
    cases hc : cellsOf σ id with
    | none => simp [loadSV, hc]
    | some cs =>
      simp only
      cases h1 : (Nat.beq n 1 && !ag) with
      | true =>
        simp only [Bool.and_eq_true, Bool.not_eq_true'] at h1
        have hn : n = 1 := Nat.eq_of_beq_eq_true h1.1
        rw [hn, h1.2, oneAt_eq]
        simp only [cond_true, loadSV, hc, Option.bind_some, cut_def]
        by_cases h : off < cs.length
        · rw [List.getElem?_eq_getElem h, if_pos (by omega), List.drop_eq_getElem_cons h]; rfl
        · rw [List.getElem?_eq_none (by omega), if_neg (by omega)]; rfl
      | false =>
        simp only [cond_false]
        cases h2 : (ag && (Nat.beq off 0 && Nat.beq (lenR cs) n)) with
        | true =>
          simp only [Bool.and_eq_true] at h2
          have ho : off = 0 := Nat.eq_of_beq_eq_true h2.2.1
          have hl : lenR cs = n := Nat.eq_of_beq_eq_true h2.2.2
          rw [lenR_eq] at hl
          subst ho; subst hl
          simp [h2.1, loadSV, hc, cut_def, unflat]
        | false => rfl
  | _ => simp only [loadN, map_outN]
noncomputable def storeN (σ : St) (n : Nat) (p v : SV) (slow : Option (SV × St)) : Option (SV × St) := match p with
  | .ptr id off => match cellsR σ id with
    | some cs => (match v with
      | .agg ds => bif Nat.beq off 0 && (Nat.beq (lenR ds) n && Nat.beq (lenR cs) n) then setS σ id (.cells ds) fun σ => some (.undef, σ) else slow
      | .tup _ => slow
      | .sc .undef => slow
      | v => bif Nat.beq n 1 then (match oneAt cs off with
          | some _ => pasteK off cs v fun cs => setS σ id (.cells cs) fun σ => some (.undef, σ)
          | none => none) else slow)
    | none => none
  | _ => none
theorem storeN_eq (σ : St) (n : Nat) (a x : Opd) (t : Tr SV) : storeN σ n (a.ev t) (x.ev t) (sop (.store n a x) t σ) = sop (.store n a x) t σ := by
  cases ha : a.ev t with
  | ptr id off =>
    simp only [storeN, cellsR_eq]
    cases hc : cellsOf σ id with
    | none => simp [sop, ha, hc]
    | some cs =>
      simp only
      have one : ∀ v : SV, x.ev t = v → v.flat = [v] → v.lay = true → (bif Nat.beq n 1 then (match oneAt cs off with
          | some _ => pasteK off cs v fun cs => setS σ id (.cells cs) fun σ => some (.undef, σ)
          | none => none) else sop (.store n a x) t σ) = sop (.store n a x) t σ := by
        intro v hx hf hl
        cases hn : Nat.beq n 1 with
        | false => rfl
        | true =>
          have hn : n = 1 := Nat.eq_of_beq_eq_true hn
          subst hn
          simp only [cond_true, oneAt_eq, pasteK_eq, setS_eq, sop, ha, hc, hx, hf, hl, Option.bind_some]
          by_cases h : off < cs.length
          · rw [List.getElem?_eq_getElem h, if_pos ⟨rfl, by omega, trivial⟩]
          · rw [List.getElem?_eq_none (by omega), if_neg (by intro h2; omega)]
      cases hx : x.ev t with
      | agg ds =>
        simp only
        cases h2 : (Nat.beq off 0 && (Nat.beq (lenR ds) n && Nat.beq (lenR cs) n)) with
        | false => rfl
        | true =>
          simp only [Bool.and_eq_true] at h2
          have ho : off = 0 := Nat.eq_of_beq_eq_true h2.1
          have h3 : lenR ds = n := Nat.eq_of_beq_eq_true h2.2.1
          have h4 : lenR cs = n := Nat.eq_of_beq_eq_true h2.2.2
          rw [lenR_eq] at h3 h4
          simp only [cond_true, setS_eq, sop, ha, hc, hx, Option.bind_some, SV.flat, SV.lay]
          rw [if_pos ⟨h3, by omega, trivial⟩, ho, paste_def, List.drop_eq_nil_of_le (by omega)]
          simp
      | tup vs => rfl
      | sc s => cases s <;> first | rfl | exact one _ hx rfl rfl
      | sl a b c d => exact one _ hx rfl rfl
      | lst a b c => exact one _ hx rfl rfl
      | ptr a b => exact one _ hx rfl rfl
      | iptr a b => exact one _ hx rfl rfl
      | fn a b c => exact one _ hx rfl rfl
      | yld l => exact one _ hx rfl rfl
      | mp l => exact one _ hx rfl rfl
  | _ => simp [storeN, sop, ha]
def wrapN (k : IntKind) (n : Int) : Int := match k, n with
  | .i64, .ofNat m => bif Nat.ble m 4611686018427387904 then .ofNat m else IntKind.i64.wrap (.ofNat m)
  | k, n => k.wrap n
theorem wrapN_eq (k : IntKind) (n : Int) : wrapN k n = k.wrap n := by
  unfold wrapN
  split
  · rename_i m
    cases h : Nat.ble m 4611686018427387904 with
    | false => rfl
    | true =>
      have h := Nat.le_of_ble_eq_true h
      simp only [cond_true]
      rw [IntKind.wrap_i64, Int.ofNat_eq_natCast]; omega
  · rfl
def bN (b : Bool) (σ : St) : Option (SV × St) := match b with
  | true => some (.sc (.bool true), σ)
  | false => some (.sc (.bool false), σ)
theorem bN_eq (b : Bool) (σ : St) : bN b σ = some (.sc (.bool b), σ) := by cases b <;> rfl
def iN (k : IntKind) (n : Int) (σ : St) : Option (SV × St) := nInt (wrapN k n) fun n => some (.sc (.int k n), σ)
theorem iN_eq (k : IntKind) (n : Int) (σ : St) : iN k n σ = some (.sc (.int k (k.wrap n)), σ) := by simp only [iN, nInt_eq, wrapN_eq]
def intN (op : BinOp) (a b : Int) (σ : St) (slow : Option (SV × St)) : Option (SV × St) := match op with
  | .add => iN .i64 (a + b) σ
  | .sub => iN .i64 (a - b) σ
  | .eql => bN (a == b) σ
  | .neq => bN (a != b) σ
  | .lss => bN (a < b) σ
  | .leq => bN (a ≤ b) σ
  | .gtr => bN (a > b) σ
  | .geq => bN (a ≥ b) σ
  | _ => slow
def binN (op : BinOp) (x y : SV) (σ : St) (slow : Option (SV × St)) : Option (SV × St) := match x with
  | .sc (.int .i64 a) => (match y with
    | .sc (.int .i64 b) => intN op a b σ slow
    | _ => slow)
  | _ => slow
theorem binN_eq (tag n : Nat) (op : BinOp) (x y : Opd) (t : Tr SV) (σ : St) : binN op (x.ev t) (y.ev t) σ (sop (.bin tag n op x y) t σ) = sop (.bin tag n op x y) t σ := by
  unfold binN
  split
  · rename_i a hx
    split
    · rename_i b hy
      cases op <;> first | rfl | (simp only [intN, iN_eq, bN_eq, sop, hx, hy, binSV, intBin, if_true, Option.map_some, reduceIte]; done) | (simp [intN, iN_eq, bN_eq, sop, hx, hy, binSV, intBin]; done)
    · rfl
  · rfl
def idxN (n sz : Nat) (x i : SV) (σ : St) (slow : Option (SV × St)) : Option (SV × St) := match i with
  | .sc (.int .i64 (.ofNat m)) => bif Nat.blt m n then (match x with
      | .ptr id o => nNat (o + m * sz) fun o => some (.ptr id o, σ)
      | _ => slow) else slow
  | _ => slow
theorem idxN_eq (n sz : Nat) (x i : Opd) (t : Tr SV) (σ : St) : idxN n sz (x.ev t) (i.ev t) σ (sop (.indexArr n sz x i) t σ) = sop (.indexArr n sz x i) t σ := by
  unfold idxN
  split
  · rename_i m hi
    cases h : Nat.blt m n with
    | false => rfl
    | true =>
      have h : m < n := by simpa [Nat.blt_eq] using h
      simp only [cond_true]
      split
      · rename_i id o hx
        simp only [nNat_eq, sop, hi, hx, intOf]
        rw [if_pos ⟨by simp, by simp; omega⟩]; rfl
      · rfl
  · rfl
noncomputable def pickN (c : SV) (a b : Opd) (t : Tr SV) (σ : St) : Option (SV × St) := match c with
  | .sc (.bool true) => some (evR a t, σ)
  | .sc (.bool false) => some (evR b t, σ)
  | _ => none
noncomputable def mvN (x : Opd) (t : Tr SV) (σ : St) : Option (SV × St) := some (evR x t, σ)
def fldN (off : Nat) (x : SV) (σ : St) (slow : Option (SV × St)) : Option (SV × St) := match x with
  | .ptr id o => nNat (o + off) fun o => some (.ptr id o, σ)
  | _ => slow
theorem fldN_eq (off : Nat) (x : Opd) (t : Tr SV) (σ : St) : fldN off (x.ev t) σ (sop (.fieldA off x) t σ) = sop (.fieldA off x) t σ := by
  unfold fldN
  split
  · rename_i hx; simp only [nNat_eq, sop, hx]
  · rfl
def slowN (o : SOp) (t : Tr SV) (σ : St) : Option (SV × St) := match sop o t σ with
  | some (v, σ) => outN v σ
  | none => none
theorem slowN_eq (o : SOp) (t : Tr SV) (σ : St) : slowN o t σ = sop o t σ := by
  unfold slowN
  cases sop o t σ with
  | none => rfl
  | some p => simp only [outN_eq]
noncomputable def boxN (x : SV) (σ : St) : Option (SV × St) := match x with
  | .agg cs => newN σ cs fun n => .ptr n 0
  | v => if v.one then newN σ [v] fun n => .ptr n 0 else none
noncomputable def buildSlN (sz : Nat) (zs : List SV) (len : Nat) (parts : List (Nat × Nat × Opd)) (t : Tr SV) (σ : St) : Option (SV × St) := match fillParts t zs parts with
  | some cs => newN σ cs fun n => .sl n 0 len sz
  | none => none
noncomputable def mkslN (sz bytes : Nat) (zs : List SV) (l c : Opd) (t : Tr SV) (σ : St) : Option (SV × St) := match intOf (l.ev t), intOf (c.ev t) with
  | some l, some c => if 0 ≤ l ∧ l ≤ c ∧ c * bytes ≤ 2 ^ 40 ∧ c ≤ 2 ^ 40 then newN σ (List.replicate c.toNat zs).flatten (fun n => .sl n 0 l.toNat sz) else none
  | _, _ => none
/-- An operation that is no call. -/
noncomputable def sopN (o : SOp) (t : Tr SV) (σ : St) : Option (SV × St) :=
  match o with
  | .alloc zs => newN σ zs fun n => .ptr n 0
  | .box x => boxN (evR x t) σ
  | .buildSl sz zs len parts => buildSlN sz zs len parts t σ
  | .mksl sz bytes zs l c => mkslN sz bytes zs l c t σ
  | .store n a x => storeN σ n (evR a t) (evR x t) (sop (.store n a x) t σ)
  | .load ag n a => loadN σ ag n (evR a t)
  | .mv x => mvN x t σ
  | .pick c a b => pickN (evR c t) a b t σ
  | .bin tag n op x y => binN op (evR x t) (evR y t) σ (sop (.bin tag n op x y) t σ)
  | .indexArr n sz x i => idxN n sz (evR x t) (evR i t) σ (sop (.indexArr n sz x i) t σ)
  | .fieldA off x => fldN off (evR x t) σ (sop (.fieldA off x) t σ)
  | o => slowN o t σ
theorem sopN_eq (o : SOp) (t : Tr SV) (σ : St) : sopN o t σ = sop o t σ := by
  cases o with
  | alloc zs => simp only [sopN, evR_eq, sop, newN_eq]
  | box x =>
    simp only [sopN, evR_eq, boxN, sop, newN_eq]
    cases x.ev t <;> rfl
  | buildSl sz zs len parts =>
    simp only [sopN, evR_eq, buildSlN, sop, newN_eq]
    cases fillParts t zs parts <;> rfl
  | mksl sz bytes zs l c =>
    simp only [sopN, evR_eq, mkslN, sop, newN_eq]
    cases intOf (l.ev t) <;> cases intOf (c.ev t) <;> rfl
  | store n a x => simp only [sopN, evR_eq, storeN_eq]
  | load ag n a => simp only [sopN, evR_eq, loadN_eq, sop]
  | mv x => simp only [sopN, evR_eq, mvN, sop]
  | pick c a b => simp only [sopN, evR_eq, pickN, sop]; rfl
  | bin tag n op x y => simp only [sopN, evR_eq, binN_eq]
  | indexArr n sz x i => simp only [sopN, evR_eq, idxN_eq]
  | fieldA off x => simp only [sopN, evR_eq, fldN_eq]
  | _ => simp only [sopN, evR_eq, slowN_eq]

/-- The evaluator's functions, of one fuel less. -/
structure Fns where
  exec : SC → Tr SV → St → Option (Ex × Tr SV × St)
  steps : List Step → Tr SV → St → Option (Tr SV × St)
  one : SOp → Tr SV → St → Option (SV × St)
  callV : SV → List SV → St → Option (SV × St)
  call : Nat → List SV → St → Option (SV × St)
  round : Nat → List SV → St → Option (SV × St)
abbrev XR := Option (Ex × Tr SV × St)
def seqE (F : Fns) (a b : SC) (t : Tr SV) (σ : St) : XR := match F.exec a t σ with
  | some (.normal, t1, σ1) => F.exec b t1 σ1
  | r => r
def condE (F : Fns) (c : SV) (a b : SC) (t : Tr SV) (σ : St) : XR := match c with
  | .sc (.bool true) => F.exec a t σ
  | .sc (.bool false) => F.exec b t σ
  | _ => none
def blockE (F : Fns) (id : Nat) (b : SC) (t : Tr SV) (σ : St) : XR := match F.exec b t σ with
  | some (.exit i, t1, σ1) => some (bif Nat.beq i id then .normal else .exit i, t1, σ1)
  | r => r
def regE (F : Fns) (ss : List Step) (t : Tr SV) (σ : St) : XR := match F.steps ss t σ with
  | some (t1, σ1) => some (.normal, t1, σ1)
  | none => none
noncomputable def rngE (F : Fns) (f : SV) (ps : List Nat) (asg body : SC) (t : Tr SV) (σ : St) : XR := match f with
  | .fn g first cap => (match nL (first ++ [.yld σ.next] ++ cap) fun vs => pushS σ (.loop t ps asg body .ready none) fun σ' => F.call g vs σ' with
    | some (_, σ1) => (match σ1.get σ.next with
      | some (.loop _ _ _ _ .busy _) => none
      | some (.loop _ _ _ _ _ none) => setS σ1 σ.next .dead fun σ' => some (.normal, t, σ')
      | some (.loop _ _ _ _ _ (some .ret)) => setS σ1 σ.next .dead fun σ' => some (.ret, t, σ')
      | some (.loop _ _ _ _ _ (some (.exit i))) => setS σ1 σ.next .dead fun σ' => some (.exit i, t, σ')
      | _ => none)
    | none => none)
  | _ => none
noncomputable def execS (E : Env) (F : Fns) (c : SC) (t : Tr SV) (σ : St) : Option (Ex × Tr SV × St) := match c with
  | .skip => some (.normal, t, σ)
  | .seq a b => seqE F a b t σ
  | .cond c a b => condE F (evR c t) a b t σ
  | .block id b => blockE F id b t σ
  | .loop b => seqE F b (.loop b) t σ
  | .exit i => some (.exit i, t, σ)
  | .ret => some (.ret, t, σ)
  | .bad => none
  | .reg ss => regE F ss t σ
  | .rng f ps asg body => rngE F (evR f t) ps asg body t σ
noncomputable def stepsS (E : Env) (F : Fns) (ss : List Step) (t : Tr SV) (σ : St) : Option (Tr SV × St) := match ss with
    | [] => some (t, σ)
    | s :: ss => match wantR t s.guard with
      | some true => (match F.one s.op t σ with
        | some (v, σ1) => bif recheck t σ1 s.re then putN t s.dst v fun t => F.steps ss t σ1 else none
        | none => none)
      | some false => putN t s.dst .undef fun t => F.steps ss t σ
      | none => none
noncomputable def oneS (E : Env) (F : Fns) (o : SOp) (t : Tr SV) (σ : St) : Option (SV × St) := match o with
    | .call f args => nL (args.map (evR · t)) fun vs => F.callV (evR f t) vs σ
    | o => sopN o t σ
noncomputable def callVS (E : Env) (F : Fns) (f : SV) (args : List SV) (σ : St) : Option (SV × St) := match f with
    | .fn f first cap => nL (first ++ args ++ cap) fun vs => F.call f vs σ
    | .yld l => F.round l args σ
    | _ => none
noncomputable def callS (E : Env) (F : Fns) (f : Nat) (args : List SV) (σ : St) : Option (SV × St) := match E.ext f with
    | some g => g args σ
    | none => match E.fn f with
      | some fn => bif Nat.beq args.length fn.np then
          (match fillN .nil 0 args fun t => F.exec fn.body t σ with
          | some (.normal, t1, σ1) => (match resultsSV t1 σ1 fn.results with
            | some v => outN v σ1
            | none => none)
          | some (.ret, t1, σ1) => (match resultsSV t1 σ1 fn.results with
            | some v => outN v σ1
            | none => none)
          | _ => none) else none
      | none => none
noncomputable def roundS (E : Env) (F : Fns) (l : Nat) (args : List SV) (σ : St) : Option (SV × St) := match σ.get l with
    | some (.loop t ps asg body .ready none) => bif Nat.beq args.length ps.length then
        (match manyN t ps args fun t => F.exec asg t σ with
        | some (.normal, t1, σ1) => (match σ1.get l with
          | some (.loop t2 ps2 as2 body2 .ready none) =>
            (match setS σ1 l (.loop t2 ps2 as2 body2 .busy none) fun σ' => F.exec body t1 σ' with
            | some (ex, _, σ2) => (match σ2.get l with
              | some (.loop t3 ps3 as3 body3 _ _) => (match ex with
                | .normal => setS σ2 l (.loop t3 ps3 as3 body3 .ready none) fun σ' => some (.bool true, σ')
                | .ret => setS σ2 l (.loop t3 ps3 as3 body3 .done (some .ret)) fun σ' => some (.bool false, σ')
                | .exit i => setS σ2 l (.loop t3 ps3 as3 body3 .done (some (.exit i))) fun σ' => some (.bool false, σ'))
              | _ => none)
            | none => none)
          | _ => none)
        | _ => none) else none
    | _ => none
noncomputable def step1 (E : Env) (F : Fns) : Fns := ⟨execS E F, stepsS E F, oneS E F, callVS E F, callS E F, roundS E F⟩
def fns0 : Fns := ⟨fun _ _ _ => none, fun _ _ _ => none, fun _ _ _ => none, fun _ _ _ => none, fun _ _ _ => none, fun _ _ _ => none⟩
noncomputable def runN (E : Env) (n : Nat) : Fns := Nat.rec fns0 (fun _ F => step1 E F) n
theorem allN (E : Env) : ∀ n, (∀ c t σ, (runN E n).exec c t σ = exec E n c t σ) ∧ (∀ ss t σ, (runN E n).steps ss t σ = steps E n ss t σ) ∧ (∀ o t σ, (runN E n).one o t σ = one E n o t σ) ∧ (∀ f vs σ, (runN E n).callV f vs σ = callV E n f vs σ) ∧
    (∀ f vs σ, (runN E n).call f vs σ = call E n f vs σ) ∧ (∀ l vs σ, (runN E n).round l vs σ = round E n l vs σ) := by
  intro n
  induction n with
  | zero => exact ⟨fun c t σ => by simp only [exec]; rfl, fun ss t σ => by simp only [steps]; rfl, fun o t σ => by simp only [one]; rfl, fun f vs σ => by simp only [callV]; rfl, fun f vs σ => by simp only [call]; rfl, fun l vs σ => by simp only [round]; rfl⟩
  | succ n ih =>
    have hr : runN E (n + 1) = step1 E (runN E n) := rfl
    rw [hr]
    generalize runN E n = F at ih
    obtain ⟨i1, i2, i3, i4, i5, i6⟩ := ih
    refine ⟨fun c t σ => ?_, fun ss t σ => ?_, fun o t σ => ?_, fun f vs σ => ?_, fun f vs σ => ?_, fun l vs σ => ?_⟩
    · show execS E F c t σ = _
      cases c <;> simp only [execS, seqE, condE, blockE, regE, rngE, evR_eq, exec, i1, i2, i5, nL_eq, pushS_eq, setS_eq] <;> rfl
    · show stepsS E F ss t σ = _
      cases ss with
      | nil => simp only [stepsS, steps]
      | cons s ss => simp only [stepsS, wantR_eq, steps, i2, i3, putN_eq]; rfl
    · show oneS E F o t σ = _
      cases o <;> simp only [oneS, evR_eq, one, nL_eq, i4, sopN_eq]
    · show callVS E F f vs σ = _
      cases f <;> simp only [callVS, callV, nL_eq, i5, i6]
    · show callS E F f vs σ = _
      have hm : ∀ (o : Option SV) (σ1 : St), (match o with | some v => some (v, σ1) | none => none) = o.map fun v => (v, σ1) := fun o σ1 => by cases o <;> rfl
      simp only [callS, call, fillN_eq, i1, outN_eq, hm]
      rfl
    · show roundS E F l vs σ = _
      simp only [roundS, round, manyN_eq, i1, setS_eq]
      try rfl
theorem callN_eq (E : Env) (n f : Nat) (vs : List SV) (σ : St) : (runN E n).call f vs σ = call E n f vs σ := (allN E n).2.2.2.2.1 f vs σ
end Go.Proofs.Ytojjhcgbbmknmaa.Sh
