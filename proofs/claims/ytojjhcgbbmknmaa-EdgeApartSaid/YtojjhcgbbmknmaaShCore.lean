/- The shadow: a deterministic big-step evaluator over an abstract heap. Definitions alone. -/
import GoSem.Core.Code
import GoSem.Core.Value
import GoSem.Core.View
namespace Go.Proofs.Ytojjhcgbbmknmaa.Sh
set_option linter.unusedSimpArgs false
set_option linter.unusedVariables false
open Go

/-- A finite map from numbers, as a binary tree. -/
inductive Tr (α : Type) where
  | nil
  | node (l : Tr α) (v : Option α) (r : Tr α)

namespace Tr
variable {α : Type}
def get : Tr α → Nat → Option α
  | .nil, _ => none
  | .node l v r, n => bif Nat.beq n 0 then v else bif Nat.beq (n % 2) 1 then l.get (n / 2) else r.get (n / 2 - 1)
def put0 : Nat → Tr α → Nat → α → Tr α
  | 0, t, _, _ => t
  | f + 1, .nil, n, x => bif Nat.beq n 0 then .node .nil (some x) .nil else bif Nat.beq (n % 2) 1 then .node (put0 f .nil (n / 2) x) none .nil else .node .nil none (put0 f .nil (n / 2 - 1) x)
  | f + 1, .node l v r, n, x => bif Nat.beq n 0 then .node l (some x) r else bif Nat.beq (n % 2) 1 then .node (put0 f l (n / 2) x) v r else .node l v (put0 f r (n / 2 - 1) x)
def set (t : Tr α) (n : Nat) (x : α) : Tr α := put0 (n + 1) t n x

theorem get_put0 (f : Nat) : ∀ (t : Tr α) (n m : Nat) (x : α), n < f → (put0 f t n x).get m = if m = n then some x else t.get m := by
  induction f with
  | zero => intro t n m x h; omega
  | succ f ih =>
    intro t n m x h
    have hb : ∀ a b : Nat, Nat.beq a b = decide (a = b) := fun a b => by
      by_cases e : a = b
      · simp [e]
      · rw [decide_eq_false e]
        cases h : Nat.beq a b with
        | false => rfl
        | true => exact absurd (Nat.eq_of_beq_eq_true h) e
    cases t with
    | nil =>
      simp only [put0, hb, Bool.cond_decide]
      by_cases h0 : n = 0
      · subst h0
        simp only [if_true, get, hb, Bool.cond_decide]
        by_cases m0 : m = 0
        · simp [m0]
        · simp [m0]
      · rw [if_neg h0]
        by_cases h1 : n % 2 = 1
        · rw [if_pos h1]
          simp only [get, hb, Bool.cond_decide]
          by_cases m0 : m = 0
          · rw [if_pos m0, if_neg (by omega)]
          · rw [if_neg m0]
            by_cases m1 : m % 2 = 1
            · rw [if_pos m1, ih _ _ _ _ (by omega)]
              by_cases e : m = n
              · rw [if_pos (by omega), if_pos e]
              · rw [if_neg (by omega), if_neg e]; rfl
            · rw [if_neg m1, if_neg (by omega)]
        · rw [if_neg h1]
          simp only [get, hb, Bool.cond_decide]
          by_cases m0 : m = 0
          · rw [if_pos m0, if_neg (by omega)]
          · rw [if_neg m0]
            by_cases m1 : m % 2 = 1
            · rw [if_pos m1, if_neg (by omega)]
            · rw [if_neg m1, ih _ _ _ _ (by omega)]
              by_cases e : m = n
              · rw [if_pos (by omega), if_pos e]
              · rw [if_neg (by omega), if_neg e]; rfl
    | node l v r =>
      simp only [put0, hb, Bool.cond_decide]
      by_cases h0 : n = 0
      · subst h0
        simp only [if_true, get, hb, Bool.cond_decide]
        by_cases m0 : m = 0
        · simp [m0]
        · simp [m0]
      · rw [if_neg h0]
        by_cases h1 : n % 2 = 1
        · rw [if_pos h1]
          simp only [get, hb, Bool.cond_decide]
          by_cases m0 : m = 0
          · rw [if_pos m0, if_pos m0, if_neg (by omega)]
          · rw [if_neg m0, if_neg m0]
            by_cases m1 : m % 2 = 1
            · rw [if_pos m1, if_pos m1, ih _ _ _ _ (by omega)]
              by_cases e : m = n
              · rw [if_pos (by omega), if_pos e]
              · rw [if_neg (by omega), if_neg e]
            · rw [if_neg m1, if_neg m1, if_neg (by omega)]
        · rw [if_neg h1]
          simp only [get, hb, Bool.cond_decide]
          by_cases m0 : m = 0
          · rw [if_pos m0, if_pos m0, if_neg (by omega)]
          · rw [if_neg m0, if_neg m0]
            by_cases m1 : m % 2 = 1
            · rw [if_pos m1, if_pos m1, if_neg (by omega)]
            · rw [if_neg m1, if_neg m1, ih _ _ _ _ (by omega)]
              by_cases e : m = n
              · rw [if_pos (by omega), if_pos e]
              · rw [if_neg (by omega), if_neg e]
theorem get_set (t : Tr α) (n m : Nat) (x : α) : (t.set n x).get m = if m = n then some x else t.get m := get_put0 _ _ _ _ _ (by omega)
theorem get_nil (n : Nat) : (Tr.nil : Tr α).get n = none := rfl
/-- Many at once, from place n on. -/
def fill (t : Tr α) (n : Nat) : List α → Tr α
  | [] => t
  | x :: r => (t.set n x).fill (n + 1) r
end Tr

/-- Values of one cell without an address. -/
inductive Sc where
  | int (k : IntKind) (n : Int)
  | bool (b : Bool)
  | str (s : ByteArray)
  | nilsl | nilptr | nilmap | nilfn | nilif | undef
  deriving DecidableEq

/-- Values of the shadow. Offsets count cells. -/
inductive SV where
  | sc (s : Sc)
  | agg (cs : List SV)
  | tup (vs : List SV)
  | sl (id off len sz : Nat)
  | lst (len sz : Nat) (cells : List SV)
  | ptr (id off : Nat)
  | iptr (cells : List SV) (off : Nat)
  | fn (f : Nat) (first cap : List SV)
  | yld (l : Nat)
  | mp (id : Nat)
  deriving Inhabited

def SV.undef : SV := .sc .undef
def SV.int (n : Int) : SV := .sc (.int .i64 n)
def SV.bool (b : Bool) : SV := .sc (.bool b)

inductive Opd where
  | t (n : Nat)
  | k (v : SV)

def getT (t : Tr SV) (n : Nat) : SV := match t.get n with | some v => v | none => .sc .undef
def Opd.ev (t : Tr SV) : Opd → SV
  | .t n => getT t n
  | .k v => v

/-- Operations; types are told by what counts of them: cells (sz), is it an aggregate (ag), zero cells (zs). -/
inductive SOp where
  | mv (x : Opd)
  | pick (c a b : Opd)
  | alloc (zs : List SV)
  | box (x : Opd)
  | build (zs : List SV) (parts : List (Nat × Nat × Opd))
  | buildSl (sz : Nat) (zs : List SV) (len : Nat) (parts : List (Nat × Nat × Opd))
  | load (ag : Bool) (n : Nat) (a : Opd)
  | store (n : Nat) (a x : Opd)
  | bin (tag n : Nat) (op : BinOp) (x y : Opd)
  | un (op : UnOp) (x : Opd)
  | conv (k : IntKind) (x : Opd)
  | mkfn (f : Nat) (first cap : List Opd)
  | mkmap
  | mksl (sz bytes : Nat) (zs : List SV) (l c : Opd)
  | slc (sz : Nat) (x : Opd) (lo hi : Option Opd)
  | slcArr (n sz : Nat) (x : Opd) (lo hi : Option Opd)
  | fieldA (off : Nat) (x : Opd)
  | field (ag : Bool) (off n : Nat) (x : Opd)
  | indexArr (n sz : Nat) (x i : Opd)
  | indexSl (sz : Nat) (x i : Opd)
  | index (n sz : Nat) (ag : Bool) (x i : Opd)
  | extract (x : Opd) (i : Nat)
  | lenSl (x : Opd)
  | lenArr (n : Nat)
  | lenMap (x : Opd)
  | append (sz bytes : Nat) (zs : List SV) (x y : Opd)
  | lookup (zero : SV) (ok : Bool) (m k : Opd)
  | mapset (m k v : Opd)
  | nilchk (x : Opd)
  | minmax (mx : Bool) (x y : Opd)
  | copy (sz : Nat) (x y : Opd)
  | clear (sz : Nat) (zs : List SV) (x : Opd)
  | idxStr (x i : Opd)
  | bad
  | call (f : Opd) (args : List Opd)

structure Step where
  dst : Option Nat
  guard : Option (Nat × Bool)
  op : SOp
  re : List (Nat × Option (Nat × Bool) × SOp) := []

inductive SC where
  | skip
  | seq (a b : SC)
  | cond (c : Opd) (a b : SC)
  | block (id : Nat) (b : SC)
  | loop (b : SC)
  | exit (id : Nat)
  | ret
  | reg (ss : List Step)
  | bad
  | rng (f : Opd) (ps : List Nat) (assign body : SC)

inductive Jump where
  | ret
  | exit (id : Nat)
def Jump.code : Jump → SC
  | .ret => .ret
  | .exit id => .exit id

inductive Ob where
  | cells (cs : List SV)
  | map (es : List (SV × SV))
  | loop (t : Tr SV) (ps : List Nat) (assign body : SC) (st : LoopState) (pend : Option Jump)
  | dead

structure St where
  heap : Tr Ob
  next : Nat

def St.empty : St := ⟨.nil, 0⟩
def St.get (σ : St) (i : Nat) : Option Ob := σ.heap.get i
def St.set (σ : St) (i : Nat) (o : Ob) : St := { σ with heap := σ.heap.set i o }
def St.push (σ : St) (o : Ob) : St := ⟨σ.heap.set σ.next o, σ.next + 1⟩

def SV.flat : SV → List SV
  | .agg cs => cs
  | x => [x]
/-- Is it one cell? -/
def SV.one : SV → Bool
  | .agg _ | .tup _ | .sc .undef => false
  | _ => true
/-- May it lie in memory: one cell, or many? -/
def SV.lay : SV → Bool
  | .tup _ | .sc .undef => false
  | _ => true
/-- Cells, as a value. -/
def unflat (ag : Bool) (cs : List SV) : Option SV :=
  match ag, cs with
  | true, cs => some (.agg cs)
  | false, [x] => some x
  | _, _ => none

def cellsOf (σ : St) (id : Nat) : Option (List SV) :=
  match σ.get id with
  | some (.cells cs) => some cs
  | _ => none
/-- n cells from off on. -/
def cutT : List SV → Nat → Option (List SV)
  | _, 0 => some []
  | [], _ + 1 => none
  | c :: cs, n + 1 => match cutT cs n with
    | some r => some (c :: r)
    | none => none
def cut (cs : List SV) (off : Nat) : Nat → Option (List SV)
  | 0 => if off ≤ cs.length then some [] else none
  | n + 1 => cutT (cs.drop off) (n + 1)
theorem cutT_def : ∀ (n : Nat) (cs : List SV), cutT cs n = if n ≤ cs.length then some (cs.take n) else none
  | 0, cs => by cases cs <;> simp [cutT]
  | n + 1, [] => by simp [cutT]
  | n + 1, c :: cs => by
    simp only [cutT, cutT_def n cs, List.length_cons, List.take_succ_cons]
    by_cases h : n ≤ cs.length
    · rw [if_pos h, if_pos (by omega)]
    · rw [if_neg h, if_neg (by omega)]
theorem cut_def (cs : List SV) (off n : Nat) : cut cs off n = if off + n ≤ cs.length then some ((cs.drop off).take n) else none := by
  cases n with
  | zero => simp [cut]
  | succ n =>
    show cutT (cs.drop off) (n + 1) = _
    rw [cutT_def, List.length_drop]
    by_cases h : off + (n + 1) ≤ cs.length
    · rw [if_pos h, if_pos (by omega)]
    · rw [if_neg h, if_neg (by omega)]
def paste : List SV → Nat → List SV → List SV
  | cs, 0, new => new ++ cs.drop new.length
  | [], _ + 1, new => new
  | c :: cs, off + 1, new => c :: paste cs off new
theorem paste_def : ∀ (off : Nat) (cs new : List SV), paste cs off new = cs.take off ++ new ++ cs.drop (off + new.length)
  | 0, cs, new => by cases cs <;> simp [paste]
  | off + 1, [], new => by simp [paste]
  | off + 1, c :: cs, new => by simp [paste, paste_def off cs new, Nat.succ_add]

def fillParts (t : Tr SV) : List SV → List (Nat × Nat × Opd) → Option (List SV)
  | cs, [] => some cs
  | cs, (off, n, x) :: r =>
    let new := (x.ev t).flat
    if new.length = n ∧ off + n ≤ cs.length ∧ (x.ev t).lay = true then fillParts t (paste cs off new) r else none

def intOf : SV → Option Int
  | .sc (.int _ n) => some n
  | _ => none

def intBin (op : BinOp) (k : IntKind) (a b : Int) : Option Sc :=
  match op with
  | .add => some (.int k (k.wrap (a + b)))
  | .sub => some (.int k (k.wrap (a - b)))
  | .mul => some (.int k (k.wrap (a * b)))
  | .quo => if b = 0 then none else some (.int k (k.wrap (a.tdiv b)))
  | .rem => if b = 0 then none else some (.int k (a.tmod b))
  | .and => some (.int k (k.wrap (BitVec.ofInt k.bits a &&& BitVec.ofInt k.bits b).toNat))
  | .or => some (.int k (k.wrap (BitVec.ofInt k.bits a ||| BitVec.ofInt k.bits b).toNat))
  | .xor => some (.int k (k.wrap (BitVec.ofInt k.bits a ^^^ BitVec.ofInt k.bits b).toNat))
  | .andNot => some (.int k (k.wrap (BitVec.ofInt k.bits a &&& ~~~BitVec.ofInt k.bits b).toNat))
  | .eql => some (.bool (a == b))
  | .neq => some (.bool (a != b))
  | .lss => some (.bool (a < b))
  | .leq => some (.bool (a ≤ b))
  | .gtr => some (.bool (a > b))
  | .geq => some (.bool (a ≥ b))
  | _ => none

/-- Are cells of one kind (q: 1 bools, 2 whole numbers, 3 texts) the same? none: others are among them. -/
def eqCells (q : Nat) : List SV → List SV → Option Bool
  | [], [] => some true
  | .sc (.int k a) :: r, .sc (.int k' b) :: s => bif Nat.beq q 2 then (if k = k' then (if a = b then eqCells q r s else (eqCells q r s).map fun _ => false) else none) else none
  | .sc (.bool a) :: r, .sc (.bool b) :: s => bif Nat.beq q 1 then (if a = b then eqCells q r s else (eqCells q r s).map fun _ => false) else none
  | .sc (.str a) :: r, .sc (.str b) :: s => bif Nat.beq q 3 then (if a = b then eqCells q r s else (eqCells q r s).map fun _ => false) else none
  | _, _ => none

/-- tag: 1: bools, 3: slices, 5, 6, 7: aggregates of bools, whole numbers, texts. -/
def eqSV (tag n : Nat) : SV → SV → Option Bool
  | .sc (.bool a), .sc (.bool b) => bif Nat.beq tag 1 then some (a == b) else none
  | .sc (.str a), .sc (.str b) => some (decide (a = b))
  | .agg a, .agg b => bif Nat.ble 5 tag && Nat.beq a.length n then eqCells (tag - 4) a b else none
  | .sc .nilsl, .sc .nilsl => bif Nat.beq tag 3 then some true else none
  | .sc .nilsl, .sl .. | .sl .., .sc .nilsl | .sc .nilsl, .lst .. | .lst .., .sc .nilsl => bif Nat.beq tag 3 then some false else none
  | _, _ => none

def binSV (tag n : Nat) (op : BinOp) (x y : SV) : Option SV :=
  match x, y with
  | .sc (.int k a), .sc (.int k' b) =>
    match op with
    | .shl => if b < 0 then none else some (.sc (.int k (k.wrap (a * 2 ^ (min b.toNat k.bits)))))
    | .shr => if b < 0 then none else some (.sc (.int k (a.fdiv (2 ^ (min b.toNat k.bits)))))
    | _ => if k = k' then (intBin op k a b).map .sc else none
  | _, _ =>
    match op with
    | .eql => (eqSV tag n x y).map .bool
    | .neq => (eqSV tag n x y).map fun b => .bool (!b)
    | _ => none

def unSV (op : UnOp) (x : SV) : Option SV :=
  match op, x with
  | .not, .sc (.bool b) => some (.bool (!b))
  | .neg, .sc (.int k n) => some (.sc (.int k (k.wrap (0 - n))))
  | _, _ => none

def loadSV (σ : St) (ag : Bool) (n : Nat) : SV → Option SV
  | .ptr id off => (cellsOf σ id).bind fun cs => (cut cs off n).bind (unflat ag)
  | .iptr cs off => (cut cs off n).bind (unflat ag)
  | _ => none

/-- A slice's cells, as many as its length says. -/
def rowSV (σ : St) : SV → Option (List SV)
  | .sc .nilsl => some []
  | .lst _ _ cells => some cells
  | .sl id off len sz => (cellsOf σ id).bind fun cs => cut cs off (len * sz)
  | _ => none
def lenSV : SV → Option Nat
  | .sc .nilsl => some 0
  | .lst len _ _ => some len
  | .sl _ _ len _ => some len
  | _ => none

/-- Keys of maps: whole numbers, or aggregates of them. -/
def keyOk : SV → Bool
  | .sc (.int _ _) => true
  | _ => false
def findKey (k : SV) : List (SV × SV) → Option SV
  | [] => none
  | (k', v) :: r => match k, k' with
    | .sc (.int _ a), .sc (.int _ b) => if a = b then some v else findKey k r
    | _, _ => none
def allKeys (kd : IntKind) (es : List (SV × SV)) : Bool := es.all fun e => match e.1 with | .sc (.int k _) => decide (k = kd) | _ => false
def setKey (k : SV) (v : SV) : List (SV × SV) → List (SV × SV)
  | [] => [(k, v)]
  | (k', u) :: r => match k, k' with
    | .sc (.int _ a), .sc (.int _ b) => if a = b then (k', v) :: r else (k', u) :: setKey k v r
    | _, _ => (k', u) :: setKey k v r

def loI (t : Tr SV) : Option Opd → Option Int
  | some x => intOf (x.ev t)
  | none => some 0
def hiI (len : Nat) (t : Tr SV) : Option Opd → Option Int
  | some x => intOf (x.ev t)
  | none => some len
def bounds (len : Nat) (t : Tr SV) (lo hi : Option Opd) : Option (Nat × Nat) :=
  match loI t lo, hiI len t hi with
  | some l, some h => if 0 ≤ l ∧ l ≤ h ∧ h ≤ len then some (l.toNat, h.toNat) else none
  | _, _ => none

/-- An operation that is no call: its value ('undef' of a store) and the state behind it. -/
def sop (o : SOp) (t : Tr SV) (σ : St) : Option (SV × St) :=
  match o with
  | .mv x => some (x.ev t, σ)
  | .pick c a b => match c.ev t with
    | .sc (.bool true) => some (a.ev t, σ)
    | .sc (.bool false) => some (b.ev t, σ)
    | _ => none
  | .alloc zs => some (.ptr σ.next 0, σ.push (.cells zs))
  | .box x => match x.ev t with
    | .agg cs => some (.ptr σ.next 0, σ.push (.cells cs))
    | v => if v.one then some (.ptr σ.next 0, σ.push (.cells [v])) else none
  | .build zs parts => (fillParts t zs parts).map fun cs => (.agg cs, σ)
  | .buildSl sz zs len parts => (fillParts t zs parts).map fun cs => (.sl σ.next 0 len sz, σ.push (.cells cs))
  | .load ag n a => (loadSV σ ag n (a.ev t)).map fun v => (v, σ)
  | .store n a x => match a.ev t with
    | .ptr id off => (cellsOf σ id).bind fun cs =>
      let v := x.ev t
      if v.flat.length = n ∧ off + n ≤ cs.length ∧ v.lay = true then some (.undef, σ.set id (.cells (paste cs off v.flat))) else none
    | _ => none
  | .bin tag n op x y => (binSV tag n op (x.ev t) (y.ev t)).map fun v => (v, σ)
  | .un op x => (unSV op (x.ev t)).map fun v => (v, σ)
  | .conv k x => match x.ev t with
    | .sc (.int _ n) => some (.sc (.int k (k.wrap n)), σ)
    | _ => none
  | .mkfn f first cap => some (.fn f (first.map (·.ev t)) (cap.map (·.ev t)), σ)
  | .mkmap => some (.mp σ.next, σ.push (.map []))
  | .mksl sz bytes zs l c => match intOf (l.ev t), intOf (c.ev t) with
    | some l, some c => if 0 ≤ l ∧ l ≤ c ∧ c * bytes ≤ 2 ^ 40 ∧ c ≤ 2 ^ 40 then some (.sl σ.next 0 l.toNat sz, σ.push (.cells (List.replicate c.toNat zs).flatten)) else none
    | _, _ => none
  | .slc sz x lo hi => match x.ev t with
    | .sc .nilsl => (bounds 0 t lo hi).map fun _ => (.sc .nilsl, σ)
    | .sl id off len sz' => bif Nat.beq sz' sz then (bounds len t lo hi).map fun (l, h) => (.sl id (off + l * sz) (h - l) sz, σ) else none
    | .lst len sz' cells => bif Nat.beq sz' sz then (bounds len t lo hi).map fun (l, h) => (.lst (h - l) sz ((cells.drop (l * sz)).take ((h - l) * sz)), σ) else none
    | _ => none
  | .slcArr n sz x lo hi => match x.ev t with
    | .ptr id off => (cellsOf σ id).bind fun cs => if off + n * sz ≤ cs.length then (bounds n t lo hi).map fun (l, h) => (.sl id (off + l * sz) (h - l) sz, σ) else none
    | _ => none
  | .fieldA off x => match x.ev t with
    | .ptr id o => some (.ptr id (o + off), σ)
    | .iptr cs o => some (.iptr cs (o + off), σ)
    | _ => none
  | .field ag off n x => match x.ev t with
    | .agg cs => ((cut cs off n).bind (unflat ag)).map fun v => (v, σ)
    | _ => none
  | .indexArr n sz x i => match intOf (i.ev t) with
    | some i => if 0 ≤ i ∧ i < n then (match x.ev t with
        | .ptr id o => some (.ptr id (o + i.toNat * sz), σ)
        | .iptr cs o => some (.iptr cs (o + i.toNat * sz), σ)
        | _ => none) else none
    | none => none
  | .indexSl sz x i => match intOf (i.ev t) with
    | some i => (match x.ev t with
        | .sl id o len _ => if 0 ≤ i ∧ i < len then some (.ptr id (o + i.toNat * sz), σ) else none
        | .lst len _ cells => if 0 ≤ i ∧ i < len then some (.iptr cells (i.toNat * sz), σ) else none
        | _ => none)
    | none => none
  | .index n sz ag x i => match intOf (i.ev t), x.ev t with
    | some i, .agg cs => if 0 ≤ i ∧ i < n then ((cut cs (i.toNat * sz) sz).bind (unflat ag)).map fun v => (v, σ) else none
    | _, _ => none
  | .extract x i => match x.ev t with
    | .tup vs => vs[i]?.map fun v => (v, σ)
    | _ => none
  | .lenSl x => (lenSV (x.ev t)).map fun (n : Nat) => (SV.int n, σ)
  | .lenArr n => some (.int n, σ)
  | .lenMap x => match x.ev t with
    | .sc .nilmap => some (.int 0, σ)
    | .mp id => match σ.get id with
      | some (.map es) => some (.int es.length, σ)
      | _ => none
    | _ => none
  | .append sz bytes zs x y => (rowSV σ (y.ev t)).bind fun new => (lenSV (y.ev t)).bind fun m =>
    match x.ev t with
    | .sc .nilsl => if m = 0 then some (.sc .nilsl, σ) else if new.length = m * sz ∧ m * bytes ≤ 2 ^ 40 ∧ m ≤ 2 ^ 40 then some (.sl σ.next 0 m sz, σ.push (.cells new)) else none
    | .sl id off len sz' => (cellsOf σ id).bind fun cs => (cut cs off (len * sz)).bind fun old =>
      if sz' = sz ∧ new.length = m * sz ∧ (len + m) * bytes ≤ 2 ^ 40 ∧ len + m ≤ 2 ^ 40 then some (.sl σ.next 0 (len + m) sz, (σ.set id .dead).push (.cells (old ++ new))) else none
    | _ => none
  | .lookup zero ok m k => match k.ev t with
    | .sc (.int kd a) =>
      let go (es : List (SV × SV)) : Option (SV × St) :=
        if allKeys kd es then
          (match findKey (.sc (.int kd a)) es with
          | some v => some (if ok then .tup [v, .bool true] else v, σ)
          | none => some (if ok then .tup [zero, .bool false] else zero, σ))
        else none
      (match m.ev t with
      | .sc .nilmap => go []
      | .mp id => match σ.get id with
        | some (.map es) => go es
        | _ => none
      | _ => none)
    | _ => none
  | .mapset m k v => match k.ev t, m.ev t with
    | .sc (.int kd a), .mp id => (match σ.get id with
      | some (.map es) => if allKeys kd es then some (.undef, σ.set id (.map (setKey (.sc (.int kd a)) (v.ev t) es))) else none
      | _ => none)
    | _, _ => none
  | .nilchk x => match x.ev t with
    | .ptr id o => some (.ptr id o, σ)
    | .iptr cs o => some (.iptr cs o, σ)
    | .fn f a b => some (.fn f a b, σ)
    | .yld l => some (.yld l, σ)
    | .mp id => some (.mp id, σ)
    | _ => none
  | .minmax mx x y => match x.ev t, y.ev t with
    | .sc (.int k a), .sc (.int _ b) => some (.sc (.int k (bif mx then (if b > a then b else a) else (if b < a then b else a))), σ)
    | _, _ => none
  | .copy sz x y => (rowSV σ (y.ev t)).bind fun new => (lenSV (y.ev t)).bind fun m =>
    match x.ev t with
    | .sc .nilsl => if new.length = m * sz then some (.int 0, σ) else none
    | .sl id off len sz' => (cellsOf σ id).bind fun cs =>
      if sz' = sz ∧ new.length = m * sz ∧ off + len * sz ≤ cs.length then some (.int (Nat.min m len), σ.set id (.cells (paste cs off (new.take (Nat.min m len * sz))))) else none
    | _ => none
  | .clear sz zs x => match x.ev t with
    | .sc .nilsl => some (.tup [], σ)
    | .sl id off len sz' => (cellsOf σ id).bind fun cs =>
      if sz' = sz ∧ off + len * sz ≤ cs.length then some (.tup [], σ.set id (.cells (paste cs off (List.replicate len zs).flatten))) else none
    | _ => none
  | .idxStr x i => match x.ev t, i.ev t with
    | .sc (.str s), .sc (.int _ i) => if 0 ≤ i then (s[i.toNat]?).map fun b => (.sc (.int .u8 b.toNat), σ) else none
    | _, _ => none
  | .bad => none
  | .call _ _ => none

mutual
/-- Are two values the same, to the sign? -/
def SV.same : SV → SV → Bool
  | .sc a, .sc b => decide (a = b)
  | .agg a, .agg b => sames a b
  | .tup a, .tup b => sames a b
  | .sl a b c d, .sl a' b' c' d' => Nat.beq a a' && Nat.beq b b' && Nat.beq c c' && Nat.beq d d'
  | .lst a b c, .lst a' b' c' => Nat.beq a a' && Nat.beq b b' && sames c c'
  | .ptr a b, .ptr a' b' => Nat.beq a a' && Nat.beq b b'
  | .iptr a b, .iptr a' b' => sames a a' && Nat.beq b b'
  | .fn a b c, .fn a' b' c' => Nat.beq a a' && sames b b' && sames c c'
  | .yld a, .yld b => Nat.beq a b
  | .mp a, .mp b => Nat.beq a b
  | _, _ => false
def sames : List SV → List SV → Bool
  | [], [] => true
  | a :: r, b :: s => a.same b && sames r s
  | _, _ => false
end

inductive RV where
  | tmp (t : Nat)
  | cell (t : Nat) (ag : Bool) (n : Nat)

structure SFun where
  np : Nat
  ntmps : Nat
  results : List RV
  body : SC

structure Env where
  fn : Nat → Option SFun
  ext : Nat → Option (List SV → St → Option (SV × St))

inductive Ex where
  | normal
  | exit (id : Nat)
  | ret

def resOne (t : Tr SV) (σ : St) : RV → Option SV
  | .tmp n => some (getT t n)
  | .cell n ag k => loadSV σ ag k (getT t n)
def resMany (t : Tr SV) (σ : St) : List RV → Option (List SV)
  | [] => some []
  | r :: rs => match resOne t σ r, resMany t σ rs with
    | some v, some vs => some (v :: vs)
    | _, _ => none
def resultsSV (t : Tr SV) (σ : St) (rs : List RV) : Option SV :=
  match resMany t σ rs with
  | some [v] => some v
  | some vs => some (.tup vs)
  | none => none

def wantedS (t : Tr SV) : Option (Nat × Bool) → Option Bool
  | none => some true
  | some (g, b) => match getT t g with
    | .sc (.bool c) => some (c == b)
    | .sc .undef => some false
    | _ => none

def putD (t : Tr SV) (d : Option Nat) (v : SV) : Tr SV :=
  match d with
  | some d => t.set d v
  | none => t

/-- Do reads that may come behind this operation as well read the same there? -/
def recheck (t : Tr SV) (σ : St) : List (Nat × Option (Nat × Bool) × SOp) → Bool
  | [] => true
  | (d, g, o) :: r => (match wantedS t g with
    | some true => (match sop o t σ with
      | some (v, _) => v.same (getT t d)
      | none => false)
    | some false => true
    | none => false) && recheck t σ r

def setMany (t : Tr SV) : List Nat → List SV → Tr SV
  | p :: ps, v :: vs => setMany (t.set p v) ps vs
  | _, _ => t

mutual
def exec (E : Env) : Nat → SC → Tr SV → St → Option (Ex × Tr SV × St)
  | 0, _, _, _ => none
  | n + 1, c, t, σ => match c with
    | .skip => some (.normal, t, σ)
    | .seq a b => match exec E n a t σ with
      | some (.normal, t1, σ1) => exec E n b t1 σ1
      | r => r
    | .cond c a b => match c.ev t with
      | .sc (.bool true) => exec E n a t σ
      | .sc (.bool false) => exec E n b t σ
      | _ => none
    | .block id b => match exec E n b t σ with
      | some (.exit i, t1, σ1) => some (bif Nat.beq i id then .normal else .exit i, t1, σ1)
      | r => r
    | .loop b => match exec E n b t σ with
      | some (.normal, t1, σ1) => exec E n (.loop b) t1 σ1
      | r => r
    | .exit i => some (.exit i, t, σ)
    | .ret => some (.ret, t, σ)
    | .bad => none
    | .reg ss => match steps E n ss t σ with
      | some (t1, σ1) => some (.normal, t1, σ1)
      | none => none
    | .rng f ps as body =>
      match f.ev t with
      | .fn g first cap => (match call E n g (first ++ [.yld σ.next] ++ cap) (σ.push (.loop t ps as body .ready none)) with
        | some (_, σ1) => (match σ1.get σ.next with
          | some (.loop _ _ _ _ .busy _) => none
          | some (.loop _ _ _ _ _ none) => some (.normal, t, σ1.set σ.next .dead)
          | some (.loop _ _ _ _ _ (some .ret)) => some (.ret, t, σ1.set σ.next .dead)
          | some (.loop _ _ _ _ _ (some (.exit i))) => some (.exit i, t, σ1.set σ.next .dead)
          | _ => none)
        | none => none)
      | _ => none
def steps (E : Env) : Nat → List Step → Tr SV → St → Option (Tr SV × St)
  | 0, _, _, _ => none
  | n + 1, ss, t, σ => match ss with
    | [] => some (t, σ)
    | s :: ss => match wantedS t s.guard with
      | some true => (match one E n s.op t σ with
        | some (v, σ1) => bif recheck t σ1 s.re then steps E n ss (putD t s.dst v) σ1 else none
        | none => none)
      | some false => steps E n ss (putD t s.dst .undef) σ
      | none => none
/-- One operation. -/
def one (E : Env) : Nat → SOp → Tr SV → St → Option (SV × St)
  | 0, _, _, _ => none
  | n + 1, o, t, σ => match o with
    | .call f args => callV E n (f.ev t) (args.map (·.ev t)) σ
    | o => sop o t σ
def callV (E : Env) : Nat → SV → List SV → St → Option (SV × St)
  | 0, _, _, _ => none
  | n + 1, f, args, σ => match f with
    | .fn f first cap => call E n f (first ++ args ++ cap) σ
    | .yld l => round E n l args σ
    | _ => none
def call (E : Env) : Nat → Nat → List SV → St → Option (SV × St)
  | 0, _, _, _ => none
  | n + 1, f, args, σ => match E.ext f with
    | some g => g args σ
    | none => match E.fn f with
      | some fn => bif Nat.beq args.length fn.np then
          (match exec E n fn.body (Tr.fill .nil 0 args) σ with
          | some (.normal, t1, σ1) => (resultsSV t1 σ1 fn.results).map fun v => (v, σ1)
          | some (.ret, t1, σ1) => (resultsSV t1 σ1 fn.results).map fun v => (v, σ1)
          | _ => none) else none
      | none => none
def round (E : Env) : Nat → Nat → List SV → St → Option (SV × St)
  | 0, _, _, _ => none
  | n + 1, l, args, σ => match σ.get l with
    | some (.loop t ps as body .ready none) => bif Nat.beq args.length ps.length then
        (match exec E n as (setMany t ps args) σ with
        | some (.normal, t1, σ1) => (match σ1.get l with
          | some (.loop t2 ps2 as2 body2 .ready none) =>
            (match exec E n body t1 (σ1.set l (.loop t2 ps2 as2 body2 .busy none)) with
            | some (ex, _, σ2) => (match σ2.get l with
              | some (.loop t3 ps3 as3 body3 _ _) => (match ex with
                | .normal => some (.bool true, σ2.set l (.loop t3 ps3 as3 body3 .ready none))
                | .ret => some (.bool false, σ2.set l (.loop t3 ps3 as3 body3 .done (some .ret)))
                | .exit i => some (.bool false, σ2.set l (.loop t3 ps3 as3 body3 .done (some (.exit i)))))
              | _ => none)
            | none => none)
          | _ => none)
        | _ => none) else none
    | _ => none
end
end Go.Proofs.Ytojjhcgbbmknmaa.Sh
