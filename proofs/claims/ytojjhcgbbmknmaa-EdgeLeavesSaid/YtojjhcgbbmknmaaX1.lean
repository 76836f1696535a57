/- Several texts, merged: The shadow: a deterministic big-step evaluator over an abstract heap. Definitions alone. And more. -/
import GoSem.Core.Code
import GoSem.Core.Value
import GoSem.Core.View
import Derived.RangeFuncRecord
import Derived.OrdersIn
import Derived.ArgAppend
import Derived.Below

/- The shadow: a deterministic big-step evaluator over an abstract heap. Definitions alone. -/
namespace Go.Proofs.Ytojjhcgbbmknmaa.Sh
set_option linter.unusedSimpArgs false
set_option linter.unusedVariables false
open Go

/-- A finite map from numbers, as a binary tree. -/
inductive Tr (α : Type) where
  | nil
  | node (l : Tr α) (v : Option α) (r : Tr α)

namespace Tr
variable {α : Type}
def get : Tr α → Nat → Option α
  | .nil, _ => none
  | .node l v r, n => bif Nat.beq n 0 then v else bif Nat.beq (n % 2) 1 then l.get (n / 2) else r.get (n / 2 - 1)
def put0 : Nat → Tr α → Nat → α → Tr α
  | 0, t, _, _ => t
  | f + 1, .nil, n, x => bif Nat.beq n 0 then .node .nil (some x) .nil else bif Nat.beq (n % 2) 1 then .node (put0 f .nil (n / 2) x) none .nil else .node .nil none (put0 f .nil (n / 2 - 1) x)
  | f + 1, .node l v r, n, x => bif Nat.beq n 0 then .node l (some x) r else bif Nat.beq (n % 2) 1 then .node (put0 f l (n / 2) x) v r else .node l v (put0 f r (n / 2 - 1) x)
def set (t : Tr α) (n : Nat) (x : α) : Tr α := put0 (n + 1) t n x

theorem get_put0 (f : Nat) : ∀ (t : Tr α) (n m : Nat) (x : α), n < f → (put0 f t n x).get m = if m = n then some x else t.get m := by
  induction f with
  | zero => intro t n m x h; omega
  | succ f ih =>
    intro t n m x h
    have hb : ∀ a b : Nat, Nat.beq a b = decide (a = b) := fun a b => by
      by_cases e : a = b
      · simp [e]
      · rw [decide_eq_false e]
        cases h : Nat.beq a b with
        | false => rfl
        | true => exact absurd (Nat.eq_of_beq_eq_true h) e
    cases t with
    | nil =>
      simp only [put0, hb, Bool.cond_decide]
      by_cases h0 : n = 0
      · subst h0
        simp only [if_true, get, hb, Bool.cond_decide]
        by_cases m0 : m = 0
        · simp [m0]
        · simp [m0]
      · rw [if_neg h0]
        by_cases h1 : n % 2 = 1
        · rw [if_pos h1]
          simp only [get, hb, Bool.cond_decide]
          by_cases m0 : m = 0
          · rw [if_pos m0, if_neg (by omega)]
          · rw [if_neg m0]
            by_cases m1 : m % 2 = 1
            · rw [if_pos m1, ih _ _ _ _ (by omega)]
              by_cases e : m = n
              · rw [if_pos (by omega), if_pos e]
              · rw [if_neg (by omega), if_neg e]; rfl
            · rw [if_neg m1, if_neg (by omega)]
        · rw [if_neg h1]
          simp only [get, hb, Bool.cond_decide]
          by_cases m0 : m = 0
          · rw [if_pos m0, if_neg (by omega)]
          · rw [if_neg m0]
            by_cases m1 : m % 2 = 1
            · rw [if_pos m1, if_neg (by omega)]
            · rw [if_neg m1, ih _ _ _ _ (by omega)]
              by_cases e : m = n
              · rw [if_pos (by omega), if_pos e]
              · rw [if_neg (by omega), if_neg e]; rfl
    | node l v r =>
      simp only [put0, hb, Bool.cond_decide]
      by_cases h0 : n = 0
      · subst h0
        simp only [if_true, get, hb, Bool.cond_decide]
        by_cases m0 : m = 0
        · simp [m0]
        · simp [m0]
      · rw [if_neg h0]
        by_cases h1 : n % 2 = 1
        · rw [if_pos h1]
          simp only [get, hb, Bool.cond_decide]
          by_cases m0 : m = 0
          · rw [if_pos m0, if_pos m0, if_neg (by omega)]
          · rw [if_neg m0, if_neg m0]
            by_cases m1 : m % 2 = 1
            · rw [if_pos m1, if_pos m1, ih _ _ _ _ (by omega)]
              by_cases e : m = n
              · rw [if_pos (by omega), if_pos e]
              · rw [if_neg (by omega), if_neg e]
            · rw [if_neg m1, if_neg m1, if_neg (by omega)]
        · rw [if_neg h1]
          simp only [get, hb, Bool.cond_decide]
          by_cases m0 : m = 0
          · rw [if_pos m0, if_pos m0, if_neg (by omega)]
          · rw [if_neg m0, if_neg m0]
            by_cases m1 : m % 2 = 1
            · rw [if_pos m1, if_pos m1, if_neg (by omega)]
            · rw [if_neg m1, if_neg m1, ih _ _ _ _ (by omega)]
              by_cases e : m = n
              · rw [if_pos (by omega), if_pos e]
              · rw [if_neg (by omega), if_neg e]
theorem get_set (t : Tr α) (n m : Nat) (x : α) : (t.set n x).get m = if m = n then some x else t.get m := get_put0 _ _ _ _ _ (by omega)
theorem get_nil (n : Nat) : (Tr.nil : Tr α).get n = none := rfl
/-- Many at once, from place n on. -/
def fill (t : Tr α) (n : Nat) : List α → Tr α
  | [] => t
  | x :: r => (t.set n x).fill (n + 1) r
end Tr

/-- Values of one cell without an address. -/
inductive Sc where
  | int (k : IntKind) (n : Int)
  | bool (b : Bool)
  | str (s : ByteArray)
  | nilsl | nilptr | nilmap | nilfn | nilif | undef
  deriving DecidableEq

/-- Values of the shadow. Offsets count cells. -/
inductive SV where
  | sc (s : Sc)
  | agg (cs : List SV)
  | tup (vs : List SV)
  | sl (id off len sz : Nat)
  | lst (len sz : Nat) (cells : List SV)
  | ptr (id off : Nat)
  | iptr (cells : List SV) (off : Nat)
  | fn (f : Nat) (first cap : List SV)
  | yld (l : Nat)
  | mp (id : Nat)
  deriving Inhabited

def SV.undef : SV := .sc .undef
def SV.int (n : Int) : SV := .sc (.int .i64 n)
def SV.bool (b : Bool) : SV := .sc (.bool b)

inductive Opd where
  | t (n : Nat)
  | k (v : SV)

def getT (t : Tr SV) (n : Nat) : SV := match t.get n with | some v => v | none => .sc .undef
def Opd.ev (t : Tr SV) : Opd → SV
  | .t n => getT t n
  | .k v => v

/-- Operations; types are told by what counts of them: cells (sz), is it an aggregate (ag), zero cells (zs). -/
inductive SOp where
  | mv (x : Opd)
  | pick (c a b : Opd)
  | alloc (zs : List SV)
  | box (x : Opd)
  | build (zs : List SV) (parts : List (Nat × Nat × Opd))
  | buildSl (sz : Nat) (zs : List SV) (len : Nat) (parts : List (Nat × Nat × Opd))
  | load (ag : Bool) (n : Nat) (a : Opd)
  | store (n : Nat) (a x : Opd)
  | bin (tag n : Nat) (op : BinOp) (x y : Opd)
  | un (op : UnOp) (x : Opd)
  | conv (k : IntKind) (x : Opd)
  | mkfn (f : Nat) (first cap : List Opd)
  | mkmap
  | mksl (sz bytes : Nat) (zs : List SV) (l c : Opd)
  | slc (sz : Nat) (x : Opd) (lo hi : Option Opd)
  | slcArr (n sz : Nat) (x : Opd) (lo hi : Option Opd)
  | fieldA (off : Nat) (x : Opd)
  | field (ag : Bool) (off n : Nat) (x : Opd)
  | indexArr (n sz : Nat) (x i : Opd)
  | indexSl (sz : Nat) (x i : Opd)
  | index (n sz : Nat) (ag : Bool) (x i : Opd)
  | extract (x : Opd) (i : Nat)
  | lenSl (x : Opd)
  | lenArr (n : Nat)
  | lenMap (x : Opd)
  | append (sz bytes : Nat) (zs : List SV) (x y : Opd)
  | lookup (zero : SV) (ok : Bool) (m k : Opd)
  | mapset (m k v : Opd)
  | nilchk (x : Opd)
  | minmax (mx : Bool) (x y : Opd)
  | copy (sz : Nat) (x y : Opd)
  | clear (sz : Nat) (zs : List SV) (x : Opd)
  | idxStr (x i : Opd)
  | bad
  | call (f : Opd) (args : List Opd)

structure Step where
  dst : Option Nat
  guard : Option (Nat × Bool)
  op : SOp
  re : List (Nat × Option (Nat × Bool) × SOp) := []

inductive SC where
  | skip
  | seq (a b : SC)
  | cond (c : Opd) (a b : SC)
  | block (id : Nat) (b : SC)
  | loop (b : SC)
  | exit (id : Nat)
  | ret
  | reg (ss : List Step)
  | bad
  | rng (f : Opd) (ps : List Nat) (assign body : SC)

inductive Jump where
  | ret
  | exit (id : Nat)
def Jump.code : Jump → SC
  | .ret => .ret
  | .exit id => .exit id

inductive Ob where
  | cells (cs : List SV)
  | map (es : List (SV × SV))
  | loop (t : Tr SV) (ps : List Nat) (assign body : SC) (st : LoopState) (pend : Option Jump)
  | dead

structure St where
  heap : Tr Ob
  next : Nat

def St.empty : St := ⟨.nil, 0⟩
def St.get (σ : St) (i : Nat) : Option Ob := σ.heap.get i
def St.set (σ : St) (i : Nat) (o : Ob) : St := { σ with heap := σ.heap.set i o }
def St.push (σ : St) (o : Ob) : St := ⟨σ.heap.set σ.next o, σ.next + 1⟩

def SV.flat : SV → List SV
  | .agg cs => cs
  | x => [x]
/-- Is it one cell? -/
def SV.one : SV → Bool
  | .agg _ | .tup _ | .sc .undef => false
  | _ => true
/-- May it lie in memory: one cell, or many? -/
def SV.lay : SV → Bool
  | .tup _ | .sc .undef => false
  | _ => true
/-- Cells, as a value. -/
def unflat (ag : Bool) (cs : List SV) : Option SV :=
  match ag, cs with
  | true, cs => some (.agg cs)
  | false, [x] => some x
  | _, _ => none

def cellsOf (σ : St) (id : Nat) : Option (List SV) :=
  match σ.get id with
  | some (.cells cs) => some cs
  | _ => none
/-- n cells from off on. -/
def cutT : List SV → Nat → Option (List SV)
  | _, 0 => some []
  | [], _ + 1 => none
  | c :: cs, n + 1 => match cutT cs n with
    | some r => some (c :: r)
    | none => none
def cut (cs : List SV) (off : Nat) : Nat → Option (List SV)
  | 0 => if off ≤ cs.length then some [] else none
  | n + 1 => cutT (cs.drop off) (n + 1)
theorem cutT_def : ∀ (n : Nat) (cs : List SV), cutT cs n = if n ≤ cs.length then some (cs.take n) else none
  | 0, cs => by cases cs <;> simp [cutT]
  | n + 1, [] => by simp [cutT]
  | n + 1, c :: cs => by
    simp only [cutT, cutT_def n cs, List.length_cons, List.take_succ_cons]
    by_cases h : n ≤ cs.length
    · rw [if_pos h, if_pos (by omega)]
    · rw [if_neg h, if_neg (by omega)]
theorem cut_def (cs : List SV) (off n : Nat) : cut cs off n = if off + n ≤ cs.length then some ((cs.drop off).take n) else none := by
  cases n with
  | zero => simp [cut]
  | succ n =>
    show cutT (cs.drop off) (n + 1) = _
    rw [cutT_def, List.length_drop]
    by_cases h : off + (n + 1) ≤ cs.length
    · rw [if_pos h, if_pos (by omega)]
    · rw [if_neg h, if_neg (by omega)]
def paste : List SV → Nat → List SV → List SV
  | cs, 0, new => new ++ cs.drop new.length
  | [], _ + 1, new => new
  | c :: cs, off + 1, new => c :: paste cs off new
theorem paste_def : ∀ (off : Nat) (cs new : List SV), paste cs off new = cs.take off ++ new ++ cs.drop (off + new.length)
  | 0, cs, new => by cases cs <;> simp [paste]
  | off + 1, [], new => by simp [paste]
  | off + 1, c :: cs, new => by simp [paste, paste_def off cs new, Nat.succ_add]

def fillParts (t : Tr SV) : List SV → List (Nat × Nat × Opd) → Option (List SV)
  | cs, [] => some cs
  | cs, (off, n, x) :: r =>
    let new := (x.ev t).flat
    if new.length = n ∧ off + n ≤ cs.length ∧ (x.ev t).lay = true then fillParts t (paste cs off new) r else none

def intOf : SV → Option Int
  | .sc (.int _ n) => some n
  | _ => none

def intBin (op : BinOp) (k : IntKind) (a b : Int) : Option Sc :=
  match op with
  | .add => some (.int k (k.wrap (a + b)))
  | .sub => some (.int k (k.wrap (a - b)))
  | .mul => some (.int k (k.wrap (a * b)))
  | .quo => if b = 0 then none else some (.int k (k.wrap (a.tdiv b)))
  | .rem => if b = 0 then none else some (.int k (a.tmod b))
  | .and => some (.int k (k.wrap (BitVec.ofInt k.bits a &&& BitVec.ofInt k.bits b).toNat))
  | .or => some (.int k (k.wrap (BitVec.ofInt k.bits a ||| BitVec.ofInt k.bits b).toNat))
  | .xor => some (.int k (k.wrap (BitVec.ofInt k.bits a ^^^ BitVec.ofInt k.bits b).toNat))
  | .andNot => some (.int k (k.wrap (BitVec.ofInt k.bits a &&& ~~~BitVec.ofInt k.bits b).toNat))
  | .eql => some (.bool (a == b))
  | .neq => some (.bool (a != b))
  | .lss => some (.bool (a < b))
  | .leq => some (.bool (a ≤ b))
  | .gtr => some (.bool (a > b))
  | .geq => some (.bool (a ≥ b))
  | _ => none

/-- Are cells of one kind (q: 1 bools, 2 whole numbers, 3 texts) the same? none: others are among them. -/
def eqCells (q : Nat) : List SV → List SV → Option Bool
  | [], [] => some true
  | .sc (.int k a) :: r, .sc (.int k' b) :: s => bif Nat.beq q 2 then (if k = k' then (if a = b then eqCells q r s else (eqCells q r s).map fun _ => false) else none) else none
  | .sc (.bool a) :: r, .sc (.bool b) :: s => bif Nat.beq q 1 then (if a = b then eqCells q r s else (eqCells q r s).map fun _ => false) else none
  | .sc (.str a) :: r, .sc (.str b) :: s => bif Nat.beq q 3 then (if a = b then eqCells q r s else (eqCells q r s).map fun _ => false) else none
  | _, _ => none

/-- tag: 1: bools, 3: slices, 5, 6, 7: aggregates of bools, whole numbers, texts. -/
def eqSV (tag n : Nat) : SV → SV → Option Bool
  | .sc (.bool a), .sc (.bool b) => bif Nat.beq tag 1 then some (a == b) else none
  | .sc (.str a), .sc (.str b) => some (decide (a = b))
  | .agg a, .agg b => bif Nat.ble 5 tag && Nat.beq a.length n then eqCells (tag - 4) a b else none
  | .sc .nilsl, .sc .nilsl => bif Nat.beq tag 3 then some true else none
  | .sc .nilsl, .sl .. | .sl .., .sc .nilsl | .sc .nilsl, .lst .. | .lst .., .sc .nilsl => bif Nat.beq tag 3 then some false else none
  | _, _ => none

def binSV (tag n : Nat) (op : BinOp) (x y : SV) : Option SV :=
  match x, y with
  | .sc (.int k a), .sc (.int k' b) =>
    match op with
    | .shl => if b < 0 then none else some (.sc (.int k (k.wrap (a * 2 ^ (min b.toNat k.bits)))))
    | .shr => if b < 0 then none else some (.sc (.int k (a.fdiv (2 ^ (min b.toNat k.bits)))))
    | _ => if k = k' then (intBin op k a b).map .sc else none
  | _, _ =>
    match op with
    | .eql => (eqSV tag n x y).map .bool
    | .neq => (eqSV tag n x y).map fun b => .bool (!b)
    | _ => none

def unSV (op : UnOp) (x : SV) : Option SV :=
  match op, x with
  | .not, .sc (.bool b) => some (.bool (!b))
  | .neg, .sc (.int k n) => some (.sc (.int k (k.wrap (0 - n))))
  | _, _ => none

def loadSV (σ : St) (ag : Bool) (n : Nat) : SV → Option SV
  | .ptr id off => (cellsOf σ id).bind fun cs => (cut cs off n).bind (unflat ag)
  | .iptr cs off => (cut cs off n).bind (unflat ag)
  | _ => none

/-- A slice's cells, as many as its length says. -/
def rowSV (σ : St) : SV → Option (List SV)
  | .sc .nilsl => some []
  | .lst _ _ cells => some cells
  | .sl id off len sz => (cellsOf σ id).bind fun cs => cut cs off (len * sz)
  | _ => none
def lenSV : SV → Option Nat
  | .sc .nilsl => some 0
  | .lst len _ _ => some len
  | .sl _ _ len _ => some len
  | _ => none

/-- Keys of maps: whole numbers, or aggregates of them. -/
def keyOk : SV → Bool
  | .sc (.int _ _) => true
  | _ => false
def findKey (k : SV) : List (SV × SV) → Option SV
  | [] => none
  | (k', v) :: r => match k, k' with
    | .sc (.int _ a), .sc (.int _ b) => if a = b then some v else findKey k r
    | _, _ => none
def allKeys (kd : IntKind) (es : List (SV × SV)) : Bool := es.all fun e => match e.1 with | .sc (.int k _) => decide (k = kd) | _ => false
def setKey (k : SV) (v : SV) : List (SV × SV) → List (SV × SV)
  | [] => [(k, v)]
  | (k', u) :: r => match k, k' with
    | .sc (.int _ a), .sc (.int _ b) => if a = b then (k', v) :: r else (k', u) :: setKey k v r
    | _, _ => (k', u) :: setKey k v r

def loI (t : Tr SV) : Option Opd → Option Int
  | some x => intOf (x.ev t)
  | none => some 0
def hiI (len : Nat) (t : Tr SV) : Option Opd → Option Int
  | some x => intOf (x.ev t)
  | none => some len
def bounds (len : Nat) (t : Tr SV) (lo hi : Option Opd) : Option (Nat × Nat) :=
  match loI t lo, hiI len t hi with
  | some l, some h => if 0 ≤ l ∧ l ≤ h ∧ h ≤ len then some (l.toNat, h.toNat) else none
  | _, _ => none

/-- An operation that is no call: its value ('undef' of a store) and the state behind it. -/
def sop (o : SOp) (t : Tr SV) (σ : St) : Option (SV × St) :=
  match o with
  | .mv x => some (x.ev t, σ)
  | .pick c a b => match c.ev t with
    | .sc (.bool true) => some (a.ev t, σ)
    | .sc (.bool false) => some (b.ev t, σ)
    | _ => none
  | .alloc zs => some (.ptr σ.next 0, σ.push (.cells zs))
  | .box x => match x.ev t with
    | .agg cs => some (.ptr σ.next 0, σ.push (.cells cs))
    | v => if v.one then some (.ptr σ.next 0, σ.push (.cells [v])) else none
  | .build zs parts => (fillParts t zs parts).map fun cs => (.agg cs, σ)
  | .buildSl sz zs len parts => (fillParts t zs parts).map fun cs => (.sl σ.next 0 len sz, σ.push (.cells cs))
  | .load ag n a => (loadSV σ ag n (a.ev t)).map fun v => (v, σ)
  | .store n a x => match a.ev t with
    | .ptr id off => (cellsOf σ id).bind fun cs =>
      let v := x.ev t
      if v.flat.length = n ∧ off + n ≤ cs.length ∧ v.lay = true then some (.undef, σ.set id (.cells (paste cs off v.flat))) else none
    | _ => none
  | .bin tag n op x y => (binSV tag n op (x.ev t) (y.ev t)).map fun v => (v, σ)
  | .un op x => (unSV op (x.ev t)).map fun v => (v, σ)
  | .conv k x => match x.ev t with
    | .sc (.int _ n) => some (.sc (.int k (k.wrap n)), σ)
    | _ => none
  | .mkfn f first cap => some (.fn f (first.map (·.ev t)) (cap.map (·.ev t)), σ)
  | .mkmap => some (.mp σ.next, σ.push (.map []))
  | .mksl sz bytes zs l c => match intOf (l.ev t), intOf (c.ev t) with
    | some l, some c => if 0 ≤ l ∧ l ≤ c ∧ c * bytes ≤ 2 ^ 40 ∧ c ≤ 2 ^ 40 then some (.sl σ.next 0 l.toNat sz, σ.push (.cells (List.replicate c.toNat zs).flatten)) else none
    | _, _ => none
  | .slc sz x lo hi => match x.ev t with
    | .sc .nilsl => (bounds 0 t lo hi).map fun _ => (.sc .nilsl, σ)
    | .sl id off len sz' => bif Nat.beq sz' sz then (bounds len t lo hi).map fun (l, h) => (.sl id (off + l * sz) (h - l) sz, σ) else none
    | .lst len sz' cells => bif Nat.beq sz' sz then (bounds len t lo hi).map fun (l, h) => (.lst (h - l) sz ((cells.drop (l * sz)).take ((h - l) * sz)), σ) else none
    | _ => none
  | .slcArr n sz x lo hi => match x.ev t with
    | .ptr id off => (cellsOf σ id).bind fun cs => if off + n * sz ≤ cs.length then (bounds n t lo hi).map fun (l, h) => (.sl id (off + l * sz) (h - l) sz, σ) else none
    | _ => none
  | .fieldA off x => match x.ev t with
    | .ptr id o => some (.ptr id (o + off), σ)
    | .iptr cs o => some (.iptr cs (o + off), σ)
    | _ => none
  | .field ag off n x => match x.ev t with
    | .agg cs => ((cut cs off n).bind (unflat ag)).map fun v => (v, σ)
    | _ => none
  | .indexArr n sz x i => match intOf (i.ev t) with
    | some i => if 0 ≤ i ∧ i < n then (match x.ev t with
        | .ptr id o => some (.ptr id (o + i.toNat * sz), σ)
        | .iptr cs o => some (.iptr cs (o + i.toNat * sz), σ)
        | _ => none) else none
    | none => none
  | .indexSl sz x i => match intOf (i.ev t) with
    | some i => (match x.ev t with
        | .sl id o len _ => if 0 ≤ i ∧ i < len then some (.ptr id (o + i.toNat * sz), σ) else none
        | .lst len _ cells => if 0 ≤ i ∧ i < len then some (.iptr cells (i.toNat * sz), σ) else none
        | _ => none)
    | none => none
  | .index n sz ag x i => match intOf (i.ev t), x.ev t with
    | some i, .agg cs => if 0 ≤ i ∧ i < n then ((cut cs (i.toNat * sz) sz).bind (unflat ag)).map fun v => (v, σ) else none
    | _, _ => none
  | .extract x i => match x.ev t with
    | .tup vs => vs[i]?.map fun v => (v, σ)
    | _ => none
  | .lenSl x => (lenSV (x.ev t)).map fun (n : Nat) => (SV.int n, σ)
  | .lenArr n => some (.int n, σ)
  | .lenMap x => match x.ev t with
    | .sc .nilmap => some (.int 0, σ)
    | .mp id => match σ.get id with
      | some (.map es) => some (.int es.length, σ)
      | _ => none
    | _ => none
  | .append sz bytes zs x y => (rowSV σ (y.ev t)).bind fun new => (lenSV (y.ev t)).bind fun m =>
    match x.ev t with
    | .sc .nilsl => if m = 0 then some (.sc .nilsl, σ) else if new.length = m * sz ∧ m * bytes ≤ 2 ^ 40 ∧ m ≤ 2 ^ 40 then some (.sl σ.next 0 m sz, σ.push (.cells new)) else none
    | .sl id off len sz' => (cellsOf σ id).bind fun cs => (cut cs off (len * sz)).bind fun old =>
      if sz' = sz ∧ new.length = m * sz ∧ (len + m) * bytes ≤ 2 ^ 40 ∧ len + m ≤ 2 ^ 40 then some (.sl σ.next 0 (len + m) sz, (σ.set id .dead).push (.cells (old ++ new))) else none
    | _ => none
  | .lookup zero ok m k => match k.ev t with
    | .sc (.int kd a) =>
      let go (es : List (SV × SV)) : Option (SV × St) :=
        if allKeys kd es then
          (match findKey (.sc (.int kd a)) es with
          | some v => some (if ok then .tup [v, .bool true] else v, σ)
          | none => some (if ok then .tup [zero, .bool false] else zero, σ))
        else none
      (match m.ev t with
      | .sc .nilmap => go []
      | .mp id => match σ.get id with
        | some (.map es) => go es
        | _ => none
      | _ => none)
    | _ => none
  | .mapset m k v => match k.ev t, m.ev t with
    | .sc (.int kd a), .mp id => (match σ.get id with
      | some (.map es) => if allKeys kd es then some (.undef, σ.set id (.map (setKey (.sc (.int kd a)) (v.ev t) es))) else none
      | _ => none)
    | _, _ => none
  | .nilchk x => match x.ev t with
    | .ptr id o => some (.ptr id o, σ)
    | .iptr cs o => some (.iptr cs o, σ)
    | .fn f a b => some (.fn f a b, σ)
    | .yld l => some (.yld l, σ)
    | .mp id => some (.mp id, σ)
    | _ => none
  | .minmax mx x y => match x.ev t, y.ev t with
    | .sc (.int k a), .sc (.int _ b) => some (.sc (.int k (bif mx then (if b > a then b else a) else (if b < a then b else a))), σ)
    | _, _ => none
  | .copy sz x y => (rowSV σ (y.ev t)).bind fun new => (lenSV (y.ev t)).bind fun m =>
    match x.ev t with
    | .sc .nilsl => if new.length = m * sz then some (.int 0, σ) else none
    | .sl id off len sz' => (cellsOf σ id).bind fun cs =>
      if sz' = sz ∧ new.length = m * sz ∧ off + len * sz ≤ cs.length then some (.int (Nat.min m len), σ.set id (.cells (paste cs off (new.take (Nat.min m len * sz))))) else none
    | _ => none
  | .clear sz zs x => match x.ev t with
    | .sc .nilsl => some (.tup [], σ)
    | .sl id off len sz' => (cellsOf σ id).bind fun cs =>
      if sz' = sz ∧ off + len * sz ≤ cs.length then some (.tup [], σ.set id (.cells (paste cs off (List.replicate len zs).flatten))) else none
    | _ => none
  | .idxStr x i => match x.ev t, i.ev t with
    | .sc (.str s), .sc (.int _ i) => if 0 ≤ i then (s[i.toNat]?).map fun b => (.sc (.int .u8 b.toNat), σ) else none
    | _, _ => none
  | .bad => none
  | .call _ _ => none

mutual
/-- Are two values the same, to the sign? -/
def SV.same : SV → SV → Bool
  | .sc a, .sc b => decide (a = b)
  | .agg a, .agg b => sames a b
  | .tup a, .tup b => sames a b
  | .sl a b c d, .sl a' b' c' d' => Nat.beq a a' && Nat.beq b b' && Nat.beq c c' && Nat.beq d d'
  | .lst a b c, .lst a' b' c' => Nat.beq a a' && Nat.beq b b' && sames c c'
  | .ptr a b, .ptr a' b' => Nat.beq a a' && Nat.beq b b'
  | .iptr a b, .iptr a' b' => sames a a' && Nat.beq b b'
  | .fn a b c, .fn a' b' c' => Nat.beq a a' && sames b b' && sames c c'
  | .yld a, .yld b => Nat.beq a b
  | .mp a, .mp b => Nat.beq a b
  | _, _ => false
def sames : List SV → List SV → Bool
  | [], [] => true
  | a :: r, b :: s => a.same b && sames r s
  | _, _ => false
end

inductive RV where
  | tmp (t : Nat)
  | cell (t : Nat) (ag : Bool) (n : Nat)

structure SFun where
  np : Nat
  ntmps : Nat
  results : List RV
  body : SC

structure Env where
  fn : Nat → Option SFun
  ext : Nat → Option (List SV → St → Option (SV × St))

inductive Ex where
  | normal
  | exit (id : Nat)
  | ret

def resOne (t : Tr SV) (σ : St) : RV → Option SV
  | .tmp n => some (getT t n)
  | .cell n ag k => loadSV σ ag k (getT t n)
def resMany (t : Tr SV) (σ : St) : List RV → Option (List SV)
  | [] => some []
  | r :: rs => match resOne t σ r, resMany t σ rs with
    | some v, some vs => some (v :: vs)
    | _, _ => none
def resultsSV (t : Tr SV) (σ : St) (rs : List RV) : Option SV :=
  match resMany t σ rs with
  | some [v] => some v
  | some vs => some (.tup vs)
  | none => none

def wantedS (t : Tr SV) : Option (Nat × Bool) → Option Bool
  | none => some true
  | some (g, b) => match getT t g with
    | .sc (.bool c) => some (c == b)
    | .sc .undef => some false
    | _ => none

def putD (t : Tr SV) (d : Option Nat) (v : SV) : Tr SV :=
  match d with
  | some d => t.set d v
  | none => t

/-- Do reads that may come behind this operation as well read the same there? -/
def recheck (t : Tr SV) (σ : St) : List (Nat × Option (Nat × Bool) × SOp) → Bool
  | [] => true
  | (d, g, o) :: r => (match wantedS t g with
    | some true => (match sop o t σ with
      | some (v, _) => v.same (getT t d)
      | none => false)
    | some false => true
    | none => false) && recheck t σ r

def setMany (t : Tr SV) : List Nat → List SV → Tr SV
  | p :: ps, v :: vs => setMany (t.set p v) ps vs
  | _, _ => t

mutual
def exec (E : Env) : Nat → SC → Tr SV → St → Option (Ex × Tr SV × St)
  | 0, _, _, _ => none
  | n + 1, c, t, σ => match c with
    | .skip => some (.normal, t, σ)
    | .seq a b => match exec E n a t σ with
      | some (.normal, t1, σ1) => exec E n b t1 σ1
      | r => r
    | .cond c a b => match c.ev t with
      | .sc (.bool true) => exec E n a t σ
      | .sc (.bool false) => exec E n b t σ
      | _ => none
    | .block id b => match exec E n b t σ with
      | some (.exit i, t1, σ1) => some (bif Nat.beq i id then .normal else .exit i, t1, σ1)
      | r => r
    | .loop b => match exec E n b t σ with
      | some (.normal, t1, σ1) => exec E n (.loop b) t1 σ1
      | r => r
    | .exit i => some (.exit i, t, σ)
    | .ret => some (.ret, t, σ)
    | .bad => none
    | .reg ss => match steps E n ss t σ with
      | some (t1, σ1) => some (.normal, t1, σ1)
      | none => none
    | .rng f ps as body =>
      match f.ev t with
      | .fn g first cap => (match call E n g (first ++ [.yld σ.next] ++ cap) (σ.push (.loop t ps as body .ready none)) with
        | some (_, σ1) => (match σ1.get σ.next with
          | some (.loop _ _ _ _ .busy _) => none
          | some (.loop _ _ _ _ _ none) => some (.normal, t, σ1.set σ.next .dead)
          | some (.loop _ _ _ _ _ (some .ret)) => some (.ret, t, σ1.set σ.next .dead)
          | some (.loop _ _ _ _ _ (some (.exit i))) => some (.exit i, t, σ1.set σ.next .dead)
          | _ => none)
        | none => none)
      | _ => none
def steps (E : Env) : Nat → List Step → Tr SV → St → Option (Tr SV × St)
  | 0, _, _, _ => none
  | n + 1, ss, t, σ => match ss with
    | [] => some (t, σ)
    | s :: ss => match wantedS t s.guard with
      | some true => (match one E n s.op t σ with
        | some (v, σ1) => bif recheck t σ1 s.re then steps E n ss (putD t s.dst v) σ1 else none
        | none => none)
      | some false => steps E n ss (putD t s.dst .undef) σ
      | none => none
/-- One operation. -/
def one (E : Env) : Nat → SOp → Tr SV → St → Option (SV × St)
  | 0, _, _, _ => none
  | n + 1, o, t, σ => match o with
    | .call f args => callV E n (f.ev t) (args.map (·.ev t)) σ
    | o => sop o t σ
def callV (E : Env) : Nat → SV → List SV → St → Option (SV × St)
  | 0, _, _, _ => none
  | n + 1, f, args, σ => match f with
    | .fn f first cap => call E n f (first ++ args ++ cap) σ
    | .yld l => round E n l args σ
    | _ => none
def call (E : Env) : Nat → Nat → List SV → St → Option (SV × St)
  | 0, _, _, _ => none
  | n + 1, f, args, σ => match E.ext f with
    | some g => g args σ
    | none => match E.fn f with
      | some fn => bif Nat.beq args.length fn.np then
          (match exec E n fn.body (Tr.fill .nil 0 args) σ with
          | some (.normal, t1, σ1) => (resultsSV t1 σ1 fn.results).map fun v => (v, σ1)
          | some (.ret, t1, σ1) => (resultsSV t1 σ1 fn.results).map fun v => (v, σ1)
          | _ => none) else none
      | none => none
def round (E : Env) : Nat → Nat → List SV → St → Option (SV × St)
  | 0, _, _, _ => none
  | n + 1, l, args, σ => match σ.get l with
    | some (.loop t ps as body .ready none) => bif Nat.beq args.length ps.length then
        (match exec E n as (setMany t ps args) σ with
        | some (.normal, t1, σ1) => (match σ1.get l with
          | some (.loop t2 ps2 as2 body2 .ready none) =>
            (match exec E n body t1 (σ1.set l (.loop t2 ps2 as2 body2 .busy none)) with
            | some (ex, _, σ2) => (match σ2.get l with
              | some (.loop t3 ps3 as3 body3 _ _) => (match ex with
                | .normal => some (.bool true, σ2.set l (.loop t3 ps3 as3 body3 .ready none))
                | .ret => some (.bool false, σ2.set l (.loop t3 ps3 as3 body3 .done (some .ret)))
                | .exit i => some (.bool false, σ2.set l (.loop t3 ps3 as3 body3 .done (some (.exit i)))))
              | _ => none)
            | none => none)
          | _ => none)
        | _ => none) else none
    | _ => none
end
end Go.Proofs.Ytojjhcgbbmknmaa.Sh

/- The relation between the shadow and the machine: values, states, and what a step of the shadow asks of the machine. -/
namespace Go.Proofs.Ytojjhcgbbmknmaa.Sh
set_option linter.unusedSimpArgs false
set_option linter.unusedVariables false
open Go Go.RowKit

/-- Where a block of the shadow lies: the machine's block, its first cell there, how many cells that block has. -/
structure Pl where
  blk : Nat
  base : Nat
  size : Nat
/-- Where the shadow's blocks lie, and which cells hold what for good. -/
structure Rho where
  pl : Nat → Option Pl
  fz : Addr → Value → Prop
instance : CoeFun Rho (fun _ => Nat → Option Pl) := ⟨Rho.pl⟩

def Sc.val : Sc → Value
  | .int k n => .int k n
  | .bool b => .bool b
  | .str s => .string s
  | .nilsl => .slice none 0 0
  | .nilptr => .pointer none
  | .nilmap => .map none
  | .nilfn => .nilFunc
  | .nilif => .nilIface
  | .undef => Go.undef

/-- Cells that stay: of the first world, or held for good. -/
def Lies (w0 : World) (ρ : Rho) (a : Addr) (vs : List Value) : Prop :=
  (vs ≠ [] → a.spot = none) ∧ ∀ i v, vs[i]? = some v → w0.cell? ⟨a.block, a.off + i, none⟩ = some v ∨ ρ.fz ⟨a.block, a.off + i, none⟩ v

mutual
def VR (w0 : World) (ρ : Rho) : SV → Value → Prop
  | .sc s, u => u = s.val
  | .agg cs, u => ∃ a : Array Value, u = .agg a ∧ VRs w0 ρ cs a.toList
  | .tup cs, u => ∃ a : Array Value, u = .tuple a ∧ VRs w0 ρ cs a.toList
  | .sl id off len sz, u => ∃ p cap o, ρ id = some p ∧ u = .slice (some ⟨p.blk, o, none⟩) len cap ∧ (o = p.base + off ∨ cap = 0) ∧ len ≤ cap ∧ 0 < sz ∧ (0 < cap → p.base + off + cap * sz ≤ p.size)
  | .lst len sz cs, u => ∃ a cap vs, u = .slice (some a) len cap ∧ len ≤ cap ∧ VRs w0 ρ cs vs ∧ Lies w0 ρ a vs ∧ cs.length = len * sz ∧ 0 < sz
  | .ptr id off, u => ∃ p, ρ id = some p ∧ u = .pointer (some ⟨p.blk, p.base + off, none⟩)
  | .iptr cs off, u => ∃ a vs, u = .pointer (some ⟨a.block, a.off + off, none⟩) ∧ VRs w0 ρ cs vs ∧ Lies w0 ρ a vs
  | .fn f first cap, u => ∃ a b : Array Value, u = .func (.func f) a b ∧ VRs w0 ρ first a.toList ∧ VRs w0 ρ cap b.toList
  | .yld l, u => ∃ p, ρ l = some p ∧ u = .func (.yield p.blk) #[] #[]
  | .mp id, u => ∃ p, ρ id = some p ∧ u = .map (some p.blk)
def VRs (w0 : World) (ρ : Rho) : List SV → List Value → Prop
  | [], vs => vs = []
  | c :: cs, vs => ∃ v r, vs = v :: r ∧ VR w0 ρ c v ∧ VRs w0 ρ cs r
end

structure Ext (ρ ρ' : Rho) : Prop where
  pl : ∀ i p, ρ i = some p → ρ' i = some p
  fz : ∀ a v, ρ.fz a v → ρ'.fz a v
instance (ρ ρ' : Rho) : CoeFun (Ext ρ ρ') (fun _ => ∀ i p, ρ i = some p → ρ' i = some p) := ⟨Ext.pl⟩
theorem Ext.refl (ρ : Rho) : Ext ρ ρ := ⟨fun _ _ h => h, fun _ _ h => h⟩
theorem Ext.trans {a b c : Rho} (h : Ext a b) (k : Ext b c) : Ext a c := ⟨fun i p e => k i p (h i p e), fun a v e => k.fz a v (h.fz a v e)⟩
theorem Lies.mono {w0 : World} {ρ ρ' : Rho} {a : Addr} {vs : List Value} (h : Ext ρ ρ') (k : Lies w0 ρ a vs) : Lies w0 ρ' a vs := ⟨k.1, fun i v e => (k.2 i v e).imp id (h.fz _ _)⟩

section
variable {w0 : World} {ρ ρ' : Rho}
mutual
theorem VR.mono (h : Ext ρ ρ') : ∀ {s : SV} {u : Value}, VR w0 ρ s u → VR w0 ρ' s u
  | .sc _, _, k => by simpa [VR] using k
  | .agg cs, _, k => by
    simp only [VR] at k ⊢
    obtain ⟨a, e, k⟩ := k
    exact ⟨a, e, VRs.mono h k⟩
  | .tup cs, _, k => by
    simp only [VR] at k ⊢
    obtain ⟨a, e, k⟩ := k
    exact ⟨a, e, VRs.mono h k⟩
  | .sl .., _, k => by
    simp only [VR] at k ⊢
    obtain ⟨p, cap, o, k1, k⟩ := k
    exact ⟨p, cap, o, h _ _ k1, k⟩
  | .lst _ _ cs, _, k => by
    simp only [VR] at k ⊢
    obtain ⟨a, cap, vs, k1, k2, k3, k4, k⟩ := k
    exact ⟨a, cap, vs, k1, k2, VRs.mono h k3, k4.mono h, k⟩
  | .ptr .., _, k => by
    simp only [VR] at k ⊢
    obtain ⟨p, k1, k⟩ := k
    exact ⟨p, h _ _ k1, k⟩
  | .iptr cs _, _, k => by
    simp only [VR] at k ⊢
    obtain ⟨a, vs, k1, k3, k⟩ := k
    exact ⟨a, vs, k1, VRs.mono h k3, k.mono h⟩
  | .fn _ a b, _, k => by
    simp only [VR] at k ⊢
    obtain ⟨x, y, k1, k2, k3⟩ := k
    exact ⟨x, y, k1, VRs.mono h k2, VRs.mono h k3⟩
  | .yld _, _, k => by
    simp only [VR] at k ⊢
    obtain ⟨p, k1, k⟩ := k
    exact ⟨p, h _ _ k1, k⟩
  | .mp _, _, k => by
    simp only [VR] at k ⊢
    obtain ⟨p, k1, k⟩ := k
    exact ⟨p, h _ _ k1, k⟩
theorem VRs.mono (h : Ext ρ ρ') : ∀ {s : List SV} {u : List Value}, VRs w0 ρ s u → VRs w0 ρ' s u
  | [], _, k => by simpa [VRs] using k
  | c :: cs, _, k => by
    simp only [VRs] at k ⊢
    obtain ⟨v, r, e, k1, k2⟩ := k
    exact ⟨v, r, e, VR.mono h k1, VRs.mono h k2⟩
end

theorem VRs.len : ∀ {s : List SV} {u : List Value}, VRs w0 ρ s u → u.length = s.length
  | [], _, k => by simp only [VRs] at k; simp [k]
  | c :: cs, _, k => by
    simp only [VRs] at k
    obtain ⟨v, r, rfl, _, k2⟩ := k
    simp [VRs.len k2]
theorem VRs.nil : VRs w0 ρ [] [] := by simp [VRs]
theorem VRs.cons {c : SV} {v : Value} {cs : List SV} {vs : List Value} (h : VR w0 ρ c v) (k : VRs w0 ρ cs vs) : VRs w0 ρ (c :: cs) (v :: vs) := by
  simp only [VRs]; exact ⟨v, vs, rfl, h, k⟩
theorem VRs.append : ∀ {s s' : List SV} {u u' : List Value}, VRs w0 ρ s u → VRs w0 ρ s' u' → VRs w0 ρ (s ++ s') (u ++ u')
  | [], _, _, _, k, k' => by simp only [VRs] at k; subst k; simpa using k'
  | c :: cs, _, _, _, k, k' => by
    simp only [VRs] at k
    obtain ⟨v, r, rfl, k1, k2⟩ := k
    exact VRs.cons k1 (VRs.append k2 k')
theorem VRs.take : ∀ {s : List SV} {u : List Value} (n : Nat), VRs w0 ρ s u → VRs w0 ρ (s.take n) (u.take n)
  | [], _, n, k => by simp only [VRs] at k; subst k; simp [VRs]
  | c :: cs, _, 0, k => by simp [VRs]
  | c :: cs, _, n + 1, k => by
    simp only [VRs] at k
    obtain ⟨v, r, rfl, k1, k2⟩ := k
    exact VRs.cons k1 (VRs.take n k2)
theorem VRs.drop : ∀ {s : List SV} {u : List Value} (n : Nat), VRs w0 ρ s u → VRs w0 ρ (s.drop n) (u.drop n)
  | [], _, n, k => by simp only [VRs] at k; subst k; simp [VRs]
  | c :: cs, _, 0, k => by simpa using k
  | c :: cs, _, n + 1, k => by
    simp only [VRs] at k
    obtain ⟨v, r, rfl, k1, k2⟩ := k
    simpa using VRs.drop n k2
theorem VRs.get : ∀ {s : List SV} {u : List Value} {i : Nat} {x : SV}, VRs w0 ρ s u → s[i]? = some x → ∃ v, u[i]? = some v ∧ VR w0 ρ x v
  | [], _, i, x, _, h => by simp at h
  | c :: cs, _, 0, x, k, h => by
    simp only [VRs] at k
    obtain ⟨v, r, rfl, k1, k2⟩ := k
    simp at h; subst h
    exact ⟨v, by simp, k1⟩
  | c :: cs, _, i + 1, x, k, h => by
    simp only [VRs] at k
    obtain ⟨v, r, rfl, k1, k2⟩ := k
    simp at h
    obtain ⟨v', h1, h2⟩ := VRs.get k2 h
    exact ⟨v', by simpa using h1, h2⟩
theorem VRs.one {x : SV} {u : List Value} (k : VRs w0 ρ [x] u) : ∃ v, u = [v] ∧ VR w0 ρ x v := by
  simp only [VRs] at k
  obtain ⟨v, r, rfl, k1, rfl⟩ := k
  exact ⟨v, rfl, k1⟩
theorem VRs.flatten_replicate {zs : List SV} {us : List Value} (h : VRs w0 ρ zs us) : ∀ n : Nat, VRs w0 ρ (List.replicate n zs).flatten (List.replicate n us).flatten
  | 0 => by simp [VRs]
  | n + 1 => by simpa [List.replicate_succ] using VRs.append h (VRs.flatten_replicate h n)

theorem VR.one {s : SV} {u : Value} (h : VR w0 ρ s u) (k : s.one = true) : u.oneCell' = true := by
  cases s with
  | sc s => simp only [VR] at h; subst h; cases s <;> simp_all [Sc.val, Value.oneCell', SV.one]
  | agg => simp [SV.one] at k
  | tup => simp [SV.one] at k
  | sl => simp only [VR] at h; obtain ⟨p, c, o, _, rfl, _⟩ := h; rfl
  | lst => simp only [VR] at h; obtain ⟨p, c, o, rfl, _⟩ := h; rfl
  | ptr => simp only [VR] at h; obtain ⟨p, _, rfl⟩ := h; rfl
  | iptr => simp only [VR] at h; obtain ⟨p, c, rfl, _⟩ := h; rfl
  | fn => simp only [VR] at h; obtain ⟨p, c, rfl, _⟩ := h; rfl
  | yld => simp only [VR] at h; obtain ⟨p, _, rfl⟩ := h; rfl
  | mp => simp only [VR] at h; obtain ⟨p, _, rfl⟩ := h; rfl
end

/-- All are of one cell, and so is all that lies in lists and aggregates among them. -/
def allOne (cs : List SV) : Prop := ∀ c ∈ cs, c.one = true

mutual
/-- Cells within values are cells. -/
def SV.wf : SV → Prop
  | .agg cs => allOne cs ∧ wfs cs
  | .tup cs => wfs cs
  | .lst _ _ cs => allOne cs ∧ wfs cs
  | .iptr cs _ => allOne cs ∧ wfs cs
  | .fn _ a b => wfs a ∧ wfs b
  | _ => True
def wfs : List SV → Prop
  | [] => True
  | c :: cs => c.wf ∧ wfs cs
end
theorem wfs_iff : ∀ {l : List SV}, wfs l ↔ ∀ c ∈ l, c.wf
  | [] => by simp [wfs]
  | c :: l => by simp [wfs, wfs_iff (l := l)]

/-- A value and what it is in the machine. -/
def OK (w0 : World) (ρ : Rho) (s : SV) (u : Value) : Prop := VR w0 ρ s u ∧ s.wf
def OKs (w0 : World) (ρ : Rho) (s : List SV) (u : List Value) : Prop := VRs w0 ρ s u ∧ wfs s
theorem OK.mono {w0 : World} {ρ ρ' : Rho} {s : SV} {u : Value} (h : Ext ρ ρ') (k : OK w0 ρ s u) : OK w0 ρ' s u := ⟨k.1.mono h, k.2⟩
theorem OKs.mono {w0 : World} {ρ ρ' : Rho} {s : List SV} {u : List Value} (h : Ext ρ ρ') (k : OKs w0 ρ s u) : OKs w0 ρ' s u := ⟨k.1.mono h, k.2⟩

end Go.Proofs.Ytojjhcgbbmknmaa.Sh

/- From the model's code to the shadow's. -/
namespace Go.Proofs.Ytojjhcgbbmknmaa.Sh
set_option linter.unusedSimpArgs false
set_option linter.unusedVariables false
open Go

def scOf : Value → Option Sc
  | .int k n => some (.int k n)
  | .bool b => some (.bool b)
  | .string s => some (.str s)
  | .slice none 0 0 => some .nilsl
  | .pointer none => some .nilptr
  | .map none => some .nilmap
  | .nilFunc => some .nilfn
  | .nilIface => some .nilif
  | _ => none
def scsOf : List Value → Option (List SV)
  | [] => some []
  | v :: r => match scOf v, scsOf r with
    | some s, some l => some (.sc s :: l)
    | _, _ => none

def compOpd : Operand → Option Opd
  | .tmp t => some (.t t)
  | .const v => (scOf v).map fun s => .k (.sc s)
  | .func f => some (.k (.fn f [] []))
  | .global _ => none
def compOpds : List Operand → Option (List Opd)
  | [] => some []
  | x :: r => match compOpd x, compOpds r with
    | some a, some l => some (a :: l)
    | _, _ => none

section
variable (P : Program)
def szT (t : TypeId) : Option Nat := (P.info? t).map (·.size)
def byT (t : TypeId) : Option Nat := (P.info? t).map (·.bytes)
def zsT (t : TypeId) : Option (List SV) := ((P.info? t).bind (·.zero)).bind fun v => scsOf v.cells.toList
def zagT (t : TypeId) : Option Bool := ((P.info? t).bind (·.zero)).map fun | .agg _ => true | _ => false
def agT (t : TypeId) : Option Bool := (P.underlying t).map fun | .struct _ | .array _ _ => true | _ => false

def compParts (place : Nat → Option (Nat × Nat)) : List (Nat × Operand) → Option (List (Nat × Nat × Opd))
  | [] => some []
  | (i, x) :: r => match place i, compOpd x, compParts place r with
    | some (o, n), some a, some l => some ((o, n, a) :: l)
    | _, _, _ => none

/-- A type whose values are the same just if their cells are: bools (q = 1), whole numbers (2), texts (3), in a row. -/
def eqT (q : Nat) : Nat → TypeId → Bool
  | 0, _ => false
  | d + 1, t =>
    match P.underlying t with
    | some (.bool) => szT P t == some 1 && q == 1
    | some (.int _) => szT P t == some 1 && q == 2
    | some (.string) => szT P t == some 1 && q == 3
    | some (.struct fs) => !P.stoodInHeld t && fs.all (fun f => f.name != "_" && eqT q d f.type) && (fs.toList.foldl (fun (o : Option Nat) f => match o with
        | some o => if o = f.offset then (szT P f.type).map (o + ·) else none
        | none => none) (some 0)) == szT P t
    | some (.array n e) => eqT q d e && (match szT P e, szT P t with | some s, some u => u == n * s && Nat.ble 1 s | _, _ => false)
    | _ => false
def eqTag (t : TypeId) : Nat :=
  if P.eqGuardType P.depth t = false ∧ (szT P t).isSome = true then (if eqT P 1 20 t = true then 5 else if eqT P 2 20 t = true then 6 else if eqT P 3 20 t = true then 7 else 0) else 0

def optOpd : Option Operand → Option (Option Opd)
  | none => some none
  | some x => (compOpd x).map some

def compOp1 (o : Oper) : Option SOp :=
  match o.op with
  | .move x | .assign x => (compOpd x).map .mv
  | .pick c a b => match compOpd c, compOpd a, compOpd b with
    | some c, some a, some b => some (.pick c a b)
    | _, _, _ => none
  | .alloc e => (zsT P e).map .alloc
  | .box _ x => (compOpd x).map .box
  | .build t parts => match zsT P t, P.underlying t with
    | some zs, some (.struct fs) => match fs.toList.mapM (fun f => (P.info? f.type).map fun i => (f.offset, i.size)) with
      | some places => (compParts (fun i => places.toArray[i]?) parts.toList).map fun l => .build zs l
      | none => none
    | some zs, some (.array _ e) => match szT P e with
      | some s => (compParts (fun i => some (i * s, s)) parts.toList).map fun l => .build zs l
      | none => none
    | _, _ => none
  | .buildSlice t len parts => match P.underlying t with
    | some (.slice e) => match szT P e, zsT P e with
      | some s, some zs => if 0 < s ∧ zs.length = s ∧ len * s ≤ 2 ^ 24 then
          (compParts (fun i => some (i * s, s)) parts.toList).map fun l => .buildSl s (List.replicate len zs).flatten len l else none
      | _, _ => none
    | _ => none
  | .load t a => match agT P t, szT P t, compOpd a with
    | some ag, some n, some a => if ag = true ∨ n = 1 then some (.load ag n a) else none
    | _, _, _ => none
  | .store t a x => match szT P t, compOpd a, compOpd x with
    | some n, some a, some x => some (.store n a x)
    | _, _, _ => none
  | .nilCheck x => (compOpd x).map .nilchk
  | .binOp op t x y _ => match compOpd x, compOpd y with
    | some a, some b => some (.bin (match P.underlying t with
        | some (.bool) => 1
        | some (.slice _) => 3
        | some (.struct _) | some (.array _ _) => eqTag P t
        | _ => 0) ((szT P t).getD 0) op a b)
    | _, _ => none
  | .unOp op _ x => (compOpd x).map fun a => .un op a
  | .convert src dst x => match P.underlying src, P.underlying dst, compOpd x with
    | some (.int _), some (.int k), some a => some (.conv k a)
    | _, _, _ => none
  | .makeFunc (.func f) first cap => match compOpds first.toList, compOpds cap.toList with
    | some a, some b => some (.mkfn f a b)
    | _, _ => none
  | .makeMap _ none => some .mkmap
  | .makeSlice t l c => match P.underlying t with
    | some (.slice e) => match szT P e, byT P e, zsT P e, compOpd l, compOpd c with
      | some s, some by_, some zs, some l, some c => if 0 < s ∧ zs.length = s then some (.mksl s by_ zs l c) else none
      | _, _, _, _, _ => none
    | _ => none
  | .slice t x lo hi none => match P.underlying t, compOpd x, optOpd lo, optOpd hi with
    | some (.slice e), some x, some lo, some hi => match szT P e with
      | some s => if 0 < s then some (.slc s x lo hi) else none
      | none => none
    | some (.array n e), some x, some lo, some hi => match szT P e with
      | some s => if 0 < s then some (.slcArr n s x lo hi) else none
      | none => none
    | _, _, _, _ => none
  | .fieldAddr t x i => match P.underlying t, compOpd x with
    | some (.struct fs), some x => match fs[i]? with
      | some f => match szT P f.type with
        | some n => if 0 < n then some (.fieldA f.offset x) else none
        | none => none
      | none => none
    | _, _ => none
  | .field t x i => match P.underlying t, compOpd x with
    | some (.struct fs), some x => match fs[i]? with
      | some f => match szT P f.type, agT P f.type with
        | some n, some ag => if ag = true ∨ n = 1 then some (.field ag f.offset n x) else none
        | _, _ => none
      | none => none
    | _, _ => none
  | .indexAddr t x i => match P.underlying t, compOpd x, compOpd i with
    | some (.array n e), some x, some i => (szT P e).map fun s => .indexArr n s x i
    | some (.slice e), some x, some i => (szT P e).map fun s => .indexSl s x i
    | _, _, _ => none
  | .index t x i => match P.underlying t, compOpd x, compOpd i with
    | some (.array n e), some x, some i => match szT P e, agT P e with
      | some s, some ag => if ag = true ∨ s = 1 then some (.index n s ag x i) else none
      | _, _ => none
    | _, _, _ => none
  | .extract x i => (compOpd x).map fun a => .extract a i
  | .lookup t m k ok => match P.underlying t, compOpd m, compOpd k with
    | some (.map kt e), some m, some k => match P.underlying kt, zsT P e, agT P e with
      | some (.int _), some zs, some ag => if zagT P e = some ag then (unflat ag zs).map fun z => .lookup z ok m k else none
      | _, _, _ => none
    | _, _, _ => none
  | .mapUpdate t m k v | .insert t m k v => match P.underlying t, compOpd m, compOpd k, compOpd v with
    | some (.map kt _), some m, some k, some v => match P.underlying kt with
      | some (.int _) => some (.mapset m k v)
      | _ => none
    | _, _, _, _ => none
  | .call c => match c.callee with
    | .value f => match compOpd f, compOpds c.args.toList with
      | some f, some l => some (.call f l)
      | _, _ => none
    | .builtin .len => match c.args.toList, c.argTypes.toList with
      | [x], [t] => match P.underlying t, compOpd x with
        | some (.slice _), some x => some (.lenSl x)
        | some (.array n _), some _ => some (.lenArr n)
        | some (.map _ _), some x => some (.lenMap x)
        | some (.pointer u), some _ => match P.underlying u with
          | some (.array n _) => some (.lenArr n)
          | _ => none
        | _, _ => none
      | _, _ => none
    | .builtin .append => match c.args.toList, c.argTypes.toList with
      | [x, y], [t, u] => if t = u then (match P.underlying t, compOpd x, compOpd y with
        | some (.slice e), some x, some y => match szT P e, byT P e, zsT P e with
          | some s, some by_, some zs => if 0 < s ∧ zs.length = s then some (.append s by_ zs x y) else none
          | _, _, _ => none
        | _, _, _ => none) else none
      | _, _ => none
    | _ => none
  | _ => none

/-- Others. -/
def compOp2 (o : Oper) : Option SOp :=
  match o.op with
  | .call c => match c.callee, c.args.toList, c.argTypes.toList with
    | .builtin .min, [x, y], _ => (match compOpd x, compOpd y with
      | some a, some b => some (.minmax false a b)
      | _, _ => none)
    | .builtin .max, [x, y], _ => (match compOpd x, compOpd y with
      | some a, some b => some (.minmax true a b)
      | _, _ => none)
    | .builtin .copy, [x, y], [t, _] => (match P.underlying t, compOpd x, compOpd y with
      | some (.slice e), some a, some b => match szT P e with
        | some s => if 0 < s then some (.copy s a b) else none
        | none => none
      | _, _, _ => none)
    | .builtin .clear, [x], [t] => (match P.underlying t, compOpd x with
      | some (.slice e), some a => match szT P e, zsT P e with
        | some s, some zs => if 0 < s ∧ zs.length = s then some (.clear s zs a) else none
        | _, _ => none
      | _, _ => none)
    | _, _, _ => none
  | .index t x i => match P.underlying t, compOpd x, compOpd i with
    | some .string, some x, some i => some (.idxStr x i)
    | _, _, _ => none
  | _ => none
/-- What isn't known is bad: it comes to nothing. -/
def compOp (o : Oper) : Option SOp :=
  match compOp1 P o with
  | some s => some s
  | none => match compOp2 P o with
    | some s => some s
    | none => match o.op with
      | .defer _ => none
      | _ => some .bad

/-! ### Regions -/
def opdTmps : Opd → List Nat
  | .t n => [n]
  | .k _ => []
def optTmps : Option Opd → List Nat
  | some x => opdTmps x
  | none => []
def sopTmps : SOp → List Nat
  | .mv x | .box x | .load _ _ x | .un _ x | .conv _ x | .fieldA _ x | .field _ _ _ x | .extract x _ | .lenSl x | .lenMap x | .nilchk x => opdTmps x
  | .pick a b c | .mapset a b c => opdTmps a ++ opdTmps b ++ opdTmps c
  | .alloc _ | .mkmap | .lenArr _ | .bad => []
  | .minmax _ a b | .copy _ a b | .idxStr a b => opdTmps a ++ opdTmps b
  | .clear _ _ a => opdTmps a
  | .build _ l | .buildSl _ _ _ l => l.flatMap fun p => opdTmps p.2.2
  | .store _ a b | .bin _ _ _ a b | .mksl _ _ _ a b | .indexArr _ _ a b | .indexSl _ a b | .index _ _ _ a b | .append _ _ _ a b | .lookup _ _ a b => opdTmps a ++ opdTmps b
  | .mkfn _ a b => a.flatMap opdTmps ++ b.flatMap opdTmps
  | .slc _ x a b | .slcArr _ _ x a b => opdTmps x ++ optTmps a ++ optTmps b
  | .call f l => opdTmps f ++ l.flatMap opdTmps
/-- Kinds: what changes the state, what lays a block, what reads the state, what does none of these. -/
inductive Kd where
  | big | alloc | reads | pure
  deriving DecidableEq
def sopKd : SOp → Kd
  | .call .. | .store .. | .append .. | .mapset .. | .copy .. | .clear .. | .bad => .big
  | .alloc _ | .box _ | .buildSl .. | .mkmap | .mksl .. => .alloc
  | .load .. | .lookup .. | .lenMap _ | .slcArr .. => .reads
  | _ => .pure

def compGuard (ops : Array Oper) : Option (Nat × Bool) → Option (Option (Nat × Bool))
  | none => some none
  | some (j, b) => match (ops[j]?).bind (·.dst) with
    | some d => some (some (d, b))
    | none => none
def dstOk (N : Nat) : Option Nat → Bool
  | some d => decide (d < N)
  | none => true
/-- One operation, as a step. -/
def compStep (N : Nat) (ops : Array Oper) (o : Oper) : Option Step :=
  match compOp P o, compGuard ops o.guard with
  | some so, some g => if dstOk N o.dst = true then some { dst := o.dst, guard := g, op := so, re := [] } else none
  | _, _ => none
def compSteps (N : Nat) (ops : Array Oper) : List Oper → Option (List Step)
  | [] => some []
  | o :: r => match compStep P N ops o, compSteps N ops r with
    | some s, some l => some (s :: l)
    | _, _ => none

/-! ### A region that draws its order: the canonical order, what is looked at again, and what is checked -/
structure Itm where
  i : Nat
  s : Step
  ps : List Nat
def predsOf (o : Oper) : List Nat := (o.after.toList.filter (fun e => Region.binds .any e)).map (·.on)
def isBig (s : Step) : Bool := sopKd s.op = .big
def stepTmps (s : Step) : List Nat := (match s.guard with | some (g, _) => [g] | none => []) ++ sopTmps s.op
def mkItms : Nat → List Oper → List Step → List Itm
  | n, o :: r, s :: l => ⟨n, s, predsOf o⟩ :: mkItms (n + 1) r l
  | _, _, _ => []
def pickReady (done : List Nat) (big : Bool) : List Itm → Option (Itm × List Itm)
  | [] => none
  | x :: r => if isBig x.s == big && x.ps.all (done.contains ·) then some (x, r) else (pickReady done big r).map fun (y, l) => (y, x :: l)
def canonGo : Nat → List Nat → List Itm → List Itm
  | 0, _, _ => []
  | f + 1, done, rem => match pickReady done false rem with
    | some (x, r) => x :: canonGo f (x.i :: done) r
    | none => match pickReady done true rem with
      | some (x, r) => x :: canonGo f (x.i :: done) r
      | none => []
/-- What surely comes ahead, of each, by its index; later ones first. -/
abbrev Anc := List (Nat × List Nat)
def ancOf (a : Anc) (i : Nat) : List Nat := match a.find? (fun p => p.1 == i) with
  | some p => p.2
  | none => []
def ancGo : Anc → List Itm → Anc
  | acc, [] => acc
  | acc, x :: r => ancGo ((x.i, x.ps ++ x.ps.flatMap (ancOf acc)) :: acc) r
/-- The items in the order in which they are carried out, each big one with the reads ahead of it that it doesn't wait for. -/
def reOf (a : Anc) (ahead : List Itm) (b : Itm) : List (Nat × Option (Nat × Bool) × SOp) :=
  (ahead.filter fun x => decide (sopKd x.s.op = .reads) && !(ancOf a b.i).contains x.i).filterMap fun x => x.s.dst.map fun d => (d, x.s.guard, x.s.op)
def withRe (a : Anc) : List Itm → List Itm → List Itm
  | _, [] => []
  | ahead, x :: r => (if isBig x.s then { x with s := { x.s with re := reOf a ahead x } } else x) :: withRe a (ahead ++ [x]) r

def lastBig : List Itm → Option Nat → Option Nat
  | [], b => b
  | x :: r, b => lastBig r (if isBig x.s then some x.i else b)
/-- Checks, along the order; ahead: what is ahead of it, in order. -/
def drawChk (a : Anc) (all : List Itm) : List Itm → List Itm → Bool
  | _, [] => true
  | ahead, x :: r =>
    -- waits only for what is ahead
    x.ps.all (fun p => ahead.any fun y => y.i == p) &&
    -- it, and its place to write, are its own
    ahead.all (fun y => y.i != x.i && (match y.s.dst, x.s.dst with | some d, some e => d != e | _, _ => true)) &&
    -- what it reads is written ahead of it for sure, or behind it
    all.all (fun y => y.i == x.i || (match y.s.dst with | some d => !(stepTmps x.s).contains d || (ancOf a x.i).contains y.i || (ancOf a y.i).contains x.i | none => true)) &&
    -- the big ones stand in a row; others wait for the last big one ahead
    (match lastBig ahead none with | some b => (ancOf a x.i).contains b | none => true) &&
    -- reads have a place to write, which they don't read, and what they read is written ahead of them
    (decide (sopKd x.s.op ≠ .reads) || (x.s.dst.isSome && all.all (fun y => match y.s.dst with | some d => !(stepTmps x.s).contains d || (ancOf a x.i).contains y.i | none => true))) &&
    drawChk a all (ahead ++ [x]) r
def idxChk (n : Nat) (l : List Itm) : Bool := decide (l.length = n) && (List.range n).all fun i => l.any fun x => x.i == i
def drawItms (N : Nat) (ops : Array Oper) : Option (Anc × List Itm) :=
  match compSteps P N ops ops.toList with
  | some ss =>
    let l := canonGo ops.size [] (mkItms 0 ops.toList ss)
    let a := ancGo [] l
    if idxChk ops.size l && drawChk a l [] l then some (a, l) else none
  | none => none
def compReg (N : Nat) (ops : Array Oper) (draw : Bool) : Option (List Step) :=
  if draw then (drawItms P N ops).map fun (a, l) => (withRe a [] l).map (·.s)
  else compSteps P N ops ops.toList

def compCode (N : Nat) : Code → Option SC
  | .skip => some .skip
  | .region _ ops draw => match compReg P N ops draw with
    | some ss => some (.reg ss)
    | none => some .bad
  | .seq a b => match compCode N a, compCode N b with
    | some a, some b => some (.seq a b)
    | _, _ => none
  | .cond c a b => match compOpd c, compCode N a, compCode N b with
    | some c, some a, some b => some (.cond c a b)
    | _, _, _ => none
  | .block i b => (compCode N b).map (.block i)
  | .loop b => (compCode N b).map .loop
  | .rangeFunc f ps as body => match compOpd f, compCode N as, compCode N body with
    | some f, some as, some body => if ps.toList.all (fun p => decide (p < N)) then some (.rng f ps.toList as body) else none
    | _, _, _ => none
  | .exit i => some (.exit i)
  | .ret => some .ret
  | _ => some .bad
def compRV : ResultVar → Option RV
  | .tmp t => some (.tmp t)
  | .cell t ty => match agT P ty, szT P ty with
    | some ag, some n => if ag = true ∨ n = 1 then some (.cell t ag n) else none
    | _, _ => none
def compRVs : List ResultVar → Option (List RV)
  | [] => some []
  | r :: l => match compRV P r, compRVs l with
    | some a, some b => some (a :: b)
    | _, _ => none
/-- A function: its arguments are its parameters and what it has captured. -/
def compFun (f : Func) : Option SFun :=
  match f.body with
  | some c => match compCode P f.ntmps c, compRVs P f.results.toList with
    | some b, some rs => if f.params.size + f.nfree ≤ f.ntmps ∧ (f.name == "runtime.NumGoroutine") = false then some ⟨f.params.size + f.nfree, f.ntmps, rs, b⟩ else none
    | _, _ => none
  | none => none
end
end Go.Proofs.Ytojjhcgbbmknmaa.Sh

/- The relation between states, and what holds of it: laying a block, writing one, keeping what isn't the shadow's. -/
namespace Go.Proofs.Ytojjhcgbbmknmaa.Sh
set_option linter.unusedSimpArgs false
set_option linter.unusedVariables false
open Go Go.RowKit

section
variable (P : Program) (N0 : Nat)

/-- Temporaries. -/
def TR (w0 : World) (ρ : Rho) (t : Tr SV) (N : Nat) (a : Array Value) : Prop := a.size = N ∧ ∀ i, OK w0 ρ (getT t i) (a.getD i Go.undef)

def jumpOf : Jump → Code
  | .ret => .ret
  | .exit i => .exit i

def EntR (w0 : World) (ρ : Rho) : List (SV × SV) → List MapEntry → Prop
  | [], es => es = []
  | (k, v) :: r, es => ∃ e l, es = e :: l ∧ OK w0 ρ k e.key ∧ OK w0 ρ v e.val ∧ EntR w0 ρ r l

def ObR (w0 : World) (ρ : Rho) (p : Pl) (w : World) : Option Ob → Prop
  | some (.cells cs) => ∃ (a : Array Value) (e : TypeId), w.heap[p.blk]? = some (.cells a e (0, 0)) ∧ a.size = p.size ∧ p.base + cs.length ≤ p.size ∧
      OKs w0 ρ cs ((a.toList.drop p.base).take cs.length) ∧ allOne cs
  | some (.map es) => ∃ a clock, w.heap[p.blk]? = some (.map a clock) ∧ EntR w0 ρ es a.toList
  | some (.loop t ps as body st pend) => ∃ r : Loop, w.heap[p.blk]? = some (.loop r) ∧ r.state = st ∧ r.pending = pend.map jumpOf ∧ r.params = ps.toArray ∧
      (∃ N, TR w0 ρ t N r.tmps ∧ compCode P N r.assign = some as ∧ compCode P N r.body = some body ∧ ∀ p ∈ ps, p < N)
  | some .dead | none => True

structure SR (w0 : World) (ρ : Rho) (σ : St) (w : World) : Prop where
  below : Below w0.heap.size w0 w
  dom : ∀ i p, ρ i = some p → i < σ.next ∧ w0.heap.size ≤ p.blk ∧ p.blk < w.heap.size
  inj : ∀ i j p q, ρ i = some p → ρ j = some q → p.blk = q.blk → i ≠ j → σ.get i = some .dead ∨ σ.get j = some .dead
  obs : ∀ i p, ρ i = some p → ObR P w0 ρ p w (σ.get i)
  fresh : ∀ i, σ.next ≤ i → σ.get i = none
  hold : ∀ a v, ρ.fz a v → w.cell? a = some v ∧ ∀ i p, ρ i = some p → p.blk ≠ a.block

/-- From one state to the next. -/
structure Step1 (w0 : World) (ρ : Rho) (σ : St) (w : World) (ρ' : Rho) (σ' : St) (w' : World) : Prop where
  sr : SR P w0 ρ' σ' w'
  ext : Ext ρ ρ'
  nxt : σ.next ≤ σ'.next
  size : w.heap.size ≤ w'.heap.size
  newid : ∀ i p, ρ' i = some p → ρ i = some p ∨ σ.next ≤ i
  newblk : ∀ i p, ρ' i = some p → ρ i = none → w.heap.size ≤ p.blk ∨ ∃ j q, ρ j = some q ∧ q.blk = p.blk
  frame : ∀ b, b < w.heap.size → (∀ i p, ρ i = some p → p.blk ≠ b) → w'.heap[b]? = w.heap[b]?
  keep : ∀ i, i < σ.next → ρ i = none → σ'.get i = σ.get i
  loops : ∀ (b : Nat) (r : Loop), w.heap[b]? = some (Obj.loop r) → ∃ r' : Loop, w'.heap[b]? = some (Obj.loop r')
  newfz : ∀ a v, ρ'.fz a v → ρ.fz a v ∨ w.heap.size ≤ a.block

theorem cell?_block {w w' : World} {a : Addr} (h : w'.heap[a.block]? = w.heap[a.block]?) : w'.cell? a = w.cell? a := by
  unfold World.cell?; rw [h]
theorem cell?_lt {w : World} {a : Addr} {u : Value} (h : w.cell? a = some u) : a.block < w.heap.size := by
  unfold World.cell? at h
  split at h
  · rename_i e
    exact (Array.getElem?_eq_some_iff.1 e).1
  · cases h

variable {P} {w0 : World} {ρ ρ' ρ'' : Rho} {σ σ' σ'' : St} {w w' w'' : World}
theorem Step1.refl (h : SR P w0 ρ σ w) : Step1 P w0 ρ σ w ρ σ w :=
  ⟨h, Ext.refl _, Nat.le_refl _, Nat.le_refl _, fun _ _ h => .inl h, fun _ _ h k => (by rw [h] at k; cases k), fun _ _ _ => rfl, fun _ _ _ => rfl, fun _ r h => ⟨r, h⟩, fun _ _ h => .inl h⟩
theorem Step1.trans (h : Step1 P w0 ρ σ w ρ' σ' w') (k : Step1 P w0 ρ' σ' w' ρ'' σ'' w'') : Step1 P w0 ρ σ w ρ'' σ'' w'' where
  sr := k.sr
  ext := h.ext.trans k.ext
  nxt := Nat.le_trans h.nxt k.nxt
  size := Nat.le_trans h.size k.size
  newid := fun i p e => by
    rcases k.newid i p e with e' | e'
    · exact h.newid i p e'
    · exact .inr (Nat.le_trans h.nxt e')
  newblk := fun i p e hn => by
    by_cases hi : ρ' i = none
    · rcases k.newblk i p e hi with h1 | ⟨j, q, h1, h2⟩
      · exact .inl (Nat.le_trans h.size h1)
      · by_cases hj : ρ j = none
        · rcases h.newblk j q h1 hj with h3 | ⟨l, r, h3, h4⟩
          · exact .inl (h2 ▸ h3)
          · exact .inr ⟨l, r, h3, h4.trans h2⟩
        · obtain ⟨q', hq'⟩ := Option.ne_none_iff_exists'.1 hj
          have := h.ext _ _ hq'
          rw [h1] at this; cases this
          exact .inr ⟨j, q, hq', h2⟩
    · obtain ⟨q', hq'⟩ := Option.ne_none_iff_exists'.1 hi
      have := k.ext _ _ hq'
      rw [e] at this; cases this
      exact h.newblk i p hq' hn
  frame := fun b hb hn => by
    rw [k.frame b (Nat.lt_of_lt_of_le hb h.size) (fun i p e hp => ?_), h.frame b hb hn]
    by_cases hi : ρ i = none
    · rcases h.newblk i p e hi with h1 | ⟨j, q, h1, h2⟩
      · omega
      · exact hn j q h1 (h2.trans hp)
    · obtain ⟨q', hq'⟩ := Option.ne_none_iff_exists'.1 hi
      have := h.ext _ _ hq'
      rw [e] at this; cases this
      exact hn i p hq' hp
  keep := fun i hi hn => by
    rw [k.keep i (Nat.lt_of_lt_of_le hi h.nxt) ?_, h.keep i hi hn]
    cases e : ρ' i with
    | none => rfl
    | some p =>
      rcases h.newid i p e with h1 | h1
      · rw [hn] at h1; cases h1
      · omega
  loops := fun b r h1 => by
    obtain ⟨r', h2⟩ := h.loops b r h1
    exact k.loops b r' h2
  newfz := fun a v e => by
    rcases k.newfz a v e with h1 | h1
    · exact h.newfz a v h1
    · exact .inr (Nat.le_trans h.size h1)

/-- What stays lies there. -/
theorem SR.lies (h : SR P w0 ρ σ w) {a : Addr} {v : Value} (k : w0.cell? a = some v ∨ ρ.fz a v) : w.cell? a = some v := by
  rcases k with k | k
  · exact (h.below.cell (p := a) (cell?_lt k)).trans k
  · exact (h.hold a v k).1

theorem EntR.mono (h : Ext ρ ρ') : ∀ {es : List (SV × SV)} {l : List MapEntry}, EntR w0 ρ es l → EntR w0 ρ' es l
  | [], _, k => k
  | (a, b) :: r, _, k => by
    obtain ⟨e, l, rfl, k1, k2, k3⟩ := k
    exact ⟨e, l, rfl, k1.mono h, k2.mono h, EntR.mono h k3⟩
theorem TR.mono (h : Ext ρ ρ') {t : Tr SV} {N : Nat} {a : Array Value} (k : TR w0 ρ t N a) : TR w0 ρ' t N a := ⟨k.1, fun i => (k.2 i).mono h⟩

theorem ObR.mono (h : Ext ρ ρ') {p : Pl} {o : Option Ob} (k : ObR P w0 ρ p w o) : ObR P w0 ρ' p w o := by
  cases o with
  | none => trivial
  | some o =>
    cases o with
    | cells cs => obtain ⟨a, e, h1, h2, h3, h4, h5⟩ := k; exact ⟨a, e, h1, h2, h3, h4.mono h, h5⟩
    | map es => obtain ⟨a, c, h1, h2⟩ := k; exact ⟨a, c, h1, h2.mono h⟩
    | loop t ps as body st pend => obtain ⟨r, h1, h2, h3, h4, N, h5, h6⟩ := k; exact ⟨r, h1, h2, h3, h4, N, h5.mono h, h6⟩
    | dead => trivial
/-- What is said of a block hangs on the block (and that no block goes). -/
theorem ObR.world {p : Pl} {o : Option Ob} (k : ObR P w0 ρ p w o) (hb : w'.heap[p.blk]? = w.heap[p.blk]?) (hs : w.heap.size ≤ w'.heap.size) : ObR P w0 ρ p w' o := by
  cases o with
  | none => trivial
  | some o =>
    cases o with
    | cells cs => obtain ⟨a, e, h1, h2⟩ := k; exact ⟨a, e, hb.trans h1, h2⟩
    | map es => obtain ⟨a, c, h1, h2⟩ := k; exact ⟨a, c, hb.trans h1, h2⟩
    | loop t ps as body st pend => obtain ⟨r, h1, h2⟩ := k; exact ⟨r, hb.trans h1, h2⟩
    | dead => trivial

theorem St.get_push (σ : St) (o : Ob) (i : Nat) : (σ.push o).get i = if i = σ.next then some o else σ.get i := Tr.get_set _ _ _ _
theorem St.get_set (σ : St) (j : Nat) (o : Ob) (i : Nat) : (σ.set j o).get i = if i = j then some o else σ.get i := Tr.get_set _ _ _ _
@[simp] theorem St.next_set (σ : St) (j : Nat) (o : Ob) : (σ.set j o).next = σ.next := rfl
@[simp] theorem St.next_push (σ : St) (o : Ob) : (σ.push o).next = σ.next + 1 := rfl

def Rho.put (ρ : Rho) (i : Nat) (p : Pl) : Rho := ⟨fun j => if j = i then some p else ρ j, ρ.fz⟩
theorem Rho.put_self (ρ : Rho) (i : Nat) (p : Pl) : ρ.put i p i = some p := by simp [Rho.put]
theorem Ext.put {i : Nat} {p : Pl} (h : ρ i = none) : Ext ρ (ρ.put i p) := ⟨fun j q e => by
  simp only [Rho.put]
  split
  · rename_i hj; subst hj; rw [h] at e; cases e
  · exact e, fun _ _ h => h⟩

/-- A draw changes nothing. -/
theorem SR.drew (h : SR P w0 ρ σ w) : SR P w0 ρ σ w.drew := ⟨h.below.drew, h.dom, h.inj, fun i p e => (h.obs i p e).world rfl (Nat.le_refl _), h.fresh, h.hold⟩
theorem Step1.drew (h : SR P w0 ρ σ w) : Step1 P w0 ρ σ w ρ σ w.drew :=
  ⟨h.drew, Ext.refl _, Nat.le_refl _, Nat.le_refl _, fun _ _ h => .inl h, fun _ _ h k => (by rw [h] at k; cases k), fun _ _ _ => rfl, fun _ _ _ => rfl, fun _ r h => ⟨r, h⟩, fun _ _ h => .inl h⟩

/-- The shadow lays a block; the machine hasn't yet. -/
theorem Step1.push {ρa : Rho} {σa : St} {wa : World} (h : Step1 P w0 ρa σa wa ρ σ w) (ob : Ob) : Step1 P w0 ρa σa wa ρ (σ.push ob) w where
  sr := by
    have k := h.sr
    refine ⟨k.below, fun i p e => ?_, fun i j p q ei ej hpq hij => ?_, fun i p e => ?_, fun i hi => ?_, k.hold⟩
    · have := k.dom i p e
      exact ⟨by simp; omega, this.2⟩
    · have h1 := k.dom i p ei
      have h2 := k.dom j q ej
      rw [St.get_push, St.get_push, if_neg (by omega), if_neg (by omega)]
      exact k.inj i j p q ei ej hpq hij
    · have h1 := k.dom i p e
      rw [St.get_push, if_neg (by omega)]
      exact k.obs i p e
    · simp at hi
      rw [St.get_push, if_neg (by omega)]
      exact k.fresh i (by omega)
  ext := h.ext
  nxt := Nat.le_trans h.nxt (by simp)
  size := h.size
  newid := h.newid
  newblk := h.newblk
  frame := h.frame
  keep := fun i hi hn => by
    have := h.nxt
    rw [St.get_push, if_neg (by omega)]
    exact h.keep i hi hn
  loops := h.loops
  newfz := h.newfz

/-- A block that the shadow has laid is laid in the machine as well: its number was kept for it. -/
theorem Step1.lay {ρa : Rho} {σa : St} {wa : World} (h : Step1 P w0 ρa σa wa ρ σ w) {id : Nat} {o : Obj} {n : Nat} (ha : σa.next ≤ id) (hid : id < σ.next) (hn : ρ id = none)
    (hob : ObR P w0 (ρ.put id ⟨w.heap.size, 0, n⟩) ⟨w.heap.size, 0, n⟩ (w.alloc o) (σ.get id)) : Step1 P w0 ρa σa wa (ρ.put id ⟨w.heap.size, 0, n⟩) σ (w.alloc o) := by
  have hext : Ext ρ (ρ.put id ⟨w.heap.size, 0, n⟩) := Ext.put hn
  have hsz : (w.alloc o).heap.size = w.heap.size + 1 := by show (w.heap.push o).size = _; simp
  have k := h.sr
  have hs := h.size
  refine ⟨⟨k.below.alloc k.below.size _, fun i p e => ?_, fun i j p q ei ej hpq hij => ?_, fun i p e => ?_, k.fresh, fun a v e => ?_⟩, h.ext.trans hext, h.nxt, by rw [hsz]; omega,
    fun i p e => ?_, fun i p e hi => ?_, fun b hb hf => ?_, h.keep, fun b r h1 => by
      obtain ⟨r', h2⟩ := h.loops b r h1
      exact ⟨r', (Below.heap_alloc _ _ _ (Array.getElem?_eq_some_iff.1 h2).1).trans h2⟩, h.newfz⟩
  · simp only [Rho.put] at e
    split at e
    · rename_i hi; subst hi; cases e
      exact ⟨hid, k.below.size, by rw [hsz]; simp⟩
    · have := k.dom i p e
      exact ⟨this.1, this.2.1, by rw [hsz]; omega⟩
  · simp only [Rho.put] at ei ej
    split at ei
    · split at ej
      · rename_i h1 h2; exact absurd (h1.trans h2.symm) hij
      · cases ei
        have := k.dom j q ej
        simp at hpq; omega
    · split at ej
      · cases ej
        have := k.dom i p ei
        simp at hpq; omega
      · exact k.inj i j p q ei ej hpq hij
  · simp only [Rho.put] at e
    split at e
    · rename_i hi; subst hi; cases e; exact hob
    · have hd := k.dom i p e
      exact ((k.obs i p e).mono hext).world (Below.heap_alloc _ _ _ hd.2.2) (by rw [hsz]; omega)
  · obtain ⟨h1, h2⟩ := k.hold a v e
    have hlt := cell?_lt h1
    refine ⟨(cell?_block (Below.heap_alloc _ _ _ hlt)).trans h1, fun i p ei => ?_⟩
    simp only [Rho.put] at ei
    split at ei
    · cases ei; simp; omega
    · exact h2 i p ei
  · simp only [Rho.put] at e
    split at e
    · rename_i hi; subst hi; exact .inr ha
    · exact h.newid i p e
  · simp only [Rho.put] at e
    split at e
    · cases e; left; exact hs
    · exact h.newblk i p e hi
  · rw [Below.heap_alloc _ _ _ (by omega)]
    exact h.frame b hb hf

/-- Both at once. -/
theorem Step1.new (h : SR P w0 ρ σ w) (ob : Ob) {o : Obj} {n : Nat}
    (hob : ObR P w0 (ρ.put σ.next ⟨w.heap.size, 0, n⟩) ⟨w.heap.size, 0, n⟩ (w.alloc o) (some ob)) : Step1 P w0 ρ σ w (ρ.put σ.next ⟨w.heap.size, 0, n⟩) (σ.push ob) (w.alloc o) := by
  refine Step1.lay ((Step1.refl h).push ob) (Nat.le_refl _) (by simp) ?_ ?_
  · cases e : ρ σ.next with
    | none => rfl
    | some p => have := h.dom _ _ e; omega
  · rw [St.get_push, if_pos rfl]; exact hob

/-- A block of the shadow is written. -/
theorem SR.write (h : SR P w0 ρ σ w) {id : Nat} {p : Pl} {ob : Ob} {o : Obj} (hp : ρ id = some p) (hlive : σ.get id ≠ some .dead) (hw : w'.heap.size = w.heap.size) (hb : w'.heap[p.blk]? = some o)
    (ho : ∀ k, k ≠ p.blk → w'.heap[k]? = w.heap[k]?) (hos : w'.os = w.os) (hta : w'.tape = w.tape) (hou : w'.output = w.output)
    (hob : ObR P w0 ρ p w' (some ob)) (hlo : ∀ r : Loop, w.heap[p.blk]? = some (Obj.loop r) → ∃ r' : Loop, o = Obj.loop r') : Step1 P w0 ρ σ w ρ (σ.set id ob) w' where
  sr := by
    have hd := h.dom id p hp
    refine ⟨⟨hos.trans h.below.os, hta.trans h.below.tape, hou.trans h.below.output, by rw [hw]; exact h.below.size, fun k hk => (ho k (by omega)).trans (h.below.block k hk)⟩, fun i q e => ?_, fun i j q r ei ej hqr hij => ?_, fun i q e => ?_, fun i hi => ?_, fun a v e => ?_⟩
    · have := h.dom i q e
      exact ⟨this.1, this.2.1, by omega⟩
    · rw [St.get_set, St.get_set]
      by_cases h1 : i = id
      · subst h1
        rw [hp] at ei; cases ei
        rw [if_neg (show ¬ j = i from fun e => hij e.symm)]
        rcases h.inj i j p r hp ej hqr hij with h2 | h2
        · exact absurd h2 hlive
        · exact .inr h2
      · rw [if_neg h1]
        by_cases h2 : j = id
        · subst h2
          rw [hp] at ej; cases ej
          rcases h.inj i j q p ei hp hqr hij with h3 | h3
          · exact .inl h3
          · exact absurd h3 hlive
        · rw [if_neg h2]; exact h.inj i j q r ei ej hqr hij
    · rw [St.get_set]
      by_cases h1 : i = id
      · subst h1
        rw [hp] at e; cases e
        rw [if_pos rfl]; exact hob
      · rw [if_neg h1]
        by_cases h2 : q.blk = p.blk
        · rcases h.inj i id q p e hp h2 h1 with h3 | h3
          · rw [h3]; trivial
          · exact absurd h3 hlive
        · exact (h.obs i q e).world (ho _ h2) (by omega)
    · simp at hi
      rw [St.get_set, if_neg (by omega)]; exact h.fresh i hi
    · obtain ⟨h1, h2⟩ := h.hold a v e
      exact ⟨(cell?_block (ho _ (fun e' => h2 id p hp e'.symm))).trans h1, h2⟩
  ext := Ext.refl _
  nxt := by simp
  size := by omega
  newid := fun _ _ h => .inl h
  newblk := fun _ _ h k => by rw [h] at k; cases k
  frame := fun b hb hf => ho b (fun e => hf id p hp e.symm)
  keep := fun i hi hn => by
    rw [St.get_set, if_neg (fun e => by subst e; rw [hp] at hn; cases hn)]
  loops := fun b r h1 => by
    by_cases hbp : b = p.blk
    · subst hbp
      obtain ⟨r', rfl⟩ := hlo r h1
      exact ⟨r', hb⟩
    · exact ⟨r, (ho b hbp).trans h1⟩
  newfz := fun _ _ h => .inl h

/-- A block of the machine that is none of the shadow's turns. -/
theorem Step1.other (h : SR P w0 ρ σ w) {b : Nat} {o : Obj} (hb : b < w.heap.size) (h0 : w0.heap.size ≤ b) (hn : ∀ i p, ρ i = some p → p.blk ≠ b) (hz : ∀ a v, w.cell? a = some v → a.block ≠ b) : SR P w0 ρ σ (w.putObj b o) where
  below := ⟨h.below.os, h.below.tape, h.below.output, by simpa using h.below.size, fun k hk => (World.putObj_heap_other (by omega)).trans (h.below.block k hk)⟩
  dom := fun i p e => by have := h.dom i p e; exact ⟨this.1, this.2.1, by simpa using this.2.2⟩
  inj := h.inj
  obs := fun i p e => (h.obs i p e).world (World.putObj_heap_other (hn i p e)) (by simp)
  fresh := h.fresh
  hold := fun a v e => by
    obtain ⟨h1, h2⟩ := h.hold a v e
    exact ⟨(cell?_block (World.putObj_heap_other (hz a v h1))).trans h1, h2⟩
end
end Go.Proofs.Ytojjhcgbbmknmaa.Sh
