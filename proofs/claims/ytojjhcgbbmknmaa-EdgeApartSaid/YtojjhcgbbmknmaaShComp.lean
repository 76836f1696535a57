/- From the model's code to the shadow's. -/
import Derived.OrdersIn
import Derived.Test.YtojjhcgbbmknmaaShCore
namespace Go.Proofs.Ytojjhcgbbmknmaa.Sh
set_option linter.unusedSimpArgs false
set_option linter.unusedVariables false
open Go

def scOf : Value → Option Sc
  | .int k n => some (.int k n)
  | .bool b => some (.bool b)
  | .string s => some (.str s)
  | .slice none 0 0 => some .nilsl
  | .pointer none => some .nilptr
  | .map none => some .nilmap
  | .nilFunc => some .nilfn
  | .nilIface => some .nilif
  | _ => none
def scsOf : List Value → Option (List SV)
  | [] => some []
  | v :: r => match scOf v, scsOf r with
    | some s, some l => some (.sc s :: l)
    | _, _ => none

def compOpd : Operand → Option Opd
  | .tmp t => some (.t t)
  | .const v => (scOf v).map fun s => .k (.sc s)
  | .func f => some (.k (.fn f [] []))
  | .global _ => none
def compOpds : List Operand → Option (List Opd)
  | [] => some []
  | x :: r => match compOpd x, compOpds r with
    | some a, some l => some (a :: l)
    | _, _ => none

section
variable (P : Program)
def szT (t : TypeId) : Option Nat := (P.info? t).map (·.size)
def byT (t : TypeId) : Option Nat := (P.info? t).map (·.bytes)
def zsT (t : TypeId) : Option (List SV) := ((P.info? t).bind (·.zero)).bind fun v => scsOf v.cells.toList
def zagT (t : TypeId) : Option Bool := ((P.info? t).bind (·.zero)).map fun | .agg _ => true | _ => false
def agT (t : TypeId) : Option Bool := (P.underlying t).map fun | .struct _ | .array _ _ => true | _ => false

def compParts (place : Nat → Option (Nat × Nat)) : List (Nat × Operand) → Option (List (Nat × Nat × Opd))
  | [] => some []
  | (i, x) :: r => match place i, compOpd x, compParts place r with
    | some (o, n), some a, some l => some ((o, n, a) :: l)
    | _, _, _ => none

/-- A type whose values are the same just if their cells are: bools (q = 1), whole numbers (2), texts (3), in a row. -/
def eqT (q : Nat) : Nat → TypeId → Bool
  | 0, _ => false
  | d + 1, t =>
    match P.underlying t with
    | some (.bool) => szT P t == some 1 && q == 1
    | some (.int _) => szT P t == some 1 && q == 2
    | some (.string) => szT P t == some 1 && q == 3
    | some (.struct fs) => !P.stoodInHeld t && fs.all (fun f => f.name != "_" && eqT q d f.type) && (fs.toList.foldl (fun (o : Option Nat) f => match o with
        | some o => if o = f.offset then (szT P f.type).map (o + ·) else none
        | none => none) (some 0)) == szT P t
    | some (.array n e) => eqT q d e && (match szT P e, szT P t with | some s, some u => u == n * s && Nat.ble 1 s | _, _ => false)
    | _ => false
def eqTag (t : TypeId) : Nat :=
  if P.eqGuardType P.depth t = false ∧ (szT P t).isSome = true then (if eqT P 1 20 t = true then 5 else if eqT P 2 20 t = true then 6 else if eqT P 3 20 t = true then 7 else 0) else 0

def optOpd : Option Operand → Option (Option Opd)
  | none => some none
  | some x => (compOpd x).map some

def compOp1 (o : Oper) : Option SOp :=
  match o.op with
  | .move x | .assign x => (compOpd x).map .mv
  | .pick c a b => match compOpd c, compOpd a, compOpd b with
    | some c, some a, some b => some (.pick c a b)
    | _, _, _ => none
  | .alloc e => (zsT P e).map .alloc
  | .box _ x => (compOpd x).map .box
  | .build t parts => match zsT P t, P.underlying t with
    | some zs, some (.struct fs) => match fs.toList.mapM (fun f => (P.info? f.type).map fun i => (f.offset, i.size)) with
      | some places => (compParts (fun i => places.toArray[i]?) parts.toList).map fun l => .build zs l
      | none => none
    | some zs, some (.array _ e) => match szT P e with
      | some s => (compParts (fun i => some (i * s, s)) parts.toList).map fun l => .build zs l
      | none => none
    | _, _ => none
  | .buildSlice t len parts => match P.underlying t with
    | some (.slice e) => match szT P e, zsT P e with
      | some s, some zs => if 0 < s ∧ zs.length = s ∧ len * s ≤ 2 ^ 24 then
          (compParts (fun i => some (i * s, s)) parts.toList).map fun l => .buildSl s (List.replicate len zs).flatten len l else none
      | _, _ => none
    | _ => none
  | .load t a => match agT P t, szT P t, compOpd a with
    | some ag, some n, some a => if ag = true ∨ n = 1 then some (.load ag n a) else none
    | _, _, _ => none
  | .store t a x => match szT P t, compOpd a, compOpd x with
    | some n, some a, some x => some (.store n a x)
    | _, _, _ => none
  | .nilCheck x => (compOpd x).map .nilchk
  | .binOp op t x y _ => match compOpd x, compOpd y with
    | some a, some b => some (.bin (match P.underlying t with
        | some (.bool) => 1
        | some (.slice _) => 3
        | some (.struct _) | some (.array _ _) => eqTag P t
        | _ => 0) ((szT P t).getD 0) op a b)
    | _, _ => none
  | .unOp op _ x => (compOpd x).map fun a => .un op a
  | .convert src dst x => match P.underlying src, P.underlying dst, compOpd x with
    | some (.int _), some (.int k), some a => some (.conv k a)
    | _, _, _ => none
  | .makeFunc (.func f) first cap => match compOpds first.toList, compOpds cap.toList with
    | some a, some b => some (.mkfn f a b)
    | _, _ => none
  | .makeMap _ none => some .mkmap
  | .makeSlice t l c => match P.underlying t with
    | some (.slice e) => match szT P e, byT P e, zsT P e, compOpd l, compOpd c with
      | some s, some by_, some zs, some l, some c => if 0 < s ∧ zs.length = s then some (.mksl s by_ zs l c) else none
      | _, _, _, _, _ => none
    | _ => none
  | .slice t x lo hi none => match P.underlying t, compOpd x, optOpd lo, optOpd hi with
    | some (.slice e), some x, some lo, some hi => match szT P e with
      | some s => if 0 < s then some (.slc s x lo hi) else none
      | none => none
    | some (.array n e), some x, some lo, some hi => match szT P e with
      | some s => if 0 < s then some (.slcArr n s x lo hi) else none
      | none => none
    | _, _, _, _ => none
  | .fieldAddr t x i => match P.underlying t, compOpd x with
    | some (.struct fs), some x => match fs[i]? with
      | some f => match szT P f.type with
        | some n => if 0 < n then some (.fieldA f.offset x) else none
        | none => none
      | none => none
    | _, _ => none
  | .field t x i => match P.underlying t, compOpd x with
    | some (.struct fs), some x => match fs[i]? with
      | some f => match szT P f.type, agT P f.type with
        | some n, some ag => if ag = true ∨ n = 1 then some (.field ag f.offset n x) else none
        | _, _ => none
      | none => none
    | _, _ => none
  | .indexAddr t x i => match P.underlying t, compOpd x, compOpd i with
    | some (.array n e), some x, some i => (szT P e).map fun s => .indexArr n s x i
    | some (.slice e), some x, some i => (szT P e).map fun s => .indexSl s x i
    | _, _, _ => none
  | .index t x i => match P.underlying t, compOpd x, compOpd i with
    | some (.array n e), some x, some i => match szT P e, agT P e with
      | some s, some ag => if ag = true ∨ s = 1 then some (.index n s ag x i) else none
      | _, _ => none
    | _, _, _ => none
  | .extract x i => (compOpd x).map fun a => .extract a i
  | .lookup t m k ok => match P.underlying t, compOpd m, compOpd k with
    | some (.map kt e), some m, some k => match P.underlying kt, zsT P e, agT P e with
      | some (.int _), some zs, some ag => if zagT P e = some ag then (unflat ag zs).map fun z => .lookup z ok m k else none
      | _, _, _ => none
    | _, _, _ => none
  | .mapUpdate t m k v | .insert t m k v => match P.underlying t, compOpd m, compOpd k, compOpd v with
    | some (.map kt _), some m, some k, some v => match P.underlying kt with
      | some (.int _) => some (.mapset m k v)
      | _ => none
    | _, _, _, _ => none
  | .call c => match c.callee with
    | .value f => match compOpd f, compOpds c.args.toList with
      | some f, some l => some (.call f l)
      | _, _ => none
    | .builtin .len => match c.args.toList, c.argTypes.toList with
      | [x], [t] => match P.underlying t, compOpd x with
        | some (.slice _), some x => some (.lenSl x)
        | some (.array n _), some _ => some (.lenArr n)
        | some (.map _ _), some x => some (.lenMap x)
        | some (.pointer u), some _ => match P.underlying u with
          | some (.array n _) => some (.lenArr n)
          | _ => none
        | _, _ => none
      | _, _ => none
    | .builtin .append => match c.args.toList, c.argTypes.toList with
      | [x, y], [t, u] => if t = u then (match P.underlying t, compOpd x, compOpd y with
        | some (.slice e), some x, some y => match szT P e, byT P e, zsT P e with
          | some s, some by_, some zs => if 0 < s ∧ zs.length = s then some (.append s by_ zs x y) else none
          | _, _, _ => none
        | _, _, _ => none) else none
      | _, _ => none
    | _ => none
  | _ => none

/-- Others. -/
def compOp2 (o : Oper) : Option SOp :=
  match o.op with
  | .call c => match c.callee, c.args.toList, c.argTypes.toList with
    | .builtin .min, [x, y], _ => (match compOpd x, compOpd y with
      | some a, some b => some (.minmax false a b)
      | _, _ => none)
    | .builtin .max, [x, y], _ => (match compOpd x, compOpd y with
      | some a, some b => some (.minmax true a b)
      | _, _ => none)
    | .builtin .copy, [x, y], [t, _] => (match P.underlying t, compOpd x, compOpd y with
      | some (.slice e), some a, some b => match szT P e with
        | some s => if 0 < s then some (.copy s a b) else none
        | none => none
      | _, _, _ => none)
    | .builtin .clear, [x], [t] => (match P.underlying t, compOpd x with
      | some (.slice e), some a => match szT P e, zsT P e with
        | some s, some zs => if 0 < s ∧ zs.length = s then some (.clear s zs a) else none
        | _, _ => none
      | _, _ => none)
    | _, _, _ => none
  | .index t x i => match P.underlying t, compOpd x, compOpd i with
    | some .string, some x, some i => some (.idxStr x i)
    | _, _, _ => none
  | _ => none
/-- What isn't known is bad: it comes to nothing. -/
def compOp (o : Oper) : Option SOp :=
  match compOp1 P o with
  | some s => some s
  | none => match compOp2 P o with
    | some s => some s
    | none => match o.op with
      | .defer _ => none
      | _ => some .bad

/-! ### Regions -/
def opdTmps : Opd → List Nat
  | .t n => [n]
  | .k _ => []
def optTmps : Option Opd → List Nat
  | some x => opdTmps x
  | none => []
def sopTmps : SOp → List Nat
  | .mv x | .box x | .load _ _ x | .un _ x | .conv _ x | .fieldA _ x | .field _ _ _ x | .extract x _ | .lenSl x | .lenMap x | .nilchk x => opdTmps x
  | .pick a b c | .mapset a b c => opdTmps a ++ opdTmps b ++ opdTmps c
  | .alloc _ | .mkmap | .lenArr _ | .bad => []
  | .minmax _ a b | .copy _ a b | .idxStr a b => opdTmps a ++ opdTmps b
  | .clear _ _ a => opdTmps a
  | .build _ l | .buildSl _ _ _ l => l.flatMap fun p => opdTmps p.2.2
  | .store _ a b | .bin _ _ _ a b | .mksl _ _ _ a b | .indexArr _ _ a b | .indexSl _ a b | .index _ _ _ a b | .append _ _ _ a b | .lookup _ _ a b => opdTmps a ++ opdTmps b
  | .mkfn _ a b => a.flatMap opdTmps ++ b.flatMap opdTmps
  | .slc _ x a b | .slcArr _ _ x a b => opdTmps x ++ optTmps a ++ optTmps b
  | .call f l => opdTmps f ++ l.flatMap opdTmps
/-- Kinds: what changes the state, what lays a block, what reads the state, what does none of these. -/
inductive Kd where
  | big | alloc | reads | pure
  deriving DecidableEq
def sopKd : SOp → Kd
  | .call .. | .store .. | .append .. | .mapset .. | .copy .. | .clear .. | .bad => .big
  | .alloc _ | .box _ | .buildSl .. | .mkmap | .mksl .. => .alloc
  | .load .. | .lookup .. | .lenMap _ | .slcArr .. => .reads
  | _ => .pure

def compGuard (ops : Array Oper) : Option (Nat × Bool) → Option (Option (Nat × Bool))
  | none => some none
  | some (j, b) => match (ops[j]?).bind (·.dst) with
    | some d => some (some (d, b))
    | none => none
def dstOk (N : Nat) : Option Nat → Bool
  | some d => decide (d < N)
  | none => true
/-- One operation, as a step. -/
def compStep (N : Nat) (ops : Array Oper) (o : Oper) : Option Step :=
  match compOp P o, compGuard ops o.guard with
  | some so, some g => if dstOk N o.dst = true then some { dst := o.dst, guard := g, op := so, re := [] } else none
  | _, _ => none
def compSteps (N : Nat) (ops : Array Oper) : List Oper → Option (List Step)
  | [] => some []
  | o :: r => match compStep P N ops o, compSteps N ops r with
    | some s, some l => some (s :: l)
    | _, _ => none

/-! ### A region that draws its order: the canonical order, what is looked at again, and what is checked -/
structure Itm where
  i : Nat
  s : Step
  ps : List Nat
def predsOf (o : Oper) : List Nat := (o.after.toList.filter (fun e => Region.binds .any e)).map (·.on)
def isBig (s : Step) : Bool := sopKd s.op = .big
def stepTmps (s : Step) : List Nat := (match s.guard with | some (g, _) => [g] | none => []) ++ sopTmps s.op
def mkItms : Nat → List Oper → List Step → List Itm
  | n, o :: r, s :: l => ⟨n, s, predsOf o⟩ :: mkItms (n + 1) r l
  | _, _, _ => []
def pickReady (done : List Nat) (big : Bool) : List Itm → Option (Itm × List Itm)
  | [] => none
  | x :: r => if isBig x.s == big && x.ps.all (done.contains ·) then some (x, r) else (pickReady done big r).map fun (y, l) => (y, x :: l)
def canonGo : Nat → List Nat → List Itm → List Itm
  | 0, _, _ => []
  | f + 1, done, rem => match pickReady done false rem with
    | some (x, r) => x :: canonGo f (x.i :: done) r
    | none => match pickReady done true rem with
      | some (x, r) => x :: canonGo f (x.i :: done) r
      | none => []
/-- What surely comes ahead, of each, by its index; later ones first. -/
abbrev Anc := List (Nat × List Nat)
def ancOf (a : Anc) (i : Nat) : List Nat := match a.find? (fun p => p.1 == i) with
  | some p => p.2
  | none => []
def ancGo : Anc → List Itm → Anc
  | acc, [] => acc
  | acc, x :: r => ancGo ((x.i, x.ps ++ x.ps.flatMap (ancOf acc)) :: acc) r
/-- The items in the order in which they are carried out, each big one with the reads ahead of it that it doesn't wait for. -/
def reOf (a : Anc) (ahead : List Itm) (b : Itm) : List (Nat × Option (Nat × Bool) × SOp) :=
  (ahead.filter fun x => decide (sopKd x.s.op = .reads) && !(ancOf a b.i).contains x.i).filterMap fun x => x.s.dst.map fun d => (d, x.s.guard, x.s.op)
def withRe (a : Anc) : List Itm → List Itm → List Itm
  | _, [] => []
  | ahead, x :: r => (if isBig x.s then { x with s := { x.s with re := reOf a ahead x } } else x) :: withRe a (ahead ++ [x]) r

def lastBig : List Itm → Option Nat → Option Nat
  | [], b => b
  | x :: r, b => lastBig r (if isBig x.s then some x.i else b)
/-- Checks, along the order; ahead: what is ahead of it, in order. -/
def drawChk (a : Anc) (all : List Itm) : List Itm → List Itm → Bool
  | _, [] => true
  | ahead, x :: r =>
    -- waits only for what is ahead
    x.ps.all (fun p => ahead.any fun y => y.i == p) &&
    -- it, and its place to write, are its own
    ahead.all (fun y => y.i != x.i && (match y.s.dst, x.s.dst with | some d, some e => d != e | _, _ => true)) &&
    -- what it reads is written ahead of it for sure, or behind it
    all.all (fun y => y.i == x.i || (match y.s.dst with | some d => !(stepTmps x.s).contains d || (ancOf a x.i).contains y.i || (ancOf a y.i).contains x.i | none => true)) &&
    -- the big ones stand in a row; others wait for the last big one ahead
    (match lastBig ahead none with | some b => (ancOf a x.i).contains b | none => true) &&
    -- reads have a place to write, which they don't read, and what they read is written ahead of them
    (decide (sopKd x.s.op ≠ .reads) || (x.s.dst.isSome && all.all (fun y => match y.s.dst with | some d => !(stepTmps x.s).contains d || (ancOf a x.i).contains y.i | none => true))) &&
    drawChk a all (ahead ++ [x]) r
def idxChk (n : Nat) (l : List Itm) : Bool := decide (l.length = n) && (List.range n).all fun i => l.any fun x => x.i == i
def drawItms (N : Nat) (ops : Array Oper) : Option (Anc × List Itm) :=
  match compSteps P N ops ops.toList with
  | some ss =>
    let l := canonGo ops.size [] (mkItms 0 ops.toList ss)
    let a := ancGo [] l
    if idxChk ops.size l && drawChk a l [] l then some (a, l) else none
  | none => none
def compReg (N : Nat) (ops : Array Oper) (draw : Bool) : Option (List Step) :=
  if draw then (drawItms P N ops).map fun (a, l) => (withRe a [] l).map (·.s)
  else compSteps P N ops ops.toList

def compCode (N : Nat) : Code → Option SC
  | .skip => some .skip
  | .region _ ops draw => match compReg P N ops draw with
    | some ss => some (.reg ss)
    | none => some .bad
  | .seq a b => match compCode N a, compCode N b with
    | some a, some b => some (.seq a b)
    | _, _ => none
  | .cond c a b => match compOpd c, compCode N a, compCode N b with
    | some c, some a, some b => some (.cond c a b)
    | _, _, _ => none
  | .block i b => (compCode N b).map (.block i)
  | .loop b => (compCode N b).map .loop
  | .rangeFunc f ps as body => match compOpd f, compCode N as, compCode N body with
    | some f, some as, some body => if ps.toList.all (fun p => decide (p < N)) then some (.rng f ps.toList as body) else none
    | _, _, _ => none
  | .exit i => some (.exit i)
  | .ret => some .ret
  | _ => some .bad
def compRV : ResultVar → Option RV
  | .tmp t => some (.tmp t)
  | .cell t ty => match agT P ty, szT P ty with
    | some ag, some n => if ag = true ∨ n = 1 then some (.cell t ag n) else none
    | _, _ => none
def compRVs : List ResultVar → Option (List RV)
  | [] => some []
  | r :: l => match compRV P r, compRVs l with
    | some a, some b => some (a :: b)
    | _, _ => none
/-- A function: its arguments are its parameters and what it has captured. -/
def compFun (f : Func) : Option SFun :=
  match f.body with
  | some c => match compCode P f.ntmps c, compRVs P f.results.toList with
    | some b, some rs => if f.params.size + f.nfree ≤ f.ntmps ∧ (f.name == "runtime.NumGoroutine") = false then some ⟨f.params.size + f.nfree, f.ntmps, rs, b⟩ else none
    | _, _ => none
  | none => none
end
end Go.Proofs.Ytojjhcgbbmknmaa.Sh
