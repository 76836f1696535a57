/- Arguments: what is read of them, as values of the shadow that lie where they lay. -/
import Derived.Test.YtojjhcgbbmknmaaShWalk2
import Derived.Test.YtojjhcgbbmknmaaShDraw2
import Derived.DataElems
import Derived.SizedLaws
namespace Go.Proofs.Ytojjhcgbbmknmaa.Sh
set_option linter.unusedSimpArgs false
set_option linter.unusedVariables false
open Go Go.RowKit

/-- Types of whole numbers, truths, texts, records, rows and arrays of these; records without gaps. -/
def flatT (P : Program) : Nat → TypeId → Bool
  | 0, _ => false
  | d + 1, t =>
    match P.underlying t with
    | some .bool => true
    | some (.int _) => true
    | some .string => true
    | some (.slice e) => decide (0 < P.cellsOf e) && decide (0 < P.bytesOf e) && flatT P d e
    | some (.struct fs) => fs.toList.all (fun f => flatT P d f.type) && decide (fs.toList.foldl (fun (o : Option Nat) f => match o with
        | some o => if o = f.offset then some (o + P.cellsOf f.type) else none
        | none => none) (some 0) = some (P.cellsOf t))
    | some (.array n e) => decide (0 < P.cellsOf e) && decide (n * P.cellsOf e = P.cellsOf t) && flatT P d e
    | _ => false

/-- What cells of a type are. -/
def Rd (P : Program) : Nat → TypeId → List SV → Prop
  | 0, _, _ => False
  | d + 1, t, ss =>
    match P.underlying t with
    | some .bool => ∃ b, ss = [.sc (.bool b)]
    | some (.int k) => ∃ n, ss = [.sc (.int k n)] ∧ (Lit.int k n).wf = true
    | some .string => ∃ s, ss = [.sc (.str s)]
    | some (.slice e) => ss = [.sc .nilsl] ∨ ∃ ls : List (List SV), ss = [.lst ls.length (P.cellsOf e) ls.flatten] ∧ ls.length ≤ 2 ^ 47 ∧ ∀ l ∈ ls, l.length = P.cellsOf e ∧ Rd P d e l
    | some (.struct fs) => ss.length = P.cellsOf t ∧ ∀ f ∈ fs.toList, Rd P d f.type ((ss.drop f.offset).take (P.cellsOf f.type))
    | some (.array n e) => ss.length = P.cellsOf t ∧ ∀ i, i < n → Rd P d e ((ss.drop (i * P.cellsOf e)).take (P.cellsOf e))
    | _ => False

section
variable {P : Program} {w : World} {H : Type} {enc : TypeId × Value → H} {sp : Nat → Bool}

theorem mapM_some {α β : Type} {f : α → Option β} : ∀ {l : List α} {r : List β}, l.mapM f = some r → ∀ (i : Nat) (x : α), l[i]? = some x → ∃ y : β, r[i]? = some y ∧ f x = some y
  | [], r, h, i, x, hx => by simp at hx
  | a :: l, r, h, i, x, hx => by
    rw [List.mapM_cons] at h
    cases ha : f a with
    | none => simp [ha] at h
    | some b =>
      cases hr : l.mapM f with
      | none => simp [ha, hr] at h
      | some r' =>
        simp [ha, hr] at h
        subst h
        cases i with
        | zero => simp at hx; subst hx; exact ⟨b, by simp, ha⟩
        | succ i =>
          obtain ⟨y, h1, h2⟩ := mapM_some hr i x (by simpa using hx)
          exact ⟨y, by simpa using h1, h2⟩
theorem mapM_len {α β : Type} {f : α → Option β} : ∀ {l : List α} {r : List β}, l.mapM f = some r → r.length = l.length
  | [], r, h => by simp at h; subst h; rfl
  | a :: l, r, h => by
    rw [List.mapM_cons] at h
    cases ha : f a with
    | none => simp [ha] at h
    | some b =>
      cases hr : l.mapM f with
      | none => simp [ha, hr] at h
      | some r' => simp [ha, hr] at h; subst h; simp [mapM_len hr]

def R0 : Rho := ⟨fun _ => none, fun _ _ => False⟩

/-- Pieces, one behind the other. -/
theorem pieces {Q : Nat → List SV → Prop} {c : Nat} {cs : List Value} : ∀ (n : Nat), (∀ i, i < n → ∃ ss, OKs w R0 ss ((cs.drop (i * c)).take c) ∧ allOne ss ∧ Q i ss) → n * c ≤ cs.length →
    ∃ ls : List (List SV), ls.length = n ∧ OKs w R0 ls.flatten (cs.take (n * c)) ∧ allOne ls.flatten ∧ ∀ i l, ls[i]? = some l → l.length = c ∧ Q i l := by
  intro n
  induction n with
  | zero => intro _ _; exact ⟨[], rfl, by simp [OKs, VRs, wfs], by simp [allOne], by simp⟩
  | succ n ih =>
    intro h hl
    have e : (n + 1) * c = n * c + c := by rw [Nat.add_mul, Nat.one_mul]
    obtain ⟨ls, h1, h2, h3, h4⟩ := ih (fun i hi => h i (by omega)) (by omega)
    obtain ⟨ss, g1, g2, g3⟩ := h n (by omega)
    have hsl : ss.length = c := by have := g1.len; simp at this; omega
    refine ⟨ls ++ [ss], by simp [h1], ?_, ?_, fun i l hl' => ?_⟩
    · rw [List.flatten_append, e, List.take_add]
      simpa using h2.append g1
    · rw [List.flatten_append]
      simpa using allOne_append h3 (by simpa using g2)
    · rw [List.getElem?_append] at hl'
      split at hl'
      · exact h4 i l hl'
      · rename_i hge
        have : i = n := by
          have := (List.getElem?_eq_some_iff.1 hl').1
          simp at this; omega
        subst this
        simp [h1] at hl'
        subst hl'
        exact ⟨hsl, g3⟩

theorem flatten_piece {c : Nat} : ∀ {ls : List (List SV)} {i : Nat} {l : List SV}, (∀ x ∈ ls, x.length = c) → ls[i]? = some l → (ls.flatten.drop (i * c)).take c = l
  | [], i, l, _, h => by simp at h
  | x :: r, 0, l, hx, h => by
    simp at h; subst h
    have := hx x (by simp)
    simp [← this]
  | x :: r, i + 1, l, hx, h => by
    have hxl := hx x (by simp)
    have := flatten_piece (ls := r) (i := i) (l := l) (fun y hy => hx y (by simp [hy])) (by simpa using h)
    rw [List.flatten_cons, show (i + 1) * c = x.length + i * c by rw [Nat.add_mul, hxl]; omega, List.drop_append, List.drop_eq_nil_of_le (by omega)]
    simpa using this

/-- Fields, one behind the other. -/
theorem fields {d : Nat} {cs : List Value} (Q : TypeId → List SV → Prop) : ∀ (fs : List Field) (o : Nat) (tot : Nat), fs.foldl (fun (o : Option Nat) f => match o with
        | some o => if o = f.offset then some (o + P.cellsOf f.type) else none
        | none => none) (some o) = some tot → (∀ f ∈ fs, ∃ ss, OKs w R0 ss ((cs.drop f.offset).take (P.cellsOf f.type)) ∧ allOne ss ∧ Q f.type ss) → tot ≤ cs.length →
    o ≤ tot ∧ ∃ ss, OKs w R0 ss ((cs.drop o).take (tot - o)) ∧ allOne ss ∧ ss.length = tot - o ∧ ∀ f ∈ fs, o ≤ f.offset ∧ Q f.type ((ss.drop (f.offset - o)).take (P.cellsOf f.type)) := by
  intro fs
  induction fs with
  | nil =>
    intro o tot h _ _
    simp at h; subst h
    exact ⟨Nat.le_refl _, [], by simp [OKs, VRs, wfs], by simp [allOne], by simp, by simp⟩
  | cons f fs ih =>
    intro o tot h hf htot
    simp only [List.foldl_cons] at h
    by_cases ho : o = f.offset
    · rw [if_pos ho] at h
      obtain ⟨h1, ss, h2, h3, h4, h5⟩ := ih _ tot h (fun g hg => hf g (by simp [hg])) htot
      obtain ⟨s0, g1, g2, g4⟩ := hf f (by simp)
      have g3 : s0.length = P.cellsOf f.type := by have := g1.len; simp at this; omega
      refine ⟨by omega, s0 ++ ss, ?_, allOne_append g2 h3, by simp [g3, h4]; omega, fun g hg => ?_⟩
      · have : (cs.drop o).take (tot - o) = (cs.drop f.offset).take (P.cellsOf f.type) ++ (cs.drop (o + P.cellsOf f.type)).take (tot - (o + P.cellsOf f.type)) := by
          rw [show tot - o = P.cellsOf f.type + (tot - (o + P.cellsOf f.type)) by omega, List.take_add, List.drop_drop, ho]
        rw [this]
        exact g1.append h2
      · rcases List.mem_cons.1 hg with rfl | hg
        · refine ⟨by omega, ?_⟩
          have : ((s0 ++ ss).drop (g.offset - o)).take (P.cellsOf g.type) = s0 := by
            rw [show g.offset - o = 0 by omega, List.drop_zero, ← g3]; simp
          rw [this]; exact g4
        · obtain ⟨k1, k2⟩ := h5 g hg
          refine ⟨by omega, ?_⟩
          have : (s0 ++ ss).drop (g.offset - o) = ss.drop (g.offset - (o + P.cellsOf f.type)) := by
            rw [List.drop_append, List.drop_eq_nil_of_le (by omega)]
            simp
            congr 1
            omega
          rw [this]; exact k2
    · rw [if_neg ho] at h
      exfalso
      clear ih hf
      induction fs with
      | nil => simp at h
      | cons g fs ih => simp only [List.foldl_cons] at h; exact ih h

theorem cells?_get {base : Nat} {A : Addr} {n : Nat} {cs : List Value} (h : w.cells? base A n = some cs) : base ≤ A.block ∧ cs.length = n ∧ ∀ i u, cs[i]? = some u → w.cell? (A.add i) = some u := by
  unfold World.cells? at h
  split at h
  · rename_i hb
    have hl := mapM_len h
    simp at hl
    refine ⟨hb, hl, fun i u hu => ?_⟩
    have hi : i < n := by have := (List.getElem?_eq_some_iff.1 hu).1; omega
    obtain ⟨y, h1, h2⟩ := mapM_some h i i (by simp [hi])
    rw [hu] at h1; cases h1
    exact h2
  · cases h

theorem cell_lt {A : Addr} {u : Value} (h : w.cell? A = some u) : A.block < w.heap.size := by
  unfold World.cell? at h
  split at h
  · rename_i e
    exact (Array.getElem?_eq_some_iff.1 e).1
  · cases h

theorem cell_spot {A : Addr} {u : Value} (h : w.cell? A = some u) : A.spot = none := by
  unfold World.cell? at h
  split at h
  · split at h
    · cases h
    · rename_i e; cases hs : A.spot with
      | none => rfl
      | some x => rw [hs] at e; simp at e
  · cases h

/-- A row, element by element. -/
theorem rows {Q : List SV → Prop} {c : Nat} {A : Addr} : ∀ (n : Nat), (∀ i, i < n → ∃ ss csi, w.cells? 0 (A.add (i * c)) c = some csi ∧ OKs w R0 ss csi ∧ allOne ss ∧ Q ss) →
    ∃ (ls : List (List SV)) (vs : List Value), ls.length = n ∧ OKs w R0 ls.flatten vs ∧ allOne ls.flatten ∧ vs.length = n * c ∧ (∀ k u, vs[k]? = some u → w.cell? (A.add k) = some u) ∧ ∀ l ∈ ls, l.length = c ∧ Q l := by
  intro n
  induction n with
  | zero => intro _; exact ⟨[], [], rfl, by simp [OKs, VRs, wfs], by simp [allOne], by simp, by simp, by simp⟩
  | succ n ih =>
    intro h
    have e : (n + 1) * c = n * c + c := by rw [Nat.add_mul, Nat.one_mul]
    obtain ⟨ls, vs, h1, h2, h3, h4, h5, h6⟩ := ih (fun i hi => h i (by omega))
    obtain ⟨ss, csi, g0, g1, g2, g3⟩ := h n (by omega)
    obtain ⟨_, q1, q2⟩ := cells?_get g0
    have hsl : ss.length = c := by have := g1.len; omega
    refine ⟨ls ++ [ss], vs ++ csi, by simp [h1], ?_, ?_, by simp [h4, q1, e], fun k u hk => ?_, fun l hl => ?_⟩
    · rw [List.flatten_append]
      simpa using h2.append g1
    · rw [List.flatten_append]
      simpa using allOne_append h3 (by simpa using g2)
    · rw [List.getElem?_append] at hk
      split at hk
      · exact h5 k u hk
      · rename_i hge
        have := q2 _ _ hk
        rw [Addr.add_add] at this
        rw [show k = n * c + (k - vs.length) by omega]; exact this
    · rcases List.mem_append.1 hl with hl | hl
      · exact h6 l hl
      · simp at hl; subst hl; exact ⟨hsl, g3⟩

theorem OKs.one_mk {s : SV} {u : Value} (h : OK w R0 s u) : OKs w R0 [s] [u] := ⟨VRs.cons h.1 VRs.nil, h.2, trivial⟩

theorem trod_bool' {fuel : Nat} {t : TypeId} {cs : List Value} {x : DataW H × List MemPlace} (hu : P.underlying t = some .bool) (h : DataW.trod enc P w 0 sp true (fuel + 1) t cs = some x) : ∃ b, cs = [.bool b] := by
  unfold DataW.trod at h
  rw [hu] at h
  cases cs with
  | nil => simp at h
  | cons v r => cases r with
    | nil => cases v <;> simp at h; exact ⟨_, rfl⟩
    | cons _ _ => cases v <;> simp at h
theorem trod_int' {fuel : Nat} {t : TypeId} {k : IntKind} {cs : List Value} {x : DataW H × List MemPlace} (hu : P.underlying t = some (.int k)) (h : DataW.trod enc P w 0 sp true (fuel + 1) t cs = some x) : ∃ n, cs = [.int k n] ∧ (Lit.int k n).wf = true := by
  unfold DataW.trod at h
  rw [hu] at h
  cases cs with
  | nil => simp at h
  | cons v r => cases r with
    | nil =>
      cases v <;> simp at h
      obtain ⟨⟨rfl, h1⟩, _⟩ := h
      exact ⟨_, rfl, h1⟩
    | cons _ _ => cases v <;> simp at h
theorem trod_string' {fuel : Nat} {t : TypeId} {cs : List Value} {x : DataW H × List MemPlace} (hu : P.underlying t = some .string) (h : DataW.trod enc P w 0 sp true (fuel + 1) t cs = some x) : ∃ b, cs = [.string b] := by
  unfold DataW.trod at h
  rw [hu] at h
  cases cs with
  | nil => simp at h
  | cons v r => cases r with
    | nil => cases v <;> simp at h; exact ⟨_, rfl⟩
    | cons _ _ => cases v <;> simp at h
theorem weights_mem_all {e : TypeId} : ∀ {ds : List (DataW H)} {i : Nat} {d : DataW H}, ds[i]? = some d → ∀ n ∈ d.weights P e, n ∈ DataW.weightsAll P e ds
  | [], i, d, h, n, _ => by simp at h
  | d0 :: ds, 0, d, h, n, hn => by
    simp only [List.getElem?_cons_zero, Option.some.injEq] at h
    subst h
    simp only [DataW.weightsAll, List.mem_append]
    exact .inl hn
  | d0 :: ds, i + 1, d, h, n, hn => by
    simp only [List.getElem?_cons_succ] at h
    simp only [DataW.weightsAll, List.mem_append]
    exact .inr (weights_mem_all h n hn)
theorem trod_struct' {fuel : Nat} {t : TypeId} {fs : Array Field} {cs : List Value} {x : DataW H × List MemPlace} (hu : P.underlying t = some (.struct fs)) (h : DataW.trod enc P w 0 sp true (fuel + 1) t cs = some x) :
    cs.length = P.cellsOf t ∧ ∀ f ∈ fs.toList, ∃ y, DataW.trod enc P w 0 sp true fuel f.type ((cs.drop f.offset).take (P.cellsOf f.type)) = some y ∧ ∀ n ∈ y.1.weights P f.type, n ∈ x.1.weights P t := by
  unfold DataW.trod at h
  rw [hu] at h
  simp only at h
  split at h
  · rename_i hl
    obtain ⟨xs, h1, h2⟩ := Option.map_eq_some_iff.1 h
    refine ⟨hl, fun f hf => ?_⟩
    obtain ⟨i, hi⟩ := List.mem_iff_getElem?.1 hf
    obtain ⟨y, hxy, hy⟩ := mapM_some h1 i f hi
    refine ⟨y, hy, fun n hn => ?_⟩
    subst h2
    simp only [DataW.weights, hu]
    exact DataW.weights_mem_each (j := i) (by simp at hi; simp [hi]) (by simp [hxy]) n hn
  · cases h
theorem trod_array' {fuel n : Nat} {t e : TypeId} {cs : List Value} {x : DataW H × List MemPlace} (hu : P.underlying t = some (.array n e)) (h : DataW.trod enc P w 0 sp true (fuel + 1) t cs = some x) :
    cs.length = P.cellsOf t ∧ ∀ i, i < n → ∃ y, DataW.trod enc P w 0 sp true fuel e ((cs.drop (i * P.cellsOf e)).take (P.cellsOf e)) = some y ∧ ∀ n ∈ y.1.weights P e, n ∈ x.1.weights P t := by
  unfold DataW.trod at h
  rw [hu] at h
  simp only at h
  split at h
  · rename_i hl
    obtain ⟨xs, h1, h2⟩ := Option.map_eq_some_iff.1 h
    refine ⟨hl, fun i hi => ?_⟩
    obtain ⟨y, hxy, hy⟩ := mapM_some h1 i i (by simp [hi])
    refine ⟨y, hy, fun n hn => ?_⟩
    subst h2
    simp only [DataW.weights, hu]
    exact weights_mem_all (i := i) (by simp [hxy]) n hn
  · cases h
theorem trod_slice' {fuel : Nat} {t e : TypeId} {cs : List Value} {x : DataW H × List MemPlace} (hu : P.underlying t = some (.slice e)) (h : DataW.trod enc P w 0 sp true (fuel + 1) t cs = some x) :
    cs = [.slice none 0 0] ∨ ∃ a len cap, cs = [.slice (some a) len cap] ∧ len ≤ cap ∧ (∃ m, len ≤ m ∧ m * P.bytesOf e ∈ x.1.weights P t) ∧ ∀ i, i < len → ∃ csi y, w.cells? 0 (a.add (i * P.cellsOf e)) (P.cellsOf e) = some csi ∧ DataW.trod enc P w 0 sp true fuel e csi = some y ∧ ∀ n ∈ y.1.weights P e, n ∈ x.1.weights P t := by
  unfold DataW.trod at h
  rw [hu] at h
  cases cs with
  | nil => simp at h
  | cons v r => cases r with
    | nil =>
      cases v <;> try (simp at h; done)
      rename_i a len cap
      cases a with
      | none =>
        cases len with
        | zero => cases cap with
          | zero => exact .inl rfl
          | succ _ => simp at h
        | succ _ => simp at h
      | some a =>
        simp only at h
        split at h
        · rename_i hc
          obtain ⟨xs, h1, h2⟩ := Option.bind_eq_some_iff.1 h
          obtain ⟨rest, _, h3⟩ := Option.map_eq_some_iff.1 h2
          subst h3
          have hxl := mapM_len h1
          simp at hxl
          refine .inr ⟨a, len, cap, rfl, hc.2.1, ⟨xs.length + rest.length, by omega, by simp [DataW.weights, hu]⟩, fun i hi => ?_⟩
          obtain ⟨y, hxy, hy⟩ := mapM_some h1 i i (by simp [hi])
          obtain ⟨csi, g1, g2⟩ := Option.bind_eq_some_iff.1 hy
          refine ⟨csi, y, g1, g2, fun n hn => ?_⟩
          simp only [DataW.weights, hu, List.mem_cons, List.mem_append]
          exact .inr (.inl (weights_mem_all (i := i) (by simp [hxy]) n hn))
        · cases h
    | cons _ _ => cases v <;> simp at h

theorem enc_trod : ∀ (d fuel : Nat) (t : TypeId) (cs : List Value) (x : DataW H × List MemPlace), flatT P d t = true → DataW.trod enc P w 0 sp true fuel t cs = some x → (∀ n ∈ x.1.weights P t, n ≤ 2 ^ 47) → ∃ ss, OKs w R0 ss cs ∧ allOne ss ∧ Rd P d t ss := by
  intro d
  induction d with
  | zero => intro fuel t cs x h; simp [flatT] at h
  | succ d ih =>
    intro fuel t cs x hf h
    intro hwt
    cases fuel with
    | zero => simp [DataW.trod] at h
    | succ fuel =>
      unfold flatT at hf
      unfold Rd
      cases hu : P.underlying t with
      | none => simp [hu] at hf
      | some td =>
        rw [hu] at hf
        cases td
        case bool =>
          obtain ⟨b, rfl⟩ := trod_bool' hu h
          exact ⟨[.sc (.bool b)], OKs.one_mk (OK.mk_sc (s := .bool _)), by simp [allOne, SV.one], _, rfl⟩
        case int k =>
          obtain ⟨n, rfl, hn⟩ := trod_int' hu h
          exact ⟨[.sc (.int k n)], OKs.one_mk (OK.mk_sc (s := .int k n)), by simp [allOne, SV.one], _, rfl, hn⟩
        case string =>
          obtain ⟨b, rfl⟩ := trod_string' hu h
          exact ⟨[.sc (.str b)], OKs.one_mk (OK.mk_sc (s := .str _)), by simp [allOne, SV.one], _, rfl⟩
        case slice e =>
          simp only [Bool.and_eq_true, decide_eq_true_eq] at hf
          rcases trod_slice' hu h with rfl | ⟨A, len, cap, rfl, h1, h2, h3⟩
          · exact ⟨[.sc .nilsl], OKs.one_mk (OK.mk_sc (s := .nilsl)), by simp [allOne, SV.one], .inl rfl⟩
          · obtain ⟨ls, vs, g1, g2, g3, g4, g5, g6⟩ := rows (w := w) (Q := Rd P d e) (c := P.cellsOf e) (A := A) len (fun i hi => by
              obtain ⟨csi, y, k1, k2, kw⟩ := h3 i hi
              obtain ⟨ss, k3, k4, k5⟩ := ih fuel e csi y hf.2 k2 (fun n hn => hwt n (kw n hn))
              exact ⟨ss, csi, k1, k3, k4, k5⟩)
            refine ⟨[.lst ls.length (P.cellsOf e) ls.flatten], ⟨VRs.cons ?_ VRs.nil, ⟨g3, g2.2⟩, trivial⟩, by simp [allOne, SV.one], .inr ⟨ls, rfl, by
              obtain ⟨m, hm1, hm2⟩ := h2
              have h4 := hwt _ hm2
              have h5 : m * 1 ≤ m * P.bytesOf e := Nat.mul_le_mul_left _ hf.1.2
              omega, g6⟩⟩
            simp only [VR]
            have hfl : ls.flatten.length = ls.length * P.cellsOf e := by have := g2.len; rw [g1]; omega
            refine ⟨A, cap, vs, by rw [g1], by omega, g2.1, ⟨fun hne => ?_, fun i v hv => .inl ?_⟩, hfl, hf.1.1⟩
            · obtain ⟨u, r, rfl⟩ := List.exists_cons_of_ne_nil hne
              have := g5 0 u (by simp)
              rw [Addr.add_zero'] at this
              exact cell_spot this
            · have h0 : 0 < vs.length := by have := (List.getElem?_eq_some_iff.1 hv).1; omega
              have hz := g5 0 vs[0] (by simp)
              rw [Addr.add_zero'] at hz
              have hs := cell_spot hz
              obtain ⟨b, off, spt⟩ := A
              simp only at hs; subst hs
              have := g5 i v hv
              rw [Addr.add_lit] at this
              exact this
        case struct fs =>
          simp only [Bool.and_eq_true, decide_eq_true_eq] at hf
          obtain ⟨h1, h2⟩ := trod_struct' hu h
          obtain ⟨_, ss, g1, g2, g3, g4⟩ := fields (w := w) (d := d) (cs := cs) (Rd P d) fs.toList 0 (P.cellsOf t) hf.2 (fun f hm => by
            obtain ⟨y, hy, kw⟩ := h2 f hm
            obtain ⟨ss, k3, k4, k5⟩ := ih fuel _ _ y (List.all_eq_true.1 hf.1 f hm) hy (fun n hn => hwt n (kw n hn))
            exact ⟨ss, k3, k4, k5⟩) (by omega)
          refine ⟨ss, ?_, g2, by simpa using g3, fun f hm => by simpa using (g4 f hm).2⟩
          rw [List.drop_zero, Nat.sub_zero, ← h1, List.take_length] at g1
          exact g1
        case array n e =>
          simp only [Bool.and_eq_true, decide_eq_true_eq] at hf
          obtain ⟨⟨h0, h1⟩, h2⟩ := hf
          obtain ⟨h3, h4⟩ := trod_array' hu h
          obtain ⟨ls, g1, g2, g3, g4⟩ := pieces (w := w) (Q := fun _ => Rd P d e) (c := P.cellsOf e) (cs := cs) n (fun i hi => by
            obtain ⟨y, hy, kw⟩ := h4 i hi
            obtain ⟨ss, k3, k4, k5⟩ := ih fuel _ _ y h2 hy (fun n hn => hwt n (kw n hn))
            exact ⟨ss, k3, k4, k5⟩) (by omega)
          have hlen := g2.len
          simp at hlen
          refine ⟨ls.flatten, ?_, g3, by simp; omega, fun i hi => ?_⟩
          · rw [h1, ← h3, List.take_length] at g2; exact g2
          · obtain ⟨l, hl⟩ : ∃ l, ls[i]? = some l := ⟨_, List.getElem?_eq_getElem (by omega)⟩
            rw [flatten_piece (fun x hx => by
              obtain ⟨k, hk⟩ := List.mem_iff_getElem?.1 hx
              exact (g4 k x hk).1) hl]
            exact (g4 i l hl).2
        all_goals simp at hf
end
end Go.Proofs.Ytojjhcgbbmknmaa.Sh
