/- The relation between states, and what holds of it: laying a block, writing one, keeping what isn't the shadow's. -/
import Derived.Test.YtojjhcgbbmknmaaShRel
import Derived.Test.YtojjhcgbbmknmaaShComp
namespace Go.Proofs.Ytojjhcgbbmknmaa.Sh
set_option linter.unusedSimpArgs false
set_option linter.unusedVariables false
open Go Go.RowKit

section
variable (P : Program) (N0 : Nat)

/-- Temporaries. -/
def TR (w0 : World) (ρ : Rho) (t : Tr SV) (N : Nat) (a : Array Value) : Prop := a.size = N ∧ ∀ i, OK w0 ρ (getT t i) (a.getD i Go.undef)

def jumpOf : Jump → Code
  | .ret => .ret
  | .exit i => .exit i

def EntR (w0 : World) (ρ : Rho) : List (SV × SV) → List MapEntry → Prop
  | [], es => es = []
  | (k, v) :: r, es => ∃ e l, es = e :: l ∧ OK w0 ρ k e.key ∧ OK w0 ρ v e.val ∧ EntR w0 ρ r l

def ObR (w0 : World) (ρ : Rho) (p : Pl) (w : World) : Option Ob → Prop
  | some (.cells cs) => ∃ (a : Array Value) (e : TypeId), w.heap[p.blk]? = some (.cells a e (0, 0)) ∧ a.size = p.size ∧ p.base + cs.length ≤ p.size ∧
      OKs w0 ρ cs ((a.toList.drop p.base).take cs.length) ∧ allOne cs
  | some (.map es) => ∃ a clock, w.heap[p.blk]? = some (.map a clock) ∧ EntR w0 ρ es a.toList
  | some (.loop t ps as body st pend) => ∃ r : Loop, w.heap[p.blk]? = some (.loop r) ∧ r.state = st ∧ r.pending = pend.map jumpOf ∧ r.params = ps.toArray ∧
      (∃ N, TR w0 ρ t N r.tmps ∧ compCode P N r.assign = some as ∧ compCode P N r.body = some body ∧ ∀ p ∈ ps, p < N)
  | some .dead | none => True

structure SR (w0 : World) (ρ : Rho) (σ : St) (w : World) : Prop where
  below : Below w0.heap.size w0 w
  dom : ∀ i p, ρ i = some p → i < σ.next ∧ w0.heap.size ≤ p.blk ∧ p.blk < w.heap.size
  inj : ∀ i j p q, ρ i = some p → ρ j = some q → p.blk = q.blk → i ≠ j → σ.get i = some .dead ∨ σ.get j = some .dead
  obs : ∀ i p, ρ i = some p → ObR P w0 ρ p w (σ.get i)
  fresh : ∀ i, σ.next ≤ i → σ.get i = none
  hold : ∀ a v, ρ.fz a v → w.cell? a = some v ∧ ∀ i p, ρ i = some p → p.blk ≠ a.block

/-- From one state to the next. -/
structure Step1 (w0 : World) (ρ : Rho) (σ : St) (w : World) (ρ' : Rho) (σ' : St) (w' : World) : Prop where
  sr : SR P w0 ρ' σ' w'
  ext : Ext ρ ρ'
  nxt : σ.next ≤ σ'.next
  size : w.heap.size ≤ w'.heap.size
  newid : ∀ i p, ρ' i = some p → ρ i = some p ∨ σ.next ≤ i
  newblk : ∀ i p, ρ' i = some p → ρ i = none → w.heap.size ≤ p.blk ∨ ∃ j q, ρ j = some q ∧ q.blk = p.blk
  frame : ∀ b, b < w.heap.size → (∀ i p, ρ i = some p → p.blk ≠ b) → w'.heap[b]? = w.heap[b]?
  keep : ∀ i, i < σ.next → ρ i = none → σ'.get i = σ.get i
  loops : ∀ (b : Nat) (r : Loop), w.heap[b]? = some (Obj.loop r) → ∃ r' : Loop, w'.heap[b]? = some (Obj.loop r')
  newfz : ∀ a v, ρ'.fz a v → ρ.fz a v ∨ w.heap.size ≤ a.block

theorem cell?_block {w w' : World} {a : Addr} (h : w'.heap[a.block]? = w.heap[a.block]?) : w'.cell? a = w.cell? a := by
  unfold World.cell?; rw [h]
theorem cell?_lt {w : World} {a : Addr} {u : Value} (h : w.cell? a = some u) : a.block < w.heap.size := by
  unfold World.cell? at h
  split at h
  · rename_i e
    exact (Array.getElem?_eq_some_iff.1 e).1
  · cases h

variable {P} {w0 : World} {ρ ρ' ρ'' : Rho} {σ σ' σ'' : St} {w w' w'' : World}
theorem Step1.refl (h : SR P w0 ρ σ w) : Step1 P w0 ρ σ w ρ σ w :=
  ⟨h, Ext.refl _, Nat.le_refl _, Nat.le_refl _, fun _ _ h => .inl h, fun _ _ h k => (by rw [h] at k; cases k), fun _ _ _ => rfl, fun _ _ _ => rfl, fun _ r h => ⟨r, h⟩, fun _ _ h => .inl h⟩
theorem Step1.trans (h : Step1 P w0 ρ σ w ρ' σ' w') (k : Step1 P w0 ρ' σ' w' ρ'' σ'' w'') : Step1 P w0 ρ σ w ρ'' σ'' w'' where
  sr := k.sr
  ext := h.ext.trans k.ext
  nxt := Nat.le_trans h.nxt k.nxt
  size := Nat.le_trans h.size k.size
  newid := fun i p e => by
    rcases k.newid i p e with e' | e'
    · exact h.newid i p e'
    · exact .inr (Nat.le_trans h.nxt e')
  newblk := fun i p e hn => by
    by_cases hi : ρ' i = none
    · rcases k.newblk i p e hi with h1 | ⟨j, q, h1, h2⟩
      · exact .inl (Nat.le_trans h.size h1)
      · by_cases hj : ρ j = none
        · rcases h.newblk j q h1 hj with h3 | ⟨l, r, h3, h4⟩
          · exact .inl (h2 ▸ h3)
          · exact .inr ⟨l, r, h3, h4.trans h2⟩
        · obtain ⟨q', hq'⟩ := Option.ne_none_iff_exists'.1 hj
          have := h.ext _ _ hq'
          rw [h1] at this; cases this
          exact .inr ⟨j, q, hq', h2⟩
    · obtain ⟨q', hq'⟩ := Option.ne_none_iff_exists'.1 hi
      have := k.ext _ _ hq'
      rw [e] at this; cases this
      exact h.newblk i p hq' hn
  frame := fun b hb hn => by
    rw [k.frame b (Nat.lt_of_lt_of_le hb h.size) (fun i p e hp => ?_), h.frame b hb hn]
    by_cases hi : ρ i = none
    · rcases h.newblk i p e hi with h1 | ⟨j, q, h1, h2⟩
      · omega
      · exact hn j q h1 (h2.trans hp)
    · obtain ⟨q', hq'⟩ := Option.ne_none_iff_exists'.1 hi
      have := h.ext _ _ hq'
      rw [e] at this; cases this
      exact hn i p hq' hp
  keep := fun i hi hn => by
    rw [k.keep i (Nat.lt_of_lt_of_le hi h.nxt) ?_, h.keep i hi hn]
    cases e : ρ' i with
    | none => rfl
    | some p =>
      rcases h.newid i p e with h1 | h1
      · rw [hn] at h1; cases h1
      · omega
  loops := fun b r h1 => by
    obtain ⟨r', h2⟩ := h.loops b r h1
    exact k.loops b r' h2
  newfz := fun a v e => by
    rcases k.newfz a v e with h1 | h1
    · exact h.newfz a v h1
    · exact .inr (Nat.le_trans h.size h1)

/-- What stays lies there. -/
theorem SR.lies (h : SR P w0 ρ σ w) {a : Addr} {v : Value} (k : w0.cell? a = some v ∨ ρ.fz a v) : w.cell? a = some v := by
  rcases k with k | k
  · exact (h.below.cell (p := a) (cell?_lt k)).trans k
  · exact (h.hold a v k).1

theorem EntR.mono (h : Ext ρ ρ') : ∀ {es : List (SV × SV)} {l : List MapEntry}, EntR w0 ρ es l → EntR w0 ρ' es l
  | [], _, k => k
  | (a, b) :: r, _, k => by
    obtain ⟨e, l, rfl, k1, k2, k3⟩ := k
    exact ⟨e, l, rfl, k1.mono h, k2.mono h, EntR.mono h k3⟩
theorem TR.mono (h : Ext ρ ρ') {t : Tr SV} {N : Nat} {a : Array Value} (k : TR w0 ρ t N a) : TR w0 ρ' t N a := ⟨k.1, fun i => (k.2 i).mono h⟩

theorem ObR.mono (h : Ext ρ ρ') {p : Pl} {o : Option Ob} (k : ObR P w0 ρ p w o) : ObR P w0 ρ' p w o := by
  cases o with
  | none => trivial
  | some o =>
    cases o with
    | cells cs => obtain ⟨a, e, h1, h2, h3, h4, h5⟩ := k; exact ⟨a, e, h1, h2, h3, h4.mono h, h5⟩
    | map es => obtain ⟨a, c, h1, h2⟩ := k; exact ⟨a, c, h1, h2.mono h⟩
    | loop t ps as body st pend => obtain ⟨r, h1, h2, h3, h4, N, h5, h6⟩ := k; exact ⟨r, h1, h2, h3, h4, N, h5.mono h, h6⟩
    | dead => trivial
/-- What is said of a block hangs on the block (and that no block goes). -/
theorem ObR.world {p : Pl} {o : Option Ob} (k : ObR P w0 ρ p w o) (hb : w'.heap[p.blk]? = w.heap[p.blk]?) (hs : w.heap.size ≤ w'.heap.size) : ObR P w0 ρ p w' o := by
  cases o with
  | none => trivial
  | some o =>
    cases o with
    | cells cs => obtain ⟨a, e, h1, h2⟩ := k; exact ⟨a, e, hb.trans h1, h2⟩
    | map es => obtain ⟨a, c, h1, h2⟩ := k; exact ⟨a, c, hb.trans h1, h2⟩
    | loop t ps as body st pend => obtain ⟨r, h1, h2⟩ := k; exact ⟨r, hb.trans h1, h2⟩
    | dead => trivial

theorem St.get_push (σ : St) (o : Ob) (i : Nat) : (σ.push o).get i = if i = σ.next then some o else σ.get i := Tr.get_set _ _ _ _
theorem St.get_set (σ : St) (j : Nat) (o : Ob) (i : Nat) : (σ.set j o).get i = if i = j then some o else σ.get i := Tr.get_set _ _ _ _
@[simp] theorem St.next_set (σ : St) (j : Nat) (o : Ob) : (σ.set j o).next = σ.next := rfl
@[simp] theorem St.next_push (σ : St) (o : Ob) : (σ.push o).next = σ.next + 1 := rfl

def Rho.put (ρ : Rho) (i : Nat) (p : Pl) : Rho := ⟨fun j => if j = i then some p else ρ j, ρ.fz⟩
theorem Rho.put_self (ρ : Rho) (i : Nat) (p : Pl) : ρ.put i p i = some p := by simp [Rho.put]
theorem Ext.put {i : Nat} {p : Pl} (h : ρ i = none) : Ext ρ (ρ.put i p) := ⟨fun j q e => by
  simp only [Rho.put]
  split
  · rename_i hj; subst hj; rw [h] at e; cases e
  · exact e, fun _ _ h => h⟩

/-- A draw changes nothing. -/
theorem SR.drew (h : SR P w0 ρ σ w) : SR P w0 ρ σ w.drew := ⟨h.below.drew, h.dom, h.inj, fun i p e => (h.obs i p e).world rfl (Nat.le_refl _), h.fresh, h.hold⟩
theorem Step1.drew (h : SR P w0 ρ σ w) : Step1 P w0 ρ σ w ρ σ w.drew :=
  ⟨h.drew, Ext.refl _, Nat.le_refl _, Nat.le_refl _, fun _ _ h => .inl h, fun _ _ h k => (by rw [h] at k; cases k), fun _ _ _ => rfl, fun _ _ _ => rfl, fun _ r h => ⟨r, h⟩, fun _ _ h => .inl h⟩

/-- The shadow lays a block; the machine hasn't yet. -/
theorem Step1.push {ρa : Rho} {σa : St} {wa : World} (h : Step1 P w0 ρa σa wa ρ σ w) (ob : Ob) : Step1 P w0 ρa σa wa ρ (σ.push ob) w where
  sr := by
    have k := h.sr
    refine ⟨k.below, fun i p e => ?_, fun i j p q ei ej hpq hij => ?_, fun i p e => ?_, fun i hi => ?_, k.hold⟩
    · have := k.dom i p e
      exact ⟨by simp; omega, this.2⟩
    · have h1 := k.dom i p ei
      have h2 := k.dom j q ej
      rw [St.get_push, St.get_push, if_neg (by omega), if_neg (by omega)]
      exact k.inj i j p q ei ej hpq hij
    · have h1 := k.dom i p e
      rw [St.get_push, if_neg (by omega)]
      exact k.obs i p e
    · simp at hi
      rw [St.get_push, if_neg (by omega)]
      exact k.fresh i (by omega)
  ext := h.ext
  nxt := Nat.le_trans h.nxt (by simp)
  size := h.size
  newid := h.newid
  newblk := h.newblk
  frame := h.frame
  keep := fun i hi hn => by
    have := h.nxt
    rw [St.get_push, if_neg (by omega)]
    exact h.keep i hi hn
  loops := h.loops
  newfz := h.newfz

/-- A block that the shadow has laid is laid in the machine as well: its number was kept for it. -/
theorem Step1.lay {ρa : Rho} {σa : St} {wa : World} (h : Step1 P w0 ρa σa wa ρ σ w) {id : Nat} {o : Obj} {n : Nat} (ha : σa.next ≤ id) (hid : id < σ.next) (hn : ρ id = none)
    (hob : ObR P w0 (ρ.put id ⟨w.heap.size, 0, n⟩) ⟨w.heap.size, 0, n⟩ (w.alloc o) (σ.get id)) : Step1 P w0 ρa σa wa (ρ.put id ⟨w.heap.size, 0, n⟩) σ (w.alloc o) := by
  have hext : Ext ρ (ρ.put id ⟨w.heap.size, 0, n⟩) := Ext.put hn
  have hsz : (w.alloc o).heap.size = w.heap.size + 1 := by show (w.heap.push o).size = _; simp
  have k := h.sr
  have hs := h.size
  refine ⟨⟨k.below.alloc k.below.size _, fun i p e => ?_, fun i j p q ei ej hpq hij => ?_, fun i p e => ?_, k.fresh, fun a v e => ?_⟩, h.ext.trans hext, h.nxt, by rw [hsz]; omega,
    fun i p e => ?_, fun i p e hi => ?_, fun b hb hf => ?_, h.keep, fun b r h1 => by
      obtain ⟨r', h2⟩ := h.loops b r h1
      exact ⟨r', (Below.heap_alloc _ _ _ (Array.getElem?_eq_some_iff.1 h2).1).trans h2⟩, h.newfz⟩
  · simp only [Rho.put] at e
    split at e
    · rename_i hi; subst hi; cases e
      exact ⟨hid, k.below.size, by rw [hsz]; simp⟩
    · have := k.dom i p e
      exact ⟨this.1, this.2.1, by rw [hsz]; omega⟩
  · simp only [Rho.put] at ei ej
    split at ei
    · split at ej
      · rename_i h1 h2; exact absurd (h1.trans h2.symm) hij
      · cases ei
        have := k.dom j q ej
        simp at hpq; omega
    · split at ej
      · cases ej
        have := k.dom i p ei
        simp at hpq; omega
      · exact k.inj i j p q ei ej hpq hij
  · simp only [Rho.put] at e
    split at e
    · rename_i hi; subst hi; cases e; exact hob
    · have hd := k.dom i p e
      exact ((k.obs i p e).mono hext).world (Below.heap_alloc _ _ _ hd.2.2) (by rw [hsz]; omega)
  · obtain ⟨h1, h2⟩ := k.hold a v e
    have hlt := cell?_lt h1
    refine ⟨(cell?_block (Below.heap_alloc _ _ _ hlt)).trans h1, fun i p ei => ?_⟩
    simp only [Rho.put] at ei
    split at ei
    · cases ei; simp; omega
    · exact h2 i p ei
  · simp only [Rho.put] at e
    split at e
    · rename_i hi; subst hi; exact .inr ha
    · exact h.newid i p e
  · simp only [Rho.put] at e
    split at e
    · cases e; left; exact hs
    · exact h.newblk i p e hi
  · rw [Below.heap_alloc _ _ _ (by omega)]
    exact h.frame b hb hf

/-- Both at once. -/
theorem Step1.new (h : SR P w0 ρ σ w) (ob : Ob) {o : Obj} {n : Nat}
    (hob : ObR P w0 (ρ.put σ.next ⟨w.heap.size, 0, n⟩) ⟨w.heap.size, 0, n⟩ (w.alloc o) (some ob)) : Step1 P w0 ρ σ w (ρ.put σ.next ⟨w.heap.size, 0, n⟩) (σ.push ob) (w.alloc o) := by
  refine Step1.lay ((Step1.refl h).push ob) (Nat.le_refl _) (by simp) ?_ ?_
  · cases e : ρ σ.next with
    | none => rfl
    | some p => have := h.dom _ _ e; omega
  · rw [St.get_push, if_pos rfl]; exact hob

/-- A block of the shadow is written. -/
theorem SR.write (h : SR P w0 ρ σ w) {id : Nat} {p : Pl} {ob : Ob} {o : Obj} (hp : ρ id = some p) (hlive : σ.get id ≠ some .dead) (hw : w'.heap.size = w.heap.size) (hb : w'.heap[p.blk]? = some o)
    (ho : ∀ k, k ≠ p.blk → w'.heap[k]? = w.heap[k]?) (hos : w'.os = w.os) (hta : w'.tape = w.tape) (hou : w'.output = w.output)
    (hob : ObR P w0 ρ p w' (some ob)) (hlo : ∀ r : Loop, w.heap[p.blk]? = some (Obj.loop r) → ∃ r' : Loop, o = Obj.loop r') : Step1 P w0 ρ σ w ρ (σ.set id ob) w' where
  sr := by
    have hd := h.dom id p hp
    refine ⟨⟨hos.trans h.below.os, hta.trans h.below.tape, hou.trans h.below.output, by rw [hw]; exact h.below.size, fun k hk => (ho k (by omega)).trans (h.below.block k hk)⟩, fun i q e => ?_, fun i j q r ei ej hqr hij => ?_, fun i q e => ?_, fun i hi => ?_, fun a v e => ?_⟩
    · have := h.dom i q e
      exact ⟨this.1, this.2.1, by omega⟩
    · rw [St.get_set, St.get_set]
      by_cases h1 : i = id
      · subst h1
        rw [hp] at ei; cases ei
        rw [if_neg (show ¬ j = i from fun e => hij e.symm)]
        rcases h.inj i j p r hp ej hqr hij with h2 | h2
        · exact absurd h2 hlive
        · exact .inr h2
      · rw [if_neg h1]
        by_cases h2 : j = id
        · subst h2
          rw [hp] at ej; cases ej
          rcases h.inj i j q p ei hp hqr hij with h3 | h3
          · exact .inl h3
          · exact absurd h3 hlive
        · rw [if_neg h2]; exact h.inj i j q r ei ej hqr hij
    · rw [St.get_set]
      by_cases h1 : i = id
      · subst h1
        rw [hp] at e; cases e
        rw [if_pos rfl]; exact hob
      · rw [if_neg h1]
        by_cases h2 : q.blk = p.blk
        · rcases h.inj i id q p e hp h2 h1 with h3 | h3
          · rw [h3]; trivial
          · exact absurd h3 hlive
        · exact (h.obs i q e).world (ho _ h2) (by omega)
    · simp at hi
      rw [St.get_set, if_neg (by omega)]; exact h.fresh i hi
    · obtain ⟨h1, h2⟩ := h.hold a v e
      exact ⟨(cell?_block (ho _ (fun e' => h2 id p hp e'.symm))).trans h1, h2⟩
  ext := Ext.refl _
  nxt := by simp
  size := by omega
  newid := fun _ _ h => .inl h
  newblk := fun _ _ h k => by rw [h] at k; cases k
  frame := fun b hb hf => ho b (fun e => hf id p hp e.symm)
  keep := fun i hi hn => by
    rw [St.get_set, if_neg (fun e => by subst e; rw [hp] at hn; cases hn)]
  loops := fun b r h1 => by
    by_cases hbp : b = p.blk
    · subst hbp
      obtain ⟨r', rfl⟩ := hlo r h1
      exact ⟨r', hb⟩
    · exact ⟨r, (ho b hbp).trans h1⟩
  newfz := fun _ _ h => .inl h

/-- A block of the machine that is none of the shadow's turns. -/
theorem Step1.other (h : SR P w0 ρ σ w) {b : Nat} {o : Obj} (hb : b < w.heap.size) (h0 : w0.heap.size ≤ b) (hn : ∀ i p, ρ i = some p → p.blk ≠ b) (hz : ∀ a v, w.cell? a = some v → a.block ≠ b) : SR P w0 ρ σ (w.putObj b o) where
  below := ⟨h.below.os, h.below.tape, h.below.output, by simpa using h.below.size, fun k hk => (World.putObj_heap_other (by omega)).trans (h.below.block k hk)⟩
  dom := fun i p e => by have := h.dom i p e; exact ⟨this.1, this.2.1, by simpa using this.2.2⟩
  inj := h.inj
  obs := fun i p e => (h.obs i p e).world (World.putObj_heap_other (hn i p e)) (by simp)
  fresh := h.fresh
  hold := fun a v e => by
    obtain ⟨h1, h2⟩ := h.hold a v e
    exact ⟨(cell?_block (World.putObj_heap_other (hz a v h1))).trans h1, h2⟩
end
end Go.Proofs.Ytojjhcgbbmknmaa.Sh
