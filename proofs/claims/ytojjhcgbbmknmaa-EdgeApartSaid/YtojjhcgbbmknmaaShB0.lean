/- The words of contracts: what a function tells; values as the shadow has them; steps one by one. -/
import Derived.Test.YtojjhcgbbmknmaaShLev
import Derived.Test.YtojjhcgbbmknmaaShOne
import Derived.Laws.BitsLemmas
namespace Go.Proofs.Ytojjhcgbbmknmaa.Sh
set_option linter.unusedSimpArgs false
set_option linter.unusedVariables false
open Go Go.Proofs

/-! ### Levels -/
noncomputable def EV (k : Nat) : Env := envAt FT.get LV.get k
theorem EV_fn {k f : Nat} {fn : SFun} (h : FT.get f = some fn) : (EV k).fn f = some fn := by
  unfold EV; rw [envAt_fn]; exact h
/-- What a function tells of values without places. -/
def Tells (f : Nat) (pa : List SV) (r : SV) : Prop := ∃ k, LV.get f = some k ∧ Told (EV k) f pa r
theorem told_fn {f k np nt : Nat} {rs : List RV} {body : SC} {pa : List SV} {σ : St} {Q : SV → St → Prop} (hk : LV.get f = some k) (hf : FT.get f = some ⟨np, nt, rs, body⟩) (hl : pa.length = np)
    (h : WP (EV k) body (Tr.fill .nil 0 pa) σ (Ends rs Q)) : WPF (EV k) f pa σ Q :=
  WPF_fn (fn := ⟨np, nt, rs, body⟩) (envAt_none (fun m e => by rw [hk] at e; cases e; exact Nat.le_refl _)) (EV_fn hf) hl h
theorem tells_fn {f k np nt : Nat} {rs : List RV} {body : SC} {pa : List SV} {r : SV} (hk : LV.get f = some k) (hf : FT.get f = some ⟨np, nt, rs, body⟩) (hl : pa.length = np)
    (h : WP (EV k) body (Tr.fill .nil 0 pa) St.empty (Ends rs (fun v σ => frz σ 20 v = some r))) : Tells f pa r := ⟨k, hk, told_fn hk hf hl h⟩
theorem inline_fn {f m np nt : Nat} {rs : List RV} {body : SC} {args : List SV} {σ : St} {Q : SV → St → Prop} (hk : LV.get f = none) (hf : FT.get f = some ⟨np, nt, rs, body⟩) (hl : args.length = np)
    (h : WP (EV m) body (Tr.fill .nil 0 args) σ (Ends rs Q)) : WPF (EV m) f args σ Q :=
  WPF_fn (fn := ⟨np, nt, rs, body⟩) (envAt_none (fun m e => by rw [hk] at e; cases e)) (EV_fn hf) hl h
theorem WPF_tells {f m : Nat} {args pa : List SV} {σ : St} {r : SV} {Q : SV → St → Prop} (h : Tells f pa r) (hk : ∃ k, LV.get f = some k ∧ k < m) (ha : mapO (frz σ 20) args = some pa) (hp : (pures args || r.flat0) = true) (q : Q r σ) : WPF (EV m) f args σ Q := by
  obtain ⟨k, h1, h2⟩ := h
  obtain ⟨k', h3, h4⟩ := hk
  rw [h1] at h3; cases h3
  exact WPF_told h1 h4 ha h2 hp q

/-! ### What stays -/
def Keeps (σ σ' : St) : Prop := σ.next ≤ σ'.next ∧ ∀ i, i < σ.next → σ'.get i = σ.get i
theorem Keeps.refl (σ : St) : Keeps σ σ := ⟨Nat.le_refl _, fun _ _ => rfl⟩
theorem Keeps.trans {a b c : St} (h : Keeps a b) (k : Keeps b c) : Keeps a c := ⟨Nat.le_trans h.1 k.1, fun i hi => (k.2 i (Nat.lt_of_lt_of_le hi h.1)).trans (h.2 i hi)⟩
theorem get_push_ne {σ : St} {o : Ob} {i : Nat} (h : i ≠ σ.next) : (σ.push o).get i = σ.get i := by
  show (Tr.set _ _ _).get i = _
  rw [Tr.get_set, if_neg h]; rfl
theorem get_push_eq {σ : St} {o : Ob} : (σ.push o).get σ.next = some o := by
  show (Tr.set _ _ _).get _ = _
  rw [Tr.get_set, if_pos rfl]
theorem get_set_ne {σ : St} {o : Ob} {i j : Nat} (h : i ≠ j) : (σ.set j o).get i = σ.get i := by
  show (Tr.set _ _ _).get i = _
  rw [Tr.get_set, if_neg h]; rfl
theorem get_set_eq {σ : St} {o : Ob} {j : Nat} : (σ.set j o).get j = some o := by
  show (Tr.set _ _ _).get _ = _
  rw [Tr.get_set, if_pos rfl]
theorem next_push {σ : St} {o : Ob} : (σ.push o).next = σ.next + 1 := rfl
theorem next_set {σ : St} {o : Ob} {j : Nat} : (σ.set j o).next = σ.next := rfl
theorem Keeps.push {σ σ' : St} (h : Keeps σ σ') (o : Ob) : Keeps σ (σ'.push o) := ⟨Nat.le_trans h.1 (by rw [next_push]; omega), fun i hi => by rw [get_push_ne (by have := h.1; omega)]; exact h.2 i hi⟩
theorem Keeps.set {σ σ' : St} (h : Keeps σ σ') {j : Nat} (o : Ob) (hj : σ.next ≤ j) : Keeps σ (σ'.set j o) := ⟨h.1, fun i hi => by rw [get_set_ne (by omega)]; exact h.2 i hi⟩
theorem Keeps.cells {σ σ' : St} (h : Keeps σ σ') {i : Nat} (hi : i < σ.next) : cellsOf σ' i = cellsOf σ i := by
  unfold cellsOf; rw [h.2 i hi]
theorem cellsOf_eq {σ : St} {id : Nat} {cs : List SV} (h : σ.get id = some (.cells cs)) : cellsOf σ id = some cs := by unfold cellsOf; rw [h]

theorem get_of_cells {σ : St} {id : Nat} {cs : List SV} (h : cellsOf σ id = some cs) : σ.get id = some (.cells cs) := by
  unfold cellsOf at h
  split at h <;> first | (cases h; assumption) | cases h
theorem get_set_same {σ : St} {o : Ob} {i j : Nat} (h : i = j) : (σ.set j o).get i = some o := by subst h; exact get_set_eq
/-- How a round's body ends. -/
structure BodyPost (L : Nat) (lp : Ob) (A : St → Prop) (Qs : Ex → St → Prop) (ex : Ex) (t : Tr SV) (σ2 : St) : Prop where
  own : σ2.get L = some lp
  all : match ex with
    | .normal => A σ2
    | ex => Qs ex σ2
theorem BP_next {L : Nat} {lp : Ob} {A : St → Prop} {Qs : Ex → St → Prop} {t : Tr SV} {σ : St} : BodyPost L lp A Qs .normal t σ ↔ (σ.get L = some lp ∧ A σ) := ⟨fun h => ⟨h.1, h.2⟩, fun h => ⟨h.1, h.2⟩⟩
theorem BP_ret {L : Nat} {lp : Ob} {A : St → Prop} {Qs : Ex → St → Prop} {t : Tr SV} {σ : St} : BodyPost L lp A Qs .ret t σ ↔ (σ.get L = some lp ∧ Qs .ret σ) := ⟨fun h => ⟨h.1, h.2⟩, fun h => ⟨h.1, h.2⟩⟩
theorem BP_exit {L i : Nat} {lp : Ob} {A : St → Prop} {Qs : Ex → St → Prop} {t : Tr SV} {σ : St} : BodyPost L lp A Qs (.exit i) t σ ↔ (σ.get L = some lp ∧ Qs (.exit i) σ) := ⟨fun h => ⟨h.1, h.2⟩, fun h => ⟨h.1, h.2⟩⟩
/-! ### A state, cell by cell -/
theorem cellsOf_push (σ : St) (cs : List SV) (i : Nat) : cellsOf (σ.push (.cells cs)) i = if i = σ.next then some cs else cellsOf σ i := by
  by_cases h : i = σ.next
  · subst h; rw [if_pos rfl]; exact cellsOf_eq get_push_eq
  · rw [if_neg h]; unfold cellsOf; rw [get_push_ne h]
theorem cellsOf_set (σ : St) (j : Nat) (cs : List SV) (i : Nat) : cellsOf (σ.set j (.cells cs)) i = if i = j then some cs else cellsOf σ i := by
  by_cases h : i = j
  · subst h; rw [if_pos rfl]; exact cellsOf_eq get_set_eq
  · rw [if_neg h]; unfold cellsOf; rw [get_set_ne h]
theorem cellsOf_loop (σ : St) (j : Nat) (a : Tr SV) (b : List Nat) (c d : SC) (e : LoopState) (f : Option Jump) (i : Nat) : cellsOf (σ.set j (.loop a b c d e f)) i = if i = j then none else cellsOf σ i := by
  by_cases h : i = j
  · subst h; rw [if_pos rfl]; unfold cellsOf; rw [get_set_eq]
  · rw [if_neg h]; unfold cellsOf; rw [get_set_ne h]
theorem cellsOf_pushl (σ : St) (a : Tr SV) (b : List Nat) (c d : SC) (e : LoopState) (f : Option Jump) (i : Nat) : cellsOf (σ.push (.loop a b c d e f)) i = if i = σ.next then none else cellsOf σ i := by
  by_cases h : i = σ.next
  · subst h; rw [if_pos rfl]; unfold cellsOf; rw [get_push_eq]
  · rw [if_neg h]; unfold cellsOf; rw [get_push_ne h]
/-- The cells of a block's content. -/
def obCells : Ob → Option (List SV)
  | .cells cs => some cs
  | _ => none
theorem cellsOf_setg (σ : St) (j : Nat) (o : Ob) (i : Nat) : cellsOf (σ.set j o) i = if i = j then obCells o else cellsOf σ i := by
  by_cases h : i = j
  · subst h; rw [if_pos rfl]; unfold cellsOf; rw [get_set_eq]; cases o <;> rfl
  · rw [if_neg h]; unfold cellsOf; rw [get_set_ne h]
theorem ne01 (n : Nat) : (n = n + 1) = False := by simp
theorem ne02 (n : Nat) : (n = n + 2) = False := by simp
theorem ne03 (n : Nat) : (n = n + 3) = False := by simp
theorem ne10 (n : Nat) : (n + 1 = n) = False := by simp
theorem ne20 (n : Nat) : (n + 2 = n) = False := by simp
theorem ne30 (n : Nat) : (n + 3 = n) = False := by simp
theorem ne12 (n : Nat) : (n + 1 = n + 2) = False := by simp
theorem ne13 (n : Nat) : (n + 1 = n + 3) = False := by simp
theorem ne21 (n : Nat) : (n + 2 = n + 1) = False := by simp
theorem ne23 (n : Nat) : (n + 2 = n + 3) = False := by simp
theorem ne31 (n : Nat) : (n + 3 = n + 1) = False := by simp
theorem ne32 (n : Nat) : (n + 3 = n + 2) = False := by simp
theorem add11 (n : Nat) : n + 1 + 1 = n + 2 := rfl
theorem add21 (n : Nat) : n + 2 + 1 = n + 3 := rfl
theorem add31 (n : Nat) : n + 3 + 1 = n + 4 := rfl
theorem cellsOf_dead (σ : St) (j : Nat) (i : Nat) : cellsOf (σ.set j .dead) i = if i = j then none else cellsOf σ i := by
  by_cases h : i = j
  · subst h; rw [if_pos rfl]; unfold cellsOf; rw [get_set_eq]
  · rw [if_neg h]; unfold cellsOf; rw [get_set_ne h]
theorem nx_push {σ : St} {o : Ob} : (σ.push o).next = σ.next + 1 := by cases σ; cases o <;> rfl
theorem nx_set {σ : St} {o : Ob} {j : Nat} : (σ.set j o).next = σ.next := by cases σ; cases o <;> rfl
theorem cells_push_ne {σ : St} {o : Ob} {i : Nat} (h : i ≠ σ.next) : cellsOf (σ.push o) i = cellsOf σ i := by unfold cellsOf; rw [get_push_ne h]
theorem cells_push_eq {σ : St} {cs : List SV} {i : Nat} (h : i = σ.next) : cellsOf (σ.push (.cells cs)) i = some cs := by subst h; exact cellsOf_eq get_push_eq
theorem cells_set_ne {σ : St} {o : Ob} {i j : Nat} (h : i ≠ j) : cellsOf (σ.set j o) i = cellsOf σ i := by unfold cellsOf; rw [get_set_ne h]
theorem cells_set_eq {σ : St} {cs : List SV} {i j : Nat} (h : i = j) : cellsOf (σ.set j (.cells cs)) i = some cs := by subst h; exact cellsOf_eq get_set_eq
theorem next_empty : St.empty.next = 0 := rfl
theorem cellsOf_empty (i : Nat) : cellsOf St.empty i = none := by unfold cellsOf St.get St.empty; rw [Tr.get_nil]

theorem paste_ex {a v : SV} {cs : List SV} {i : Nat} (h : i < cs.length + 1) : paste (a :: cs) i [v] = (a :: cs).set i v := by
  rw [paste_def]
  rw [List.set_eq_take_append_cons_drop, if_pos (show i < (a :: cs).length by simpa using h)]
  simp
theorem cut_nil : cut [] 0 0 = some [] := rfl
theorem paste_exw {a b b2 : SV} {cs ds : List SV} (h : ds.length + 1 = cs.length) : paste (a :: cs) 0 (b :: b2 :: ds) = b :: b2 :: ds := by
  rw [paste_def]
  rw [List.drop_eq_nil_of_le (by simp; omega)]
  simp
theorem cut_ex {a : SV} {cs : List SV} {off n : Nat} (h : off + n ≤ cs.length + 1) : cut (a :: cs) off n = some (((a :: cs).drop off).take n) := by
  rw [cut_def]; rw [if_pos (by simpa using h)]
theorem Int_toNat_cast (n : Nat) : (n : Int).toNat = n := rfl
/-- All that steps come to, as rules to rewrite by. -/
def evs := PLift.up <|
  And.intro @Int.cast_ofNat_Int <| And.intro Bool.not_true <| And.intro Bool.not_false <| And.intro @Int.ofNat_lt <| And.intro @Int.ofNat_le <| And.intro Int.natCast_nonneg <| And.intro decide_true <| And.intro decide_false <| And.intro Bool.false_eq_true <| And.intro @List.length_cons.{0} <| And.intro @List.length_nil.{0} <| And.intro @List.drop_succ_cons.{0} <| And.intro @List.drop_zero.{0} <| And.intro @List.take_succ_cons.{0} <| And.intro @List.take_zero.{0} <| And.intro @List.drop_nil.{0} <| And.intro @List.take_nil.{0} <|
  And.intro @List.cons_append.{0} <| And.intro @List.nil_append.{0} <| And.intro @List.append_nil.{0} <| And.intro @List.map_cons.{0,0} <| And.intro @List.map_nil.{0,0} <| And.intro @List.length_append.{0} <|
  And.intro @Nat.add_zero <| And.intro @Nat.zero_add <| And.intro @Nat.mul_one <| And.intro @Nat.one_mul <| And.intro @Nat.zero_mul <| And.intro @Nat.zero_le <| And.intro @Nat.sub_zero <| And.intro @Nat.le_refl <|
  And.intro @and_self <| And.intro @and_true <| And.intro @true_and <| And.intro Int_toNat_cast <| And.intro @paste_ex <| And.intro cut_nil <| And.intro @paste_exw <| And.intro @cut_ex <| And.intro @List.set_cons_zero.{0} <| And.intro @List.set_cons_succ.{0} <| And.intro @Int.natCast_zero <| And.intro @Int.le_refl <|
  And.intro (fun (t : Tr SV) (d : Nat) (v : SV) => (@_root_.id (putD t (some d) v = t.set d v) rfl)) <|
  And.intro (fun (t : Tr SV) (v : SV) => (@_root_.id (putD t none v = t) rfl)) <|
  And.intro getT_set <|
  And.intro (fun (t : Tr SV) (n : Nat) => (@_root_.id (Opd.ev t (.t n) = getT t n) rfl)) <|
  And.intro (fun (t : Tr SV) (v : SV) => (@_root_.id (Opd.ev t (.k v) = v) rfl)) <|
  And.intro fill_cons <| And.intro fill_nil <|
  And.intro cellsOf_push <|  And.intro cellsOf_setg <| And.intro (fun (cs : List SV) => (@_root_.id (obCells (.cells cs) = some cs) rfl)) <| And.intro (@_root_.id (obCells .dead = none) rfl) <| And.intro cellsOf_pushl <| And.intro ne01 <| And.intro ne02 <| And.intro ne03 <| And.intro ne10 <| And.intro ne20 <| And.intro ne30 <| And.intro ne12 <| And.intro ne13 <| And.intro ne21 <| And.intro ne23 <| And.intro ne31 <| And.intro ne32 <| And.intro add11 <| And.intro add21 <| And.intro add31 <| And.intro @next_push <| And.intro @next_set <| And.intro next_empty <| And.intro cellsOf_empty <|
  And.intro (fun (a : Option SV) (f : SV → Option SV) (v : SV) => (@_root_.id ((some v).bind f = f v) rfl)) <|
  And.intro (fun (α β : Type) (f : α → Option β) (v : α) => (@_root_.id ((some v).bind f = f v) rfl)) <|
  And.intro (fun (α β : Type) (f : α → β) (v : α) => (@_root_.id ((some v).map f = some (f v)) rfl)) <|
  And.intro (fun (σ : St) (ag : Bool) (n id off : Nat) => (@_root_.id (loadSV σ ag n (.ptr id off) = (cellsOf σ id).bind fun cs => (cut cs off n).bind (unflat ag)) rfl)) <|
  And.intro (fun (σ : St) (ag : Bool) (n off : Nat) (cs : List SV) => (@_root_.id (loadSV σ ag n (.iptr cs off) = (cut cs off n).bind (unflat ag)) rfl)) <|
  And.intro (fun (x : SV) => (@_root_.id (unflat false [x] = some x) rfl)) <|
  And.intro (fun (x : List SV) => (@_root_.id (unflat true x = some (.agg x)) rfl)) <|
  And.intro (fun (σ : St) => (@_root_.id (rowSV σ (.sc .nilsl) = some []) rfl)) <|
  And.intro (fun (σ : St) (a b : Nat) (c : List SV) => (@_root_.id (rowSV σ (.lst a b c) = some c) rfl)) <|
  And.intro (fun (σ : St) (id off len sz : Nat) => (@_root_.id (rowSV σ (.sl id off len sz) = (cellsOf σ id).bind fun cs => cut cs off (len * sz)) rfl)) <|
  And.intro (@_root_.id (lenSV (.sc .nilsl) = some 0) rfl) <|
  And.intro (fun (a b : Nat) (c : List SV) => (@_root_.id (lenSV (.lst a b c) = some a) rfl)) <|
  And.intro (fun (id off len sz : Nat) => (@_root_.id (lenSV (.sl id off len sz) = some len) rfl)) <|
  And.intro (fun (t : Tr SV) (cs : List SV) => (@_root_.id (fillParts t cs [] = some cs) rfl)) <|
  And.intro (fun (k : IntKind) (n : Int) => (@_root_.id (intOf (.sc (.int k n)) = some n) rfl)) <|
  And.intro (fun (s : Sc) => (@_root_.id ((SV.sc s).flat = [.sc s]) rfl)) <|
  And.intro (fun (cs : List SV) => (@_root_.id ((SV.agg cs).flat = cs) rfl)) <|
  And.intro (fun (a b : Nat) (c : List SV) => (@_root_.id ((SV.lst a b c).flat = [.lst a b c]) rfl)) <|
  And.intro (fun (a b c d : Nat) => (@_root_.id ((SV.sl a b c d).flat = [.sl a b c d]) rfl)) <|
  And.intro (fun (a b : Nat) => (@_root_.id ((SV.ptr a b).flat = [.ptr a b]) rfl)) <|
  And.intro (fun (a : Nat) (b c : List SV) => (@_root_.id ((SV.fn a b c).flat = [.fn a b c]) rfl)) <|
  And.intro (fun (a : Nat) => (@_root_.id ((SV.mp a).flat = [.mp a]) rfl)) <|
  And.intro (fun (k : IntKind) (n : Int) => (@_root_.id ((SV.sc (.int k n)).lay = true) rfl)) <|
  And.intro (fun (b : Bool) => (@_root_.id ((SV.sc (.bool b)).lay = true) rfl)) <|
  And.intro (@_root_.id ((SV.sc .nilsl).lay = true) rfl) <| And.intro (@_root_.id ((SV.sc .nilmap).lay = true) rfl) <| And.intro (@_root_.id ((SV.sc .nilptr).lay = true) rfl) <| And.intro (@_root_.id ((SV.sc .nilfn).lay = true) rfl) <|
  And.intro (fun (cs : List SV) => (@_root_.id ((SV.agg cs).lay = true) rfl)) <|
  And.intro (fun (a b : Nat) (c : List SV) => (@_root_.id ((SV.lst a b c).lay = true) rfl)) <|
  And.intro (fun (a b c d : Nat) => (@_root_.id ((SV.sl a b c d).lay = true) rfl)) <|
  And.intro (fun (a b : Nat) => (@_root_.id ((SV.ptr a b).lay = true) rfl)) <|
  And.intro (fun (a : Nat) (b c : List SV) => (@_root_.id ((SV.fn a b c).lay = true) rfl)) <|
  And.intro (fun (a : Nat) => (@_root_.id ((SV.mp a).lay = true) rfl)) <|
  And.intro (fun (k : IntKind) (n : Int) => (@_root_.id ((SV.sc (.int k n)).one = true) rfl)) <|
  And.intro (fun (b : Bool) => (@_root_.id ((SV.sc (.bool b)).one = true) rfl)) <|
  And.intro (@_root_.id ((SV.sc .nilsl).one = true) rfl) <|
  And.intro (fun (a b : Nat) (c : List SV) => (@_root_.id ((SV.lst a b c).one = true) rfl)) <|
  And.intro (fun (a b c d : Nat) => (@_root_.id ((SV.sl a b c d).one = true) rfl)) <|
  And.intro (fun (a b : Nat) => (@_root_.id ((SV.ptr a b).one = true) rfl)) <|
  And.intro (fun (a : Nat) (b c : List SV) => (@_root_.id ((SV.fn a b c).one = true) rfl)) <|
  And.intro (fun (a : Nat) => (@_root_.id ((SV.mp a).one = true) rfl)) <|
  And.intro (fun (n : Int) => (@_root_.id (SV.int n = .sc (.int .i64 n)) rfl)) <|
  And.intro (@_root_.id (SV.undef = .sc .undef) rfl) <| And.intro (fun (n : Bool) => (@_root_.id (SV.bool n = .sc (.bool n)) rfl)) <|
  And.intro (fun (α : Type) (a b : α) => (@_root_.id ((bif true then a else b) = a) rfl)) <|
  (fun (α : Type) (a b : α) => (@_root_.id ((bif false then a else b) = b) rfl))
theorem ev : type_of% evs.down := evs.down

/-! ### Steps -/
section
variable {E : Env} {t : Tr SV} {σ : St} {QS : Tr SV → St → Prop} {Q : Ex → Tr SV → St → Prop}
/-- Something is told, and what follows holds of it. -/
def Hold (x : Option (SV × St)) (K : SV → St → Prop) : Prop := ∃ v σ, x = some (v, σ) ∧ K v σ
theorem Hold_some {v : SV} {σ : St} {K : SV → St → Prop} (h : K v σ) : Hold (some (v, σ)) K := ⟨v, σ, rfl, h⟩
def Hold1 (x : Option SV) (K : SV → Prop) : Prop := ∃ v, x = some v ∧ K v
theorem Hold1_some {v : SV} {K : SV → Prop} (h : K v) : Hold1 (some v) K := ⟨v, rfl, h⟩
theorem Hold1_of {x : Option SV} {K : SV → Prop} (h : Hold1 x K) : ∃ v, x = some v ∧ K v := h
theorem st_plain {d : Nat} {op : SOp} {ss : List Step} (hop : isCall op = false) (h : Hold (sop op t σ) (fun v σ1 => WPS E ss (t.set d v) σ1 QS)) : WPS E (⟨some d, none, op, []⟩ :: ss) t σ QS := by
  obtain ⟨v, σ1, h1, h2⟩ := h
  exact (WPS_pure hop h1).2 h2
theorem st_plain0 {op : SOp} {ss : List Step} (hop : isCall op = false) (h : Hold (sop op t σ) (fun _ σ1 => WPS E ss t σ1 QS)) : WPS E (⟨none, none, op, []⟩ :: ss) t σ QS := by
  obtain ⟨v, σ1, h1, h2⟩ := h
  exact (WPS_pure hop h1).2 h2
theorem st_re {d : Nat} {op : SOp} {re : List (Nat × Option (Nat × Bool) × SOp)} {ss : List Step} (hop : isCall op = false) (h : Hold (sop op t σ) (fun v σ1 => recheck t σ1 re = true ∧ WPS E ss (t.set d v) σ1 QS)) : WPS E (⟨some d, none, op, re⟩ :: ss) t σ QS := by
  obtain ⟨v, σ1, h1, h2, h3⟩ := h
  exact WPS_step (s := ⟨some d, none, op, re⟩) hop rfl h1 h2 h3
theorem st_re0 {op : SOp} {re : List (Nat × Option (Nat × Bool) × SOp)} {ss : List Step} (hop : isCall op = false) (h : Hold (sop op t σ) (fun _ σ1 => recheck t σ1 re = true ∧ WPS E ss t σ1 QS)) : WPS E (⟨none, none, op, re⟩ :: ss) t σ QS := by
  obtain ⟨v, σ1, h1, h2, h3⟩ := h
  exact WPS_step (s := ⟨none, none, op, re⟩) hop rfl h1 h2 h3
theorem st_true {d : Nat} {g : Nat} {b : Bool} {op : SOp} {ss : List Step} (hop : isCall op = false) (hg : getT t g = .sc (.bool b)) (h : Hold (sop op t σ) (fun v σ1 => WPS E ss (t.set d v) σ1 QS)) : WPS E (⟨some d, some (g, b), op, []⟩ :: ss) t σ QS := by
  obtain ⟨v, σ1, h1, h2⟩ := h
  exact WPS_step (s := ⟨some d, some (g, b), op, []⟩) hop (by simp [wantedS, hg]) h1 rfl h2
theorem st_false {d : Nat} {g : Nat} {b : Bool} {op : SOp} {re : List (Nat × Option (Nat × Bool) × SOp)} {ss : List Step} (hg : getT t g = .sc (.bool (!b))) (h : WPS E ss (t.set d .undef) σ QS) : WPS E (⟨some d, some (g, b), op, re⟩ :: ss) t σ QS :=
  (WPS_skip (s := ⟨some d, some (g, b), op, re⟩) (by simp [wantedS, hg])).2 h
theorem st_undef {d : Nat} {g : Nat} {b : Bool} {op : SOp} {re : List (Nat × Option (Nat × Bool) × SOp)} {ss : List Step} (hg : getT t g = .sc .undef) (h : WPS E ss (t.set d .undef) σ QS) : WPS E (⟨some d, some (g, b), op, re⟩ :: ss) t σ QS :=
  (WPS_skip (s := ⟨some d, some (g, b), op, re⟩) (by simp [wantedS, hg])).2 h
/-! Each step asks for one value: an operation's, a guard's, a condition's. -/
def HoldV (v : SV) (K : SV → Prop) : Prop := K v
def HoldB (x : Bool) (P : Prop) : Prop := x = true ∧ P
theorem HB_nil {P : Prop} (h : P) : HoldB (recheck t σ []) P := ⟨rfl, h⟩
theorem HB_true {P : Prop} (h : P) : HoldB true P := ⟨rfl, h⟩
def GK (b : Bool) (yes no : Prop) (v : SV) : Prop := match v with
  | .sc (.bool c) => if c = b then yes else no
  | .sc .undef => no
  | _ => False
def CK (yes no : Prop) (v : SV) : Prop := match v with
  | .sc (.bool true) => yes
  | .sc (.bool false) => no
  | _ => False
section
variable {yes no : Prop}
theorem GK_tt (h : yes) : HoldV (.sc (.bool true)) (GK true yes no) := h
theorem GK_ff (h : yes) : HoldV (.sc (.bool false)) (GK false yes no) := h
theorem GK_tf (h : no) : HoldV (.sc (.bool true)) (GK false yes no) := h
theorem GK_ft (h : no) : HoldV (.sc (.bool false)) (GK true yes no) := h
theorem GK_u {b : Bool} (h : no) : HoldV (.sc .undef) (GK b yes no) := h
theorem CK_t (h : yes) : HoldV (.sc (.bool true)) (CK yes no) := h
theorem CK_f (h : no) : HoldV (.sc (.bool false)) (CK yes no) := h
end
theorem not_call {op : SOp} {r : SV × St} (h : sop op t σ = some r) : isCall op = false := by
  cases op <;> first | rfl | (simp [sop] at h)
theorem sr_plain {d : Nat} {op : SOp} {re : List (Nat × Option (Nat × Bool) × SOp)} {ss : List Step} (h : Hold (sop op t σ) (fun v σ1 => HoldB (recheck t σ1 re) (WPS E ss (t.set d v) σ1 QS))) : WPS E (⟨some d, none, op, re⟩ :: ss) t σ QS := st_re (by obtain ⟨v, σ1, h1, _⟩ := h; exact not_call h1) h
theorem sr_plain0 {op : SOp} {re : List (Nat × Option (Nat × Bool) × SOp)} {ss : List Step} (h : Hold (sop op t σ) (fun _ σ1 => HoldB (recheck t σ1 re) (WPS E ss t σ1 QS))) : WPS E (⟨none, none, op, re⟩ :: ss) t σ QS := st_re0 (by obtain ⟨v, σ1, h1, _⟩ := h; exact not_call h1) h
theorem sr_guard {d : Nat} {g : Nat} {b : Bool} {op : SOp} {re : List (Nat × Option (Nat × Bool) × SOp)} {ss : List Step} (h0 : HoldV (getT t g) (GK b (WPS E (⟨some d, none, op, re⟩ :: ss) t σ QS) (WPS E ss (t.set d .undef) σ QS))) : WPS E (⟨some d, some (g, b), op, re⟩ :: ss) t σ QS := by
  have h1 : GK b _ _ (getT t g) := h0
  clear h0
  unfold GK at h1
  split at h1
  · rename_i c hg
    split at h1
    · rename_i e
      subst e
      obtain ⟨n, t', σ', h2, k⟩ := h1
      cases n with
      | zero => simp [steps] at h2
      | succ n =>
        refine ⟨n + 1, t', σ', ?_, k⟩
        rw [steps_cons] at h2 ⊢
        rw [show wantedS t (some (g, c)) = some true by simp [wantedS, hg]]
        exact h2
    · rename_i e
      exact (WPS_skip (s := ⟨some d, some (g, b), op, re⟩) (by simp [wantedS, hg, e])).2 h1
  · rename_i hg
    exact st_undef hg h1
  · exact h1.elim
theorem sr_cond {c : Opd} {a b : SC} (h0 : HoldV (c.ev t) (CK (WP E a t σ Q) (WP E b t σ Q))) : WP E (.cond c a b) t σ Q := by
  have h1 : CK _ _ (c.ev t) := h0
  clear h0
  unfold CK at h1
  split at h1
  · rename_i hc; exact (WP_cond hc).2 h1
  · rename_i hc; exact (WP_cond hc).2 h1
  · exact h1.elim
/-- A call. -/
theorem st_call {d : Option Nat} {g : Option (Nat × Bool)} {re : List (Nat × Option (Nat × Bool) × SOp)} {f : Opd} {args : List Opd} {ss : List Step} {n : Nat} {first cap : List SV} {vs : List SV} (hw : wantedS t g = some true) (hf : f.ev t = .fn n first cap) (ha : first ++ args.map (·.ev t) ++ cap = vs)
    (h : WPF E n vs σ (fun v σ1 => recheck t σ1 re = true ∧ WPS E ss (putD t d v) σ1 QS)) : WPS E (⟨d, g, .call f args, re⟩ :: ss) t σ QS := by
  refine WPS_call hw ?_
  rw [hf]
  refine WPC_fn ?_
  rw [ha]
  exact h
/-- A call of a function that is known, of one that comes as a value. -/
theorem st_callf {d : Option Nat} {g : Option (Nat × Bool)} {re : List (Nat × Option (Nat × Bool) × SOp)} {f : Opd} {args : List Opd} {ss : List Step} {n : Nat} {vs : List SV} (hw : wantedS t g = some true) (hf : f.ev t = .fn n [] []) (ha : args.map (·.ev t) = vs)
    (h : WPF E n vs σ (fun v σ1 => recheck t σ1 re = true ∧ WPS E ss (putD t d v) σ1 QS)) : WPS E (⟨d, g, .call f args, re⟩ :: ss) t σ QS :=
  st_call hw hf (by rw [List.nil_append, List.append_nil]; exact ha) h
theorem st_callv {d : Option Nat} {g : Option (Nat × Bool)} {re : List (Nat × Option (Nat × Bool) × SOp)} {f : Opd} {args : List Opd} {ss : List Step} {fv : SV} {vs : List SV} (hw : wantedS t g = some true) (hf : f.ev t = fv) (ha : args.map (·.ev t) = vs)
    (h : WPC E fv vs σ (fun v σ1 => recheck t σ1 re = true ∧ WPS E ss (putD t d v) σ1 QS)) : WPS E (⟨d, g, .call f args, re⟩ :: ss) t σ QS := by
  refine WPS_call hw ?_
  rw [hf, ha]
  exact h
/-- A call of a function that is taken as told: its arguments without places, or its result without reference. -/
theorem st_tell {m : Nat} {d : Option Nat} {g : Option (Nat × Bool)} {re : List (Nat × Option (Nat × Bool) × SOp)} {n : Nat} {args : List Opd} {ss : List Step} {vs pa : List SV} {r : SV} (h : Tells n pa r) (hk : ∃ k, LV.get n = some k ∧ k < m) (hw : wantedS t g = some true) (ha : args.map (·.ev t) = vs)
    (hz : mapO (frz σ 20) vs = some pa) (hp : (pures vs || r.flat0) = true) (hre : recheck t σ re = true) (q : WPS (EV m) ss (putD t d r) σ QS) : WPS (EV m) (⟨d, g, .call (.k (.fn n [] [])) args, re⟩ :: ss) t σ QS := by
  refine st_call (vs := vs) hw rfl (by rw [List.nil_append, List.append_nil]; exact ha) ?_
  exact WPF_tells h hk hz hp ⟨hre, q⟩
/-- The same, where the result refers to nothing. -/
theorem st_tellz {m : Nat} {d : Option Nat} {g : Option (Nat × Bool)} {re : List (Nat × Option (Nat × Bool) × SOp)} {n : Nat} {args : List Opd} {ss : List Step} {vs pa : List SV} {r : SV} (h : Tells n pa r) (hk : ∃ k, LV.get n = some k ∧ k < m) (hw : wantedS t g = some true) (ha : args.map (·.ev t) = vs)
    (hz : mapO (frz σ 20) vs = some pa) (hp : r.flat0 = true) (hre : recheck t σ re = true) (q : WPS (EV m) ss (putD t d r) σ QS) : WPS (EV m) (⟨d, g, .call (.k (.fn n [] [])) args, re⟩ :: ss) t σ QS :=
  st_tell h hk hw ha hz (by rw [hp, Bool.or_true]) hre q
/-- The same, where the arguments are without places. -/
theorem st_tellp {m : Nat} {d : Option Nat} {g : Option (Nat × Bool)} {re : List (Nat × Option (Nat × Bool) × SOp)} {n : Nat} {args : List Opd} {ss : List Step} {vs : List SV} {r : SV} (h : Tells n vs r) (hk : ∃ k, LV.get n = some k ∧ k < m) (hw : wantedS t g = some true) (ha : args.map (·.ev t) = vs)
    (hp : pures vs = true) (hre : recheck t σ re = true) (q : WPS (EV m) ss (putD t d r) σ QS) : WPS (EV m) (⟨d, g, .call (.k (.fn n [] [])) args, re⟩ :: ss) t σ QS :=
  st_tell h hk hw ha (mapO_pures hp) (by rw [hp]; rfl) hre q
theorem st_ifT {c : Opd} {a b : SC} (hc : c.ev t = .sc (.bool true)) (h : WP E a t σ Q) : WP E (.cond c a b) t σ Q := (WP_cond hc).2 h
theorem st_ifF {c : Opd} {a b : SC} (hc : c.ev t = .sc (.bool false)) (h : WP E b t σ Q) : WP E (.cond c a b) t σ Q := (WP_cond hc).2 h
theorem st_if {c : Opd} {a b : SC} {x : Bool} (hc : c.ev t = .sc (.bool x)) (h : WP E (if x = true then a else b) t σ Q) : WP E (.cond c a b) t σ Q := (WP_cond hc).2 h
def isLoop : SC → Bool
  | .loop _ => true
  | _ => false
theorem st_block {i : Nat} {b : SC} (_ : isLoop b = false) (h : WP E b t σ (InBlock i Q)) : WP E (.block i b) t σ Q := WP_block.2 h
theorem IB_brk {id i : Nat} (h : Nat.beq i id = true) (q : Q .normal t σ) : InBlock id Q (.exit i) t σ := by
  show Q (bif Nat.beq i id then .normal else .exit i) t σ
  rw [h]; exact q
theorem IB_exit {id i : Nat} (h : Nat.beq i id = false) (q : Q (.exit i) t σ) : InBlock id Q (.exit i) t σ := by
  show Q (bif Nat.beq i id then .normal else .exit i) t σ
  rw [h]; exact q
/-- What follows the body of a loop that stands in a block: the next round, the end. -/
def LoopPost (a : Nat) (A : Tr SV → St → Prop) (Q : Ex → Tr SV → St → Prop) : Ex → Tr SV → St → Prop
  | .normal, t, σ => A t σ
  | .ret, t, σ => Q .ret t σ
  | .exit j, t, σ => bif Nat.beq j a then Q .normal t σ else Q (.exit j) t σ
section
variable {a b j : Nat} {A : Tr SV → St → Prop}
theorem LP_next : LoopPost a A Q .normal t σ ↔ A t σ := Iff.rfl
theorem LP_ret : LoopPost a A Q .ret t σ ↔ Q .ret t σ := Iff.rfl
theorem LP_brk (h : Nat.beq j a = true) (q : Q .normal t σ) : LoopPost a A Q (.exit j) t σ := by
  show bif Nat.beq j a then _ else _
  rw [h]; exact q
theorem LP_exit (h : Nat.beq j a = false) (q : Q (.exit j) t σ) : LoopPost a A Q (.exit j) t σ := by
  show bif Nat.beq j a then _ else _
  rw [h]; exact q
theorem WP_blockloop {c : SC} (I : Nat → Tr SV → St → Prop) {k0 : Nat} (h0 : I k0 t σ) (step : ∀ k t σ, I k t σ → WP E c t σ (LoopPost a (fun t1 σ1 => ∃ k', k' < k ∧ I k' t1 σ1) Q)) : WP E (.block a (.loop c)) t σ Q := by
  refine WP_block.2 (WP_loop_inv I (fun k t σ h => (step k t σ h).mono fun ex t1 σ1 q => ?_) h0)
  cases ex with
  | normal => exact q
  | ret => exact q
  | exit j =>
    have q : bif Nat.beq j a then Q .normal t1 σ1 else Q (.exit j) t1 σ1 := q
    show Q (bif Nat.beq j a then .normal else .exit j) t1 σ1
    revert q
    cases Nat.beq j a <;> exact id
/-- The same for a range over a row, over an array. -/
def RangePost (a b : Nat) (A : Tr SV → St → Prop) (Q : Ex → Tr SV → St → Prop) : Ex → Tr SV → St → Prop
  | .normal, t, σ => A t σ
  | .ret, t, σ => Q .ret t σ
  | .exit j, t, σ => bif Nat.beq j b then A t σ else bif Nat.beq j a then Q .normal t σ else Q (.exit j) t σ
theorem RP_next : RangePost a b A Q .normal t σ ↔ A t σ := Iff.rfl
theorem RP_ret : RangePost a b A Q .ret t σ ↔ Q .ret t σ := Iff.rfl
theorem RP_cont : RangePost a b A Q (.exit b) t σ ↔ A t σ := by
  show (bif Nat.beq b b then _ else _) ↔ _
  rw [Nat.beq_refl]; exact Iff.rfl
theorem RP_brk (h : Nat.beq j b = false) (h2 : Nat.beq j a = true) (q : Q .normal t σ) : RangePost a b A Q (.exit j) t σ := by
  show bif Nat.beq j b then _ else bif Nat.beq j a then _ else _
  rw [h, h2]; exact q
theorem RP_exit (h : Nat.beq j b = false) (h2 : Nat.beq j a = false) (q : Q (.exit j) t σ) : RangePost a b A Q (.exit j) t σ := by
  show bif Nat.beq j b then _ else bif Nat.beq j a then _ else _
  rw [h, h2]; exact q
theorem i64_in (n : Int) (h0 : -9223372036854775808 ≤ n) (h1 : n ≤ 9223372036854775807) : IntKind.i64.wrap n = n := by rw [IntKind.wrap_i64]; omega
theorem WP_range {i n c s tg nn : Nat} {body : SC} {N : Nat} (I : Nat → Tr SV → St → Prop) (hN : N ≤ 2 ^ 62) (hn : getT t n = .sc (.int .i64 N)) (hi : getT t i = .sc (.int .i64 0)) (hne : n ≠ c ∧ i ≠ c ∧ n ≠ s ∧ n ≠ i ∧ i ≠ s)
    (h0 : I 0 t σ)
    (step : ∀ k t σ, k < N → getT t n = .sc (.int .i64 N) → getT t i = .sc (.int .i64 k) → I k t σ → WP E body (t.set c (.sc (.bool true))) σ
      (RangePost a b (fun t1 σ1 => getT t1 n = .sc (.int .i64 N) ∧ getT t1 i = .sc (.int .i64 k) ∧ ∀ v w, I (k + 1) ((t1.set s v).set i w) σ1) Q))
    (done : ∀ t σ, I N t σ → Q .normal (t.set c (.sc (.bool false))) σ) :
    WP E (.block a (.loop (.seq (.reg [⟨some c, none, .bin tg nn .lss (.t i) (.t n), []⟩]) (.seq (.cond (.t c) .skip (.exit a)) (.seq (.block b body) (.reg [⟨some s, none, .bin tg nn .add (.t i) (.k (.sc (.int .i64 1))), []⟩, ⟨some i, none, .mv (.t s), []⟩])))))) t σ Q := by
  refine WP_blockloop (fun m t σ => ∃ k, m = N - k ∧ k ≤ N ∧ getT t n = .sc (.int .i64 N) ∧ getT t i = .sc (.int .i64 k) ∧ I k t σ) ⟨0, rfl, Nat.zero_le _, hn, hi, h0⟩ ?_
  rintro m t σ ⟨k, rfl, hk, h1, h2, h3⟩
  refine WP_seq.2 (WP_reg.2 (st_plain rfl ?_))
  have e : sop (.bin tg nn .lss (.t i) (.t n)) t σ = some (.sc (.bool (decide ((k : Int) < (N : Int)))), σ) := by
    simp only [sop, Opd.ev, h1, h2, binSV, intBin, reduceIte, Option.map_some]
  rw [e]
  refine Hold_some (WPS_nil.2 (Then_normal.2 (WP_seq.2 ?_)))
  by_cases hlt : k < N
  · have hd : decide ((k : Int) < (N : Int)) = true := by simp; omega
    rw [hd]
    refine st_ifT (by simp only [Opd.ev, getT_set, reduceIte]) (WP_skip.2 (Then_normal.2 (WP_seq.2 (WP_block.2 ((step k t σ hlt h1 h2 h3).mono fun ex t1 σ1 q => ?_)))))
    have next : ∀ t1 σ1, (getT t1 n = .sc (.int .i64 N) ∧ getT t1 i = .sc (.int .i64 k) ∧ ∀ v w, I (k + 1) ((t1.set s v).set i w) σ1) →
        WP E (.reg [⟨some s, none, .bin tg nn .add (.t i) (.k (.sc (.int .i64 1))), []⟩, ⟨some i, none, .mv (.t s), []⟩]) t1 σ1 (LoopPost a (fun t1 σ1 => ∃ k', k' < N - k ∧ ∃ k, k' = N - k ∧ k ≤ N ∧ getT t1 n = .sc (.int .i64 N) ∧ getT t1 i = .sc (.int .i64 k) ∧ I k t1 σ1) Q) := by
      rintro t1 σ1 ⟨g1, g2, g3⟩
      refine WP_reg.2 (st_plain rfl ?_)
      have e : sop (.bin tg nn .add (.t i) (.k (.sc (.int .i64 1)))) t1 σ1 = some (.sc (.int .i64 ((k + 1 : Nat) : Int)), σ1) := by
        simp only [sop, Opd.ev, g2, binSV, intBin, reduceIte, Option.map_some]
        rw [i64_in _ (by omega) (by omega)]; rfl
      rw [e]
      refine Hold_some (st_plain rfl (Hold_some (WPS_nil.2 ⟨N - (k + 1), by omega, k + 1, rfl, by omega, ?_, ?_, ?_⟩)))
      · simp only [getT_set, if_neg hne.2.2.2.1, if_neg hne.2.2.1]; exact g1
      · simp only [getT_set, Opd.ev, reduceIte]
      · exact g3 _ _
    cases ex with
    | normal => exact next _ _ q
    | ret => exact q
    | exit j =>
      have q : bif Nat.beq j b then _ else bif Nat.beq j a then Q .normal t1 σ1 else Q (.exit j) t1 σ1 := q
      show Then _ _ (bif Nat.beq j b then .normal else .exit j) t1 σ1
      cases hb : Nat.beq j b
      · rw [hb] at q
        exact q
      · rw [hb] at q
        exact next _ _ q
  · have hd : decide ((k : Int) < (N : Int)) = false := by simp; omega
    rw [hd]
    have : k = N := by omega
    subst this
    refine st_ifF (by simp only [Opd.ev, getT_set, reduceIte]) (WP_exit.2 ?_)
    show bif Nat.beq a a then Q .normal (t.set c (.sc (.bool false))) σ else Q (.exit a) (t.set c (.sc (.bool false))) σ
    rw [Nat.beq_refl]; exact done t σ h3
end
theorem wantedS_none : wantedS t none = some true := rfl
theorem wantedS_some {g : Nat} {b : Bool} (h : getT t g = .sc (.bool b)) : wantedS t (some (g, b)) = some true := by simp [wantedS, h]
theorem recheck_nil : recheck t σ [] = true := rfl
end

mutual
theorem SV.same_self : ∀ v : SV, v.same v = true
  | .sc _ => by simp [SV.same]
  | .agg cs => by simp only [SV.same]; exact sames_self cs
  | .tup cs => by simp only [SV.same]; exact sames_self cs
  | .sl .. => by simp [SV.same]
  | .lst _ _ cs => by simp [SV.same, sames_self cs]
  | .ptr .. => by simp [SV.same]
  | .iptr cs _ => by simp [SV.same, sames_self cs]
  | .fn _ a b => by simp [SV.same, sames_self a, sames_self b]
  | .yld _ => by simp [SV.same]
  | .mp _ => by simp [SV.same]
theorem sames_self : ∀ l : List SV, sames l l = true
  | [] => rfl
  | c :: cs => by simp only [sames, SV.same_self c, sames_self cs, Bool.and_self]
end
/-! ### What a run takes by itself: heads (Nx), one value that is asked for (Ny), one that is told (Nz). -/
def Bi (b : Bool) (A B : Prop) : Prop := bif b then A else B
class Nx (P : Prop) (R : outParam Prop) : Prop where
  go : R → P
class Ny (P : Prop) (R : outParam Prop) : Prop where
  go : R → P
class Nz (P : Prop) (R : outParam Prop) : Prop where
  go : R → P
class NoLoop (b : SC) : Prop where
  it : isLoop b = false
section
variable {E : Env} {t : Tr SV} {σ : St} {QS : Tr SV → St → Prop} {Q : Ex → Tr SV → St → Prop}
instance {a b : SC} : NoLoop (.seq a b) := ⟨rfl⟩
instance {ss : List Step} : NoLoop (.reg ss) := ⟨rfl⟩
instance {i : Nat} {b : SC} : NoLoop (.block i b) := ⟨rfl⟩
instance {c : Opd} {a b : SC} : NoLoop (.cond c a b) := ⟨rfl⟩
instance {f : Opd} {ps : List Nat} {asg body : SC} : NoLoop (.rng f ps asg body) := ⟨rfl⟩
instance : NoLoop .skip := ⟨rfl⟩
instance : NoLoop .ret := ⟨rfl⟩
instance {i : Nat} : NoLoop (.exit i) := ⟨rfl⟩
instance {a b : SC} : Nx (WP E (.seq a b) t σ Q) (WP E a t σ (Then (fun t1 σ1 => WP E b t1 σ1 Q) Q)) := ⟨WP_seq.2⟩
instance {ss : List Step} : Nx (WP E (.reg ss) t σ Q) (WPS E ss t σ (fun t1 σ1 => Q .normal t1 σ1)) := ⟨WP_reg.2⟩
instance {i : Nat} {b : SC} [h : NoLoop b] : Nx (WP E (.block i b) t σ Q) (WP E b t σ (InBlock i Q)) := ⟨st_block h.it⟩
instance : Nx (WPS E [] t σ QS) (QS t σ) := ⟨WPS_nil.2⟩
instance {next : Tr SV → St → Prop} : Nx (Then next Q .normal t σ) (next t σ) := ⟨Then_normal.2⟩
instance {next : Tr SV → St → Prop} : Nx (Then next Q .ret t σ) (Q .ret t σ) := ⟨Then_ret.2⟩
instance {i : Nat} {next : Tr SV → St → Prop} : Nx (Then next Q (.exit i) t σ) (Q (.exit i) t σ) := ⟨Then_exit.2⟩
instance : Nx (WP E .skip t σ Q) (Q .normal t σ) := ⟨WP_skip.2⟩
instance : Nx (WP E .ret t σ Q) (Q .ret t σ) := ⟨WP_ret.2⟩
instance {i : Nat} : Nx (WP E (.exit i) t σ Q) (Q (.exit i) t σ) := ⟨WP_exit.2⟩
instance {i : Nat} : Nx (InBlock i Q .normal t σ) (Q .normal t σ) := ⟨InBlock_normal.2⟩
instance {i : Nat} : Nx (InBlock i Q .ret t σ) (Q .ret t σ) := ⟨InBlock_ret.2⟩
instance {rs : List RV} {Q : SV → St → Prop} : Nx (Ends rs Q .ret t σ) (∃ v, resultsSV t σ rs = some v ∧ Q v σ) := ⟨Ends_ret.2⟩
instance {rs : List RV} {Q : SV → St → Prop} : Nx (Ends rs Q .normal t σ) (∃ v, resultsSV t σ rs = some v ∧ Q v σ) := ⟨Ends_normal.2⟩
instance {a : Nat} {A : Tr SV → St → Prop} : Nx (LoopPost a A Q .normal t σ) (A t σ) := ⟨LP_next.2⟩
instance {a : Nat} {A : Tr SV → St → Prop} : Nx (LoopPost a A Q .ret t σ) (Q .ret t σ) := ⟨LP_ret.2⟩
instance {a b : Nat} {A : Tr SV → St → Prop} : Nx (RangePost a b A Q .normal t σ) (A t σ) := ⟨RP_next.2⟩
instance {a b : Nat} {A : Tr SV → St → Prop} : Nx (RangePost a b A Q .ret t σ) (Q .ret t σ) := ⟨RP_ret.2⟩
section
variable {L : Nat} {lp : Ob} {A : St → Prop} {Qs : Ex → St → Prop}
instance : Nx (BodyPost L lp A Qs .normal t σ) (σ.get L = some lp ∧ A σ) := ⟨BP_next.2⟩
instance : Nx (BodyPost L lp A Qs .ret t σ) (σ.get L = some lp ∧ Qs .ret σ) := ⟨BP_ret.2⟩
instance {i : Nat} : Nx (BodyPost L lp A Qs (.exit i) t σ) (σ.get L = some lp ∧ Qs (.exit i) σ) := ⟨BP_exit.2⟩
end
instance {P : Prop} : Nx (HoldB (recheck t σ []) P) P := ⟨HB_nil⟩
instance {d : Nat} {op : SOp} {re : List (Nat × Option (Nat × Bool) × SOp)} {ss : List Step} : Ny (WPS E (⟨some d, none, op, re⟩ :: ss) t σ QS) (Hold (sop op t σ) (fun v σ1 => HoldB (recheck t σ1 re) (WPS E ss (t.set d v) σ1 QS))) := ⟨sr_plain⟩
instance {op : SOp} {re : List (Nat × Option (Nat × Bool) × SOp)} {ss : List Step} : Ny (WPS E (⟨none, none, op, re⟩ :: ss) t σ QS) (Hold (sop op t σ) (fun _ σ1 => HoldB (recheck t σ1 re) (WPS E ss t σ1 QS))) := ⟨sr_plain0⟩
instance {d : Nat} {g : Nat} {b : Bool} {op : SOp} {re : List (Nat × Option (Nat × Bool) × SOp)} {ss : List Step} : Ny (WPS E (⟨some d, some (g, b), op, re⟩ :: ss) t σ QS) (HoldV (getT t g) (GK b (WPS E (⟨some d, none, op, re⟩ :: ss) t σ QS) (WPS E ss (t.set d .undef) σ QS))) := ⟨sr_guard⟩
instance {c : Opd} {a b : SC} : Ny (WP E (.cond c a b) t σ Q) (HoldV (c.ev t) (CK (WP E a t σ Q) (WP E b t σ Q))) := ⟨sr_cond⟩
instance {b : Bool} {P : Prop} : Ny (HoldB b P) (HoldB b P) := ⟨id⟩
instance {b : Bool} {P R : Prop} : Ny (Bi b P R) (Bi b P R) := ⟨id⟩
theorem beqN (i j : Nat) : (i == j) = Nat.beq i j := by
  cases h : Nat.beq i j with
  | true => rw [Nat.eq_of_beq_eq_true h]; simp
  | false => exact beq_eq_false_iff_ne.2 (Nat.ne_of_beq_eq_false h)
instance {id i : Nat} : Ny (InBlock id Q (.exit i) t σ) (Bi (i == id) (Q .normal t σ) (Q (.exit i) t σ)) := ⟨fun h => by
  have h : bif Nat.beq i id then Q .normal t σ else Q (.exit i) t σ := by rw [← beqN]; exact h
  show Q (bif Nat.beq i id then .normal else .exit i) t σ
  cases e : Nat.beq i id <;> rw [e] at h <;> exact h⟩
instance {a j : Nat} {A : Tr SV → St → Prop} : Ny (LoopPost a A Q (.exit j) t σ) (Bi (j == a) (Q .normal t σ) (Q (.exit j) t σ)) := ⟨fun h => by
  show bif Nat.beq j a then _ else _
  rw [← beqN]; exact h⟩
instance {a b j : Nat} {A : Tr SV → St → Prop} : Ny (RangePost a b A Q (.exit j) t σ) (Bi (j == b) (A t σ) (Bi (j == a) (Q .normal t σ) (Q (.exit j) t σ))) := ⟨fun h => by
  show bif Nat.beq j b then _ else bif Nat.beq j a then _ else _
  rw [← beqN, ← beqN]; exact h⟩
instance {v : SV} {K : SV → St → Prop} : Nz (Hold (some (v, σ)) K) (K v σ) := ⟨Hold_some⟩
section
variable {yes no : Prop}
instance : Nz (HoldV (.sc (.bool true)) (GK true yes no)) yes := ⟨GK_tt⟩
instance : Nz (HoldV (.sc (.bool false)) (GK false yes no)) yes := ⟨GK_ff⟩
instance : Nz (HoldV (.sc (.bool true)) (GK false yes no)) no := ⟨GK_tf⟩
instance : Nz (HoldV (.sc (.bool false)) (GK true yes no)) no := ⟨GK_ft⟩
instance {b : Bool} : Nz (HoldV (.sc .undef) (GK b yes no)) no := ⟨GK_u⟩
instance : Nz (HoldV (.sc (.bool true)) (CK yes no)) yes := ⟨CK_t⟩
instance : Nz (HoldV (.sc (.bool false)) (CK yes no)) no := ⟨CK_f⟩
instance : Nz (HoldB true yes) yes := ⟨HB_true⟩
instance : Nz (Bi true yes no) yes := ⟨fun h => h⟩
instance : Nz (Bi false yes no) no := ⟨fun h => h⟩
end
end
end Go.Proofs.Ytojjhcgbbmknmaa.Sh
