/- Several texts, merged: The words of contracts: what a function tells; values as the shadow has them; steps one by one. And more. -/
import Derived.Test.YtojjhcgbbmknmaaShLev
import Derived.Test.YtojjhcgbbmknmaaX6
import Derived.Laws.BitsLemmas

/- The words of contracts: what a function tells; values as the shadow has them; steps one by one. -/
namespace Go.Proofs.Ytojjhcgbbmknmaa.Sh
set_option linter.unusedSimpArgs false
set_option linter.unusedVariables false
open Go Go.Proofs

/-! ### Levels -/
noncomputable def EV (k : Nat) : Env := envAt FT.get LV.get BS k
theorem EV_fn {k f : Nat} {fn : SFun} (h : FT.get f = some fn) : (EV k).fn f = some fn := by
  unfold EV; rw [envAt_fn]; exact h
/-- What a function tells of values without places. -/
def Tells (f : Nat) (pa : List SV) (r : SV) : Prop := ∃ k, LV.get f = some k ∧ Told (EV k) f pa r
theorem told_fn {f k np nt : Nat} {rs : List RV} {body : SC} {pa : List SV} {σ : St} {Q : SV → St → Prop} (hk : LV.get f = some k) (hf : FT.get f = some ⟨np, nt, rs, body⟩) (hb : BS f = none) (hl : pa.length = np)
    (h : WP (EV k) body (Tr.fill .nil 0 pa) σ (Ends rs Q)) : WPF (EV k) f pa σ Q :=
  WPF_fn (fn := ⟨np, nt, rs, body⟩) (envAt_none hb (fun m e => by rw [hk] at e; cases e; exact Nat.le_refl _)) (EV_fn hf) hl h
theorem tells_fn {f k np nt : Nat} {rs : List RV} {body : SC} {pa : List SV} {r : SV} (hk : LV.get f = some k) (hf : FT.get f = some ⟨np, nt, rs, body⟩) (hb : BS f = none) (hl : pa.length = np)
    (h : WP (EV k) body (Tr.fill .nil 0 pa) St.empty (Ends rs (fun v σ => frz σ 20 v = some r))) : Tells f pa r := ⟨k, hk, told_fn hk hf hb hl h⟩
theorem inline_fn {f m np nt : Nat} {rs : List RV} {body : SC} {args : List SV} {σ : St} {Q : SV → St → Prop} (hk : LV.get f = none) (hf : FT.get f = some ⟨np, nt, rs, body⟩) (hb : BS f = none) (hl : args.length = np)
    (h : WP (EV m) body (Tr.fill .nil 0 args) σ (Ends rs Q)) : WPF (EV m) f args σ Q :=
  WPF_fn (fn := ⟨np, nt, rs, body⟩) (envAt_none hb (fun m e => by rw [hk] at e; cases e)) (EV_fn hf) hl h
theorem WPF_tells {f m : Nat} {args pa : List SV} {σ : St} {r : SV} {Q : SV → St → Prop} (h : Tells f pa r) (hk : ∃ k, LV.get f = some k ∧ k < m) (ha : mapO (frz σ 20) args = some pa) (hp : (pures args || r.flat0) = true) (q : Q r σ) : WPF (EV m) f args σ Q := by
  obtain ⟨k, h1, h2⟩ := h
  obtain ⟨k', h3, h4⟩ := hk
  rw [h1] at h3; cases h3
  exact WPF_told h1 h4 ha h2 hp q

/-! ### What stays -/
def Keeps (σ σ' : St) : Prop := σ.next ≤ σ'.next ∧ ∀ i, i < σ.next → σ'.get i = σ.get i
theorem Keeps.refl (σ : St) : Keeps σ σ := ⟨Nat.le_refl _, fun _ _ => rfl⟩
theorem Keeps.trans {a b c : St} (h : Keeps a b) (k : Keeps b c) : Keeps a c := ⟨Nat.le_trans h.1 k.1, fun i hi => (k.2 i (Nat.lt_of_lt_of_le hi h.1)).trans (h.2 i hi)⟩
theorem get_push_ne {σ : St} {o : Ob} {i : Nat} (h : i ≠ σ.next) : (σ.push o).get i = σ.get i := by
  show (Tr.set _ _ _).get i = _
  rw [Tr.get_set, if_neg h]; rfl
theorem get_push_eq {σ : St} {o : Ob} : (σ.push o).get σ.next = some o := by
  show (Tr.set _ _ _).get _ = _
  rw [Tr.get_set, if_pos rfl]
theorem get_set_ne {σ : St} {o : Ob} {i j : Nat} (h : i ≠ j) : (σ.set j o).get i = σ.get i := by
  show (Tr.set _ _ _).get i = _
  rw [Tr.get_set, if_neg h]; rfl
theorem get_set_eq {σ : St} {o : Ob} {j : Nat} : (σ.set j o).get j = some o := by
  show (Tr.set _ _ _).get _ = _
  rw [Tr.get_set, if_pos rfl]
theorem next_push {σ : St} {o : Ob} : (σ.push o).next = σ.next + 1 := rfl
theorem next_set {σ : St} {o : Ob} {j : Nat} : (σ.set j o).next = σ.next := rfl
theorem Keeps.push {σ σ' : St} (h : Keeps σ σ') (o : Ob) : Keeps σ (σ'.push o) := ⟨Nat.le_trans h.1 (by rw [next_push]; omega), fun i hi => by rw [get_push_ne (by have := h.1; omega)]; exact h.2 i hi⟩
theorem Keeps.set {σ σ' : St} (h : Keeps σ σ') {j : Nat} (o : Ob) (hj : σ.next ≤ j) : Keeps σ (σ'.set j o) := ⟨h.1, fun i hi => by rw [get_set_ne (by omega)]; exact h.2 i hi⟩
theorem Keeps.cells {σ σ' : St} (h : Keeps σ σ') {i : Nat} (hi : i < σ.next) : cellsOf σ' i = cellsOf σ i := by
  unfold cellsOf; rw [h.2 i hi]
theorem cellsOf_eq {σ : St} {id : Nat} {cs : List SV} (h : σ.get id = some (.cells cs)) : cellsOf σ id = some cs := by unfold cellsOf; rw [h]

theorem get_of_cells {σ : St} {id : Nat} {cs : List SV} (h : cellsOf σ id = some cs) : σ.get id = some (.cells cs) := by
  unfold cellsOf at h
  split at h <;> first | (cases h; assumption) | cases h
theorem get_set_same {σ : St} {o : Ob} {i j : Nat} (h : i = j) : (σ.set j o).get i = some o := by subst h; exact get_set_eq
/-- How a round's body ends. -/
structure BodyPost (L : Nat) (lp : Ob) (A : St → Prop) (Qs : Ex → St → Prop) (ex : Ex) (t : Tr SV) (σ2 : St) : Prop where
  own : σ2.get L = some lp
  all : match ex with
    | .normal => A σ2
    | ex => Qs ex σ2
theorem BP_next {L : Nat} {lp : Ob} {A : St → Prop} {Qs : Ex → St → Prop} {t : Tr SV} {σ : St} : BodyPost L lp A Qs .normal t σ ↔ (σ.get L = some lp ∧ A σ) := ⟨fun h => ⟨h.1, h.2⟩, fun h => ⟨h.1, h.2⟩⟩
theorem BP_ret {L : Nat} {lp : Ob} {A : St → Prop} {Qs : Ex → St → Prop} {t : Tr SV} {σ : St} : BodyPost L lp A Qs .ret t σ ↔ (σ.get L = some lp ∧ Qs .ret σ) := ⟨fun h => ⟨h.1, h.2⟩, fun h => ⟨h.1, h.2⟩⟩
theorem BP_exit {L i : Nat} {lp : Ob} {A : St → Prop} {Qs : Ex → St → Prop} {t : Tr SV} {σ : St} : BodyPost L lp A Qs (.exit i) t σ ↔ (σ.get L = some lp ∧ Qs (.exit i) σ) := ⟨fun h => ⟨h.1, h.2⟩, fun h => ⟨h.1, h.2⟩⟩
/-! ### A state, cell by cell -/
theorem cellsOf_push (σ : St) (cs : List SV) (i : Nat) : cellsOf (σ.push (.cells cs)) i = if i = σ.next then some cs else cellsOf σ i := by
  by_cases h : i = σ.next
  · subst h; rw [if_pos rfl]; exact cellsOf_eq get_push_eq
  · rw [if_neg h]; unfold cellsOf; rw [get_push_ne h]
theorem cellsOf_set (σ : St) (j : Nat) (cs : List SV) (i : Nat) : cellsOf (σ.set j (.cells cs)) i = if i = j then some cs else cellsOf σ i := by
  by_cases h : i = j
  · subst h; rw [if_pos rfl]; exact cellsOf_eq get_set_eq
  · rw [if_neg h]; unfold cellsOf; rw [get_set_ne h]
theorem cellsOf_loop (σ : St) (j : Nat) (a : Tr SV) (b : List Nat) (c d : SC) (e : LoopState) (f : Option Jump) (i : Nat) : cellsOf (σ.set j (.loop a b c d e f)) i = if i = j then none else cellsOf σ i := by
  by_cases h : i = j
  · subst h; rw [if_pos rfl]; unfold cellsOf; rw [get_set_eq]
  · rw [if_neg h]; unfold cellsOf; rw [get_set_ne h]
theorem cellsOf_pushl (σ : St) (a : Tr SV) (b : List Nat) (c d : SC) (e : LoopState) (f : Option Jump) (i : Nat) : cellsOf (σ.push (.loop a b c d e f)) i = if i = σ.next then none else cellsOf σ i := by
  by_cases h : i = σ.next
  · subst h; rw [if_pos rfl]; unfold cellsOf; rw [get_push_eq]
  · rw [if_neg h]; unfold cellsOf; rw [get_push_ne h]
/-- The cells of a block's content. -/
def obCells : Ob → Option (List SV)
  | .cells cs => some cs
  | _ => none
theorem cellsOf_setg (σ : St) (j : Nat) (o : Ob) (i : Nat) : cellsOf (σ.set j o) i = if i = j then obCells o else cellsOf σ i := by
  by_cases h : i = j
  · subst h; rw [if_pos rfl]; unfold cellsOf; rw [get_set_eq]; cases o <;> rfl
  · rw [if_neg h]; unfold cellsOf; rw [get_set_ne h]
theorem ne01 (n : Nat) : (n = n + 1) = False := by simp
theorem ne02 (n : Nat) : (n = n + 2) = False := by simp
theorem ne03 (n : Nat) : (n = n + 3) = False := by simp
theorem ne10 (n : Nat) : (n + 1 = n) = False := by simp
theorem ne20 (n : Nat) : (n + 2 = n) = False := by simp
theorem ne30 (n : Nat) : (n + 3 = n) = False := by simp
theorem ne12 (n : Nat) : (n + 1 = n + 2) = False := by simp
theorem ne13 (n : Nat) : (n + 1 = n + 3) = False := by simp
theorem ne21 (n : Nat) : (n + 2 = n + 1) = False := by simp
theorem ne23 (n : Nat) : (n + 2 = n + 3) = False := by simp
theorem ne31 (n : Nat) : (n + 3 = n + 1) = False := by simp
theorem ne32 (n : Nat) : (n + 3 = n + 2) = False := by simp
theorem add11 (n : Nat) : n + 1 + 1 = n + 2 := rfl
theorem add21 (n : Nat) : n + 2 + 1 = n + 3 := rfl
theorem add31 (n : Nat) : n + 3 + 1 = n + 4 := rfl
theorem cellsOf_dead (σ : St) (j : Nat) (i : Nat) : cellsOf (σ.set j .dead) i = if i = j then none else cellsOf σ i := by
  by_cases h : i = j
  · subst h; rw [if_pos rfl]; unfold cellsOf; rw [get_set_eq]
  · rw [if_neg h]; unfold cellsOf; rw [get_set_ne h]
theorem nx_push {σ : St} {o : Ob} : (σ.push o).next = σ.next + 1 := by cases σ; cases o <;> rfl
theorem nx_set {σ : St} {o : Ob} {j : Nat} : (σ.set j o).next = σ.next := by cases σ; cases o <;> rfl
theorem cells_push_ne {σ : St} {o : Ob} {i : Nat} (h : i ≠ σ.next) : cellsOf (σ.push o) i = cellsOf σ i := by unfold cellsOf; rw [get_push_ne h]
theorem cells_push_eq {σ : St} {cs : List SV} {i : Nat} (h : i = σ.next) : cellsOf (σ.push (.cells cs)) i = some cs := by subst h; exact cellsOf_eq get_push_eq
theorem cells_set_ne {σ : St} {o : Ob} {i j : Nat} (h : i ≠ j) : cellsOf (σ.set j o) i = cellsOf σ i := by unfold cellsOf; rw [get_set_ne h]
theorem cells_set_eq {σ : St} {cs : List SV} {i j : Nat} (h : i = j) : cellsOf (σ.set j (.cells cs)) i = some cs := by subst h; exact cellsOf_eq get_set_eq
theorem next_empty : St.empty.next = 0 := rfl
theorem cellsOf_empty (i : Nat) : cellsOf St.empty i = none := by unfold cellsOf St.get St.empty; rw [Tr.get_nil]

theorem paste_ex {a v : SV} {cs : List SV} {i : Nat} (h : i < cs.length + 1) : paste (a :: cs) i [v] = (a :: cs).set i v := by
  rw [paste_def]
  rw [List.set_eq_take_append_cons_drop, if_pos (show i < (a :: cs).length by simpa using h)]
  simp
theorem cut_nil : cut [] 0 0 = some [] := rfl
theorem paste_exw {a b b2 : SV} {cs ds : List SV} (h : ds.length + 1 = cs.length) : paste (a :: cs) 0 (b :: b2 :: ds) = b :: b2 :: ds := by
  rw [paste_def]
  rw [List.drop_eq_nil_of_le (by simp; omega)]
  simp
theorem cut_ex {a : SV} {cs : List SV} {off n : Nat} (h : off + n ≤ cs.length + 1) : cut (a :: cs) off n = some (((a :: cs).drop off).take n) := by
  rw [cut_def]; rw [if_pos (by simpa using h)]
theorem Int_toNat_cast (n : Nat) : (n : Int).toNat = n := rfl
/-- All that steps come to, as rules to rewrite by. -/
def evs := PLift.up <|
  And.intro @Int.cast_ofNat_Int <| And.intro Bool.not_true <| And.intro Bool.not_false <| And.intro @Int.ofNat_lt <| And.intro @Int.ofNat_le <| And.intro Int.natCast_nonneg <| And.intro decide_true <| And.intro decide_false <| And.intro Bool.false_eq_true <| And.intro @List.length_cons.{0} <| And.intro @List.length_nil.{0} <| And.intro @List.drop_succ_cons.{0} <| And.intro @List.drop_zero.{0} <| And.intro @List.take_succ_cons.{0} <| And.intro @List.take_zero.{0} <| And.intro @List.drop_nil.{0} <| And.intro @List.take_nil.{0} <|
  And.intro @List.cons_append.{0} <| And.intro @List.nil_append.{0} <| And.intro @List.append_nil.{0} <| And.intro @List.map_cons.{0,0} <| And.intro @List.map_nil.{0,0} <| And.intro @List.length_append.{0} <|
  And.intro @Nat.add_zero <| And.intro @Nat.zero_add <| And.intro @Nat.mul_one <| And.intro @Nat.one_mul <| And.intro @Nat.zero_mul <| And.intro @Nat.zero_le <| And.intro @Nat.sub_zero <| And.intro @Nat.le_refl <|
  And.intro @and_self <| And.intro @and_true <| And.intro @true_and <| And.intro Int_toNat_cast <| And.intro @paste_ex <| And.intro cut_nil <| And.intro @paste_exw <| And.intro @cut_ex <| And.intro @List.set_cons_zero.{0} <| And.intro @List.set_cons_succ.{0} <| And.intro @Int.natCast_zero <| And.intro @Int.le_refl <|
  And.intro (fun (t : Tr SV) (d : Nat) (v : SV) => (@_root_.id (putD t (some d) v = t.set d v) rfl)) <|
  And.intro (fun (t : Tr SV) (v : SV) => (@_root_.id (putD t none v = t) rfl)) <|
  And.intro getT_set <|
  And.intro (fun (t : Tr SV) (n : Nat) => (@_root_.id (Opd.ev t (.t n) = getT t n) rfl)) <|
  And.intro (fun (t : Tr SV) (v : SV) => (@_root_.id (Opd.ev t (.k v) = v) rfl)) <|
  And.intro fill_cons <| And.intro fill_nil <|
  And.intro cellsOf_push <|  And.intro cellsOf_setg <| And.intro (fun (cs : List SV) => (@_root_.id (obCells (.cells cs) = some cs) rfl)) <| And.intro (@_root_.id (obCells .dead = none) rfl) <| And.intro cellsOf_pushl <| And.intro ne01 <| And.intro ne02 <| And.intro ne03 <| And.intro ne10 <| And.intro ne20 <| And.intro ne30 <| And.intro ne12 <| And.intro ne13 <| And.intro ne21 <| And.intro ne23 <| And.intro ne31 <| And.intro ne32 <| And.intro add11 <| And.intro add21 <| And.intro add31 <| And.intro @next_push <| And.intro @next_set <| And.intro next_empty <| And.intro cellsOf_empty <|
  And.intro (fun (a : Option SV) (f : SV → Option SV) (v : SV) => (@_root_.id ((some v).bind f = f v) rfl)) <|
  And.intro (fun (α β : Type) (f : α → Option β) (v : α) => (@_root_.id ((some v).bind f = f v) rfl)) <|
  And.intro (fun (α β : Type) (f : α → β) (v : α) => (@_root_.id ((some v).map f = some (f v)) rfl)) <|
  And.intro (fun (σ : St) (ag : Bool) (n id off : Nat) => (@_root_.id (loadSV σ ag n (.ptr id off) = (cellsOf σ id).bind fun cs => (cut cs off n).bind (unflat ag)) rfl)) <|
  And.intro (fun (σ : St) (ag : Bool) (n off : Nat) (cs : List SV) => (@_root_.id (loadSV σ ag n (.iptr cs off) = (cut cs off n).bind (unflat ag)) rfl)) <|
  And.intro (fun (x : SV) => (@_root_.id (unflat false [x] = some x) rfl)) <|
  And.intro (fun (x : List SV) => (@_root_.id (unflat true x = some (.agg x)) rfl)) <|
  And.intro (fun (σ : St) => (@_root_.id (rowSV σ (.sc .nilsl) = some []) rfl)) <|
  And.intro (fun (σ : St) (a b : Nat) (c : List SV) => (@_root_.id (rowSV σ (.lst a b c) = some c) rfl)) <|
  And.intro (fun (σ : St) (id off len sz : Nat) => (@_root_.id (rowSV σ (.sl id off len sz) = (cellsOf σ id).bind fun cs => cut cs off (len * sz)) rfl)) <|
  And.intro (@_root_.id (lenSV (.sc .nilsl) = some 0) rfl) <|
  And.intro (fun (a b : Nat) (c : List SV) => (@_root_.id (lenSV (.lst a b c) = some a) rfl)) <|
  And.intro (fun (id off len sz : Nat) => (@_root_.id (lenSV (.sl id off len sz) = some len) rfl)) <|
  And.intro (fun (t : Tr SV) (cs : List SV) => (@_root_.id (fillParts t cs [] = some cs) rfl)) <|
  And.intro (fun (k : IntKind) (n : Int) => (@_root_.id (intOf (.sc (.int k n)) = some n) rfl)) <|
  And.intro (fun (s : Sc) => (@_root_.id ((SV.sc s).flat = [.sc s]) rfl)) <|
  And.intro (fun (cs : List SV) => (@_root_.id ((SV.agg cs).flat = cs) rfl)) <|
  And.intro (fun (a b : Nat) (c : List SV) => (@_root_.id ((SV.lst a b c).flat = [.lst a b c]) rfl)) <|
  And.intro (fun (a b c d : Nat) => (@_root_.id ((SV.sl a b c d).flat = [.sl a b c d]) rfl)) <|
  And.intro (fun (a b : Nat) => (@_root_.id ((SV.ptr a b).flat = [.ptr a b]) rfl)) <|
  And.intro (fun (a : Nat) (b c : List SV) => (@_root_.id ((SV.fn a b c).flat = [.fn a b c]) rfl)) <|
  And.intro (fun (a : Nat) => (@_root_.id ((SV.mp a).flat = [.mp a]) rfl)) <|
  And.intro (fun (k : IntKind) (n : Int) => (@_root_.id ((SV.sc (.int k n)).lay = true) rfl)) <|
  And.intro (fun (b : Bool) => (@_root_.id ((SV.sc (.bool b)).lay = true) rfl)) <|
  And.intro (@_root_.id ((SV.sc .nilsl).lay = true) rfl) <| And.intro (@_root_.id ((SV.sc .nilmap).lay = true) rfl) <| And.intro (@_root_.id ((SV.sc .nilptr).lay = true) rfl) <| And.intro (@_root_.id ((SV.sc .nilfn).lay = true) rfl) <|
  And.intro (fun (cs : List SV) => (@_root_.id ((SV.agg cs).lay = true) rfl)) <|
  And.intro (fun (a b : Nat) (c : List SV) => (@_root_.id ((SV.lst a b c).lay = true) rfl)) <|
  And.intro (fun (a b c d : Nat) => (@_root_.id ((SV.sl a b c d).lay = true) rfl)) <|
  And.intro (fun (a b : Nat) => (@_root_.id ((SV.ptr a b).lay = true) rfl)) <|
  And.intro (fun (a : Nat) (b c : List SV) => (@_root_.id ((SV.fn a b c).lay = true) rfl)) <|
  And.intro (fun (a : Nat) => (@_root_.id ((SV.mp a).lay = true) rfl)) <|
  And.intro (fun (k : IntKind) (n : Int) => (@_root_.id ((SV.sc (.int k n)).one = true) rfl)) <|
  And.intro (fun (b : Bool) => (@_root_.id ((SV.sc (.bool b)).one = true) rfl)) <|
  And.intro (@_root_.id ((SV.sc .nilsl).one = true) rfl) <|
  And.intro (fun (a b : Nat) (c : List SV) => (@_root_.id ((SV.lst a b c).one = true) rfl)) <|
  And.intro (fun (a b c d : Nat) => (@_root_.id ((SV.sl a b c d).one = true) rfl)) <|
  And.intro (fun (a b : Nat) => (@_root_.id ((SV.ptr a b).one = true) rfl)) <|
  And.intro (fun (a : Nat) (b c : List SV) => (@_root_.id ((SV.fn a b c).one = true) rfl)) <|
  And.intro (fun (a : Nat) => (@_root_.id ((SV.mp a).one = true) rfl)) <|
  And.intro (fun (n : Int) => (@_root_.id (SV.int n = .sc (.int .i64 n)) rfl)) <|
  And.intro (@_root_.id (SV.undef = .sc .undef) rfl) <| And.intro (fun (n : Bool) => (@_root_.id (SV.bool n = .sc (.bool n)) rfl)) <|
  And.intro (fun (α : Type) (a b : α) => (@_root_.id ((bif true then a else b) = a) rfl)) <|
  (fun (α : Type) (a b : α) => (@_root_.id ((bif false then a else b) = b) rfl))
theorem ev : type_of% evs.down := evs.down

/-! ### Steps -/
section
variable {E : Env} {t : Tr SV} {σ : St} {QS : Tr SV → St → Prop} {Q : Ex → Tr SV → St → Prop}
/-- Something is told, and what follows holds of it. -/
def Hold (x : Option (SV × St)) (K : SV → St → Prop) : Prop := ∃ v σ, x = some (v, σ) ∧ K v σ
theorem Hold_some {v : SV} {σ : St} {K : SV → St → Prop} (h : K v σ) : Hold (some (v, σ)) K := ⟨v, σ, rfl, h⟩
def Hold1 (x : Option SV) (K : SV → Prop) : Prop := ∃ v, x = some v ∧ K v
theorem Hold1_some {v : SV} {K : SV → Prop} (h : K v) : Hold1 (some v) K := ⟨v, rfl, h⟩
theorem Hold1_of {x : Option SV} {K : SV → Prop} (h : Hold1 x K) : ∃ v, x = some v ∧ K v := h
theorem st_plain {d : Nat} {op : SOp} {ss : List Step} (hop : isCall op = false) (h : Hold (sop op t σ) (fun v σ1 => WPS E ss (t.set d v) σ1 QS)) : WPS E (⟨some d, none, op, []⟩ :: ss) t σ QS := by
  obtain ⟨v, σ1, h1, h2⟩ := h
  exact (WPS_pure hop h1).2 h2
theorem st_plain0 {op : SOp} {ss : List Step} (hop : isCall op = false) (h : Hold (sop op t σ) (fun _ σ1 => WPS E ss t σ1 QS)) : WPS E (⟨none, none, op, []⟩ :: ss) t σ QS := by
  obtain ⟨v, σ1, h1, h2⟩ := h
  exact (WPS_pure hop h1).2 h2
theorem st_re {d : Nat} {op : SOp} {re : List (Nat × Option (Nat × Bool) × SOp)} {ss : List Step} (hop : isCall op = false) (h : Hold (sop op t σ) (fun v σ1 => recheck t σ1 re = true ∧ WPS E ss (t.set d v) σ1 QS)) : WPS E (⟨some d, none, op, re⟩ :: ss) t σ QS := by
  obtain ⟨v, σ1, h1, h2, h3⟩ := h
  exact WPS_step (s := ⟨some d, none, op, re⟩) hop rfl h1 h2 h3
theorem st_re0 {op : SOp} {re : List (Nat × Option (Nat × Bool) × SOp)} {ss : List Step} (hop : isCall op = false) (h : Hold (sop op t σ) (fun _ σ1 => recheck t σ1 re = true ∧ WPS E ss t σ1 QS)) : WPS E (⟨none, none, op, re⟩ :: ss) t σ QS := by
  obtain ⟨v, σ1, h1, h2, h3⟩ := h
  exact WPS_step (s := ⟨none, none, op, re⟩) hop rfl h1 h2 h3
theorem st_true {d : Nat} {g : Nat} {b : Bool} {op : SOp} {ss : List Step} (hop : isCall op = false) (hg : getT t g = .sc (.bool b)) (h : Hold (sop op t σ) (fun v σ1 => WPS E ss (t.set d v) σ1 QS)) : WPS E (⟨some d, some (g, b), op, []⟩ :: ss) t σ QS := by
  obtain ⟨v, σ1, h1, h2⟩ := h
  exact WPS_step (s := ⟨some d, some (g, b), op, []⟩) hop (by simp [wantedS, hg]) h1 rfl h2
theorem st_false {d : Nat} {g : Nat} {b : Bool} {op : SOp} {re : List (Nat × Option (Nat × Bool) × SOp)} {ss : List Step} (hg : getT t g = .sc (.bool (!b))) (h : WPS E ss (t.set d .undef) σ QS) : WPS E (⟨some d, some (g, b), op, re⟩ :: ss) t σ QS :=
  (WPS_skip (s := ⟨some d, some (g, b), op, re⟩) (by simp [wantedS, hg])).2 h
theorem st_undef {d : Nat} {g : Nat} {b : Bool} {op : SOp} {re : List (Nat × Option (Nat × Bool) × SOp)} {ss : List Step} (hg : getT t g = .sc .undef) (h : WPS E ss (t.set d .undef) σ QS) : WPS E (⟨some d, some (g, b), op, re⟩ :: ss) t σ QS :=
  (WPS_skip (s := ⟨some d, some (g, b), op, re⟩) (by simp [wantedS, hg])).2 h
/-! Each step asks for one value: an operation's, a guard's, a condition's. -/
def HoldV (v : SV) (K : SV → Prop) : Prop := K v
def HoldB (x : Bool) (P : Prop) : Prop := x = true ∧ P
theorem HB_nil {P : Prop} (h : P) : HoldB (recheck t σ []) P := ⟨rfl, h⟩
theorem HB_true {P : Prop} (h : P) : HoldB true P := ⟨rfl, h⟩
def GK (b : Bool) (yes no : Prop) (v : SV) : Prop := match v with
  | .sc (.bool c) => if c = b then yes else no
  | .sc .undef => no
  | _ => False
def CK (yes no : Prop) (v : SV) : Prop := match v with
  | .sc (.bool true) => yes
  | .sc (.bool false) => no
  | _ => False
section
variable {yes no : Prop}
theorem GK_tt (h : yes) : HoldV (.sc (.bool true)) (GK true yes no) := h
theorem GK_ff (h : yes) : HoldV (.sc (.bool false)) (GK false yes no) := h
theorem GK_tf (h : no) : HoldV (.sc (.bool true)) (GK false yes no) := h
theorem GK_ft (h : no) : HoldV (.sc (.bool false)) (GK true yes no) := h
theorem GK_u {b : Bool} (h : no) : HoldV (.sc .undef) (GK b yes no) := h
theorem CK_t (h : yes) : HoldV (.sc (.bool true)) (CK yes no) := h
theorem CK_f (h : no) : HoldV (.sc (.bool false)) (CK yes no) := h
end
theorem not_call {op : SOp} {r : SV × St} (h : sop op t σ = some r) : isCall op = false := by
  cases op <;> first | rfl | (simp [sop] at h)
theorem sr_plain {d : Nat} {op : SOp} {re : List (Nat × Option (Nat × Bool) × SOp)} {ss : List Step} (h : Hold (sop op t σ) (fun v σ1 => HoldB (recheck t σ1 re) (WPS E ss (t.set d v) σ1 QS))) : WPS E (⟨some d, none, op, re⟩ :: ss) t σ QS := st_re (by obtain ⟨v, σ1, h1, _⟩ := h; exact not_call h1) h
theorem sr_plain0 {op : SOp} {re : List (Nat × Option (Nat × Bool) × SOp)} {ss : List Step} (h : Hold (sop op t σ) (fun _ σ1 => HoldB (recheck t σ1 re) (WPS E ss t σ1 QS))) : WPS E (⟨none, none, op, re⟩ :: ss) t σ QS := st_re0 (by obtain ⟨v, σ1, h1, _⟩ := h; exact not_call h1) h
theorem sr_guard {d : Nat} {g : Nat} {b : Bool} {op : SOp} {re : List (Nat × Option (Nat × Bool) × SOp)} {ss : List Step} (h0 : HoldV (getT t g) (GK b (WPS E (⟨some d, none, op, re⟩ :: ss) t σ QS) (WPS E ss (t.set d .undef) σ QS))) : WPS E (⟨some d, some (g, b), op, re⟩ :: ss) t σ QS := by
  have h1 : GK b _ _ (getT t g) := h0
  clear h0
  unfold GK at h1
  split at h1
  · rename_i c hg
    split at h1
    · rename_i e
      subst e
      obtain ⟨n, t', σ', h2, k⟩ := h1
      cases n with
      | zero => simp [steps] at h2
      | succ n =>
        refine ⟨n + 1, t', σ', ?_, k⟩
        rw [steps_cons] at h2 ⊢
        rw [show wantedS t (some (g, c)) = some true by simp [wantedS, hg]]
        exact h2
    · rename_i e
      exact (WPS_skip (s := ⟨some d, some (g, b), op, re⟩) (by simp [wantedS, hg, e])).2 h1
  · rename_i hg
    exact st_undef hg h1
  · exact h1.elim
theorem sr_cond {c : Opd} {a b : SC} (h0 : HoldV (c.ev t) (CK (WP E a t σ Q) (WP E b t σ Q))) : WP E (.cond c a b) t σ Q := by
  have h1 : CK _ _ (c.ev t) := h0
  clear h0
  unfold CK at h1
  split at h1
  · rename_i hc; exact (WP_cond hc).2 h1
  · rename_i hc; exact (WP_cond hc).2 h1
  · exact h1.elim
/-- A call. -/
theorem st_call {d : Option Nat} {g : Option (Nat × Bool)} {re : List (Nat × Option (Nat × Bool) × SOp)} {f : Opd} {args : List Opd} {ss : List Step} {n : Nat} {first cap : List SV} {vs : List SV} (hw : wantedS t g = some true) (hf : f.ev t = .fn n first cap) (ha : first ++ args.map (·.ev t) ++ cap = vs)
    (h : WPF E n vs σ (fun v σ1 => recheck t σ1 re = true ∧ WPS E ss (putD t d v) σ1 QS)) : WPS E (⟨d, g, .call f args, re⟩ :: ss) t σ QS := by
  refine WPS_call hw ?_
  rw [hf]
  refine WPC_fn ?_
  rw [ha]
  exact h
/-- A call of a function that is known, of one that comes as a value. -/
theorem st_callf {d : Option Nat} {g : Option (Nat × Bool)} {re : List (Nat × Option (Nat × Bool) × SOp)} {f : Opd} {args : List Opd} {ss : List Step} {n : Nat} {vs : List SV} (hw : wantedS t g = some true) (hf : f.ev t = .fn n [] []) (ha : args.map (·.ev t) = vs)
    (h : WPF E n vs σ (fun v σ1 => recheck t σ1 re = true ∧ WPS E ss (putD t d v) σ1 QS)) : WPS E (⟨d, g, .call f args, re⟩ :: ss) t σ QS :=
  st_call hw hf (by rw [List.nil_append, List.append_nil]; exact ha) h
theorem st_callv {d : Option Nat} {g : Option (Nat × Bool)} {re : List (Nat × Option (Nat × Bool) × SOp)} {f : Opd} {args : List Opd} {ss : List Step} {fv : SV} {vs : List SV} (hw : wantedS t g = some true) (hf : f.ev t = fv) (ha : args.map (·.ev t) = vs)
    (h : WPC E fv vs σ (fun v σ1 => recheck t σ1 re = true ∧ WPS E ss (putD t d v) σ1 QS)) : WPS E (⟨d, g, .call f args, re⟩ :: ss) t σ QS := by
  refine WPS_call hw ?_
  rw [hf, ha]
  exact h
/-- A call of a function that is taken as told: its arguments without places, or its result without reference. -/
theorem st_tell {m : Nat} {d : Option Nat} {g : Option (Nat × Bool)} {re : List (Nat × Option (Nat × Bool) × SOp)} {n : Nat} {args : List Opd} {ss : List Step} {vs pa : List SV} {r : SV} (h : Tells n pa r) (hk : ∃ k, LV.get n = some k ∧ k < m) (hw : wantedS t g = some true) (ha : args.map (·.ev t) = vs)
    (hz : mapO (frz σ 20) vs = some pa) (hp : (pures vs || r.flat0) = true) (hre : recheck t σ re = true) (q : WPS (EV m) ss (putD t d r) σ QS) : WPS (EV m) (⟨d, g, .call (.k (.fn n [] [])) args, re⟩ :: ss) t σ QS := by
  refine st_call (vs := vs) hw rfl (by rw [List.nil_append, List.append_nil]; exact ha) ?_
  exact WPF_tells h hk hz hp ⟨hre, q⟩
/-- The same, where the result refers to nothing. -/
theorem st_tellz {m : Nat} {d : Option Nat} {g : Option (Nat × Bool)} {re : List (Nat × Option (Nat × Bool) × SOp)} {n : Nat} {args : List Opd} {ss : List Step} {vs pa : List SV} {r : SV} (h : Tells n pa r) (hk : ∃ k, LV.get n = some k ∧ k < m) (hw : wantedS t g = some true) (ha : args.map (·.ev t) = vs)
    (hz : mapO (frz σ 20) vs = some pa) (hp : r.flat0 = true) (hre : recheck t σ re = true) (q : WPS (EV m) ss (putD t d r) σ QS) : WPS (EV m) (⟨d, g, .call (.k (.fn n [] [])) args, re⟩ :: ss) t σ QS :=
  st_tell h hk hw ha hz (by rw [hp, Bool.or_true]) hre q
/-- The same, where the arguments are without places. -/
theorem st_tellp {m : Nat} {d : Option Nat} {g : Option (Nat × Bool)} {re : List (Nat × Option (Nat × Bool) × SOp)} {n : Nat} {args : List Opd} {ss : List Step} {vs : List SV} {r : SV} (h : Tells n vs r) (hk : ∃ k, LV.get n = some k ∧ k < m) (hw : wantedS t g = some true) (ha : args.map (·.ev t) = vs)
    (hp : pures vs = true) (hre : recheck t σ re = true) (q : WPS (EV m) ss (putD t d r) σ QS) : WPS (EV m) (⟨d, g, .call (.k (.fn n [] [])) args, re⟩ :: ss) t σ QS :=
  st_tell h hk hw ha (mapO_pures hp) (by rw [hp]; rfl) hre q
theorem st_ifT {c : Opd} {a b : SC} (hc : c.ev t = .sc (.bool true)) (h : WP E a t σ Q) : WP E (.cond c a b) t σ Q := (WP_cond hc).2 h
theorem st_ifF {c : Opd} {a b : SC} (hc : c.ev t = .sc (.bool false)) (h : WP E b t σ Q) : WP E (.cond c a b) t σ Q := (WP_cond hc).2 h
theorem st_if {c : Opd} {a b : SC} {x : Bool} (hc : c.ev t = .sc (.bool x)) (h : WP E (if x = true then a else b) t σ Q) : WP E (.cond c a b) t σ Q := (WP_cond hc).2 h
def isLoop : SC → Bool
  | .loop _ => true
  | _ => false
theorem st_block {i : Nat} {b : SC} (_ : isLoop b = false) (h : WP E b t σ (InBlock i Q)) : WP E (.block i b) t σ Q := WP_block.2 h
theorem IB_brk {id i : Nat} (h : Nat.beq i id = true) (q : Q .normal t σ) : InBlock id Q (.exit i) t σ := by
  show Q (bif Nat.beq i id then .normal else .exit i) t σ
  rw [h]; exact q
theorem IB_exit {id i : Nat} (h : Nat.beq i id = false) (q : Q (.exit i) t σ) : InBlock id Q (.exit i) t σ := by
  show Q (bif Nat.beq i id then .normal else .exit i) t σ
  rw [h]; exact q
/-- What follows the body of a loop that stands in a block: the next round, the end. -/
def LoopPost (a : Nat) (A : Tr SV → St → Prop) (Q : Ex → Tr SV → St → Prop) : Ex → Tr SV → St → Prop
  | .normal, t, σ => A t σ
  | .ret, t, σ => Q .ret t σ
  | .exit j, t, σ => bif Nat.beq j a then Q .normal t σ else Q (.exit j) t σ
section
variable {a b j : Nat} {A : Tr SV → St → Prop}
theorem LP_next : LoopPost a A Q .normal t σ ↔ A t σ := Iff.rfl
theorem LP_ret : LoopPost a A Q .ret t σ ↔ Q .ret t σ := Iff.rfl
theorem LP_brk (h : Nat.beq j a = true) (q : Q .normal t σ) : LoopPost a A Q (.exit j) t σ := by
  show bif Nat.beq j a then _ else _
  rw [h]; exact q
theorem LP_exit (h : Nat.beq j a = false) (q : Q (.exit j) t σ) : LoopPost a A Q (.exit j) t σ := by
  show bif Nat.beq j a then _ else _
  rw [h]; exact q
theorem WP_blockloop {c : SC} (I : Nat → Tr SV → St → Prop) {k0 : Nat} (h0 : I k0 t σ) (step : ∀ k t σ, I k t σ → WP E c t σ (LoopPost a (fun t1 σ1 => ∃ k', k' < k ∧ I k' t1 σ1) Q)) : WP E (.block a (.loop c)) t σ Q := by
  refine WP_block.2 (WP_loop_inv I (fun k t σ h => (step k t σ h).mono fun ex t1 σ1 q => ?_) h0)
  cases ex with
  | normal => exact q
  | ret => exact q
  | exit j =>
    have q : bif Nat.beq j a then Q .normal t1 σ1 else Q (.exit j) t1 σ1 := q
    show Q (bif Nat.beq j a then .normal else .exit j) t1 σ1
    revert q
    cases Nat.beq j a <;> exact id
/-- The same for a range over a row, over an array. -/
def RangePost (a b : Nat) (A : Tr SV → St → Prop) (Q : Ex → Tr SV → St → Prop) : Ex → Tr SV → St → Prop
  | .normal, t, σ => A t σ
  | .ret, t, σ => Q .ret t σ
  | .exit j, t, σ => bif Nat.beq j b then A t σ else bif Nat.beq j a then Q .normal t σ else Q (.exit j) t σ
theorem RP_next : RangePost a b A Q .normal t σ ↔ A t σ := Iff.rfl
theorem RP_ret : RangePost a b A Q .ret t σ ↔ Q .ret t σ := Iff.rfl
theorem RP_cont : RangePost a b A Q (.exit b) t σ ↔ A t σ := by
  show (bif Nat.beq b b then _ else _) ↔ _
  rw [Nat.beq_refl]; exact Iff.rfl
theorem RP_brk (h : Nat.beq j b = false) (h2 : Nat.beq j a = true) (q : Q .normal t σ) : RangePost a b A Q (.exit j) t σ := by
  show bif Nat.beq j b then _ else bif Nat.beq j a then _ else _
  rw [h, h2]; exact q
theorem RP_exit (h : Nat.beq j b = false) (h2 : Nat.beq j a = false) (q : Q (.exit j) t σ) : RangePost a b A Q (.exit j) t σ := by
  show bif Nat.beq j b then _ else bif Nat.beq j a then _ else _
  rw [h, h2]; exact q
theorem i64_in (n : Int) (h0 : -9223372036854775808 ≤ n) (h1 : n ≤ 9223372036854775807) : IntKind.i64.wrap n = n := by rw [IntKind.wrap_i64]; omega
theorem WP_range {i n c s tg nn : Nat} {body : SC} {N : Nat} (I : Nat → Tr SV → St → Prop) (hN : N ≤ 2 ^ 62) (hn : getT t n = .sc (.int .i64 N)) (hi : getT t i = .sc (.int .i64 0)) (hne : n ≠ c ∧ i ≠ c ∧ n ≠ s ∧ n ≠ i ∧ i ≠ s)
    (h0 : I 0 t σ)
    (step : ∀ k t σ, k < N → getT t n = .sc (.int .i64 N) → getT t i = .sc (.int .i64 k) → I k t σ → WP E body (t.set c (.sc (.bool true))) σ
      (RangePost a b (fun t1 σ1 => getT t1 n = .sc (.int .i64 N) ∧ getT t1 i = .sc (.int .i64 k) ∧ ∀ v w, I (k + 1) ((t1.set s v).set i w) σ1) Q))
    (done : ∀ t σ, I N t σ → Q .normal (t.set c (.sc (.bool false))) σ) :
    WP E (.block a (.loop (.seq (.reg [⟨some c, none, .bin tg nn .lss (.t i) (.t n), []⟩]) (.seq (.cond (.t c) .skip (.exit a)) (.seq (.block b body) (.reg [⟨some s, none, .bin tg nn .add (.t i) (.k (.sc (.int .i64 1))), []⟩, ⟨some i, none, .mv (.t s), []⟩])))))) t σ Q := by
  refine WP_blockloop (fun m t σ => ∃ k, m = N - k ∧ k ≤ N ∧ getT t n = .sc (.int .i64 N) ∧ getT t i = .sc (.int .i64 k) ∧ I k t σ) ⟨0, rfl, Nat.zero_le _, hn, hi, h0⟩ ?_
  rintro m t σ ⟨k, rfl, hk, h1, h2, h3⟩
  refine WP_seq.2 (WP_reg.2 (st_plain rfl ?_))
  have e : sop (.bin tg nn .lss (.t i) (.t n)) t σ = some (.sc (.bool (decide ((k : Int) < (N : Int)))), σ) := by
    simp only [sop, Opd.ev, h1, h2, binSV, intBin, reduceIte, Option.map_some]
  rw [e]
  refine Hold_some (WPS_nil.2 (Then_normal.2 (WP_seq.2 ?_)))
  by_cases hlt : k < N
  · have hd : decide ((k : Int) < (N : Int)) = true := by simp; omega
    rw [hd]
    refine st_ifT (by simp only [Opd.ev, getT_set, reduceIte]) (WP_skip.2 (Then_normal.2 (WP_seq.2 (WP_block.2 ((step k t σ hlt h1 h2 h3).mono fun ex t1 σ1 q => ?_)))))
    have next : ∀ t1 σ1, (getT t1 n = .sc (.int .i64 N) ∧ getT t1 i = .sc (.int .i64 k) ∧ ∀ v w, I (k + 1) ((t1.set s v).set i w) σ1) →
        WP E (.reg [⟨some s, none, .bin tg nn .add (.t i) (.k (.sc (.int .i64 1))), []⟩, ⟨some i, none, .mv (.t s), []⟩]) t1 σ1 (LoopPost a (fun t1 σ1 => ∃ k', k' < N - k ∧ ∃ k, k' = N - k ∧ k ≤ N ∧ getT t1 n = .sc (.int .i64 N) ∧ getT t1 i = .sc (.int .i64 k) ∧ I k t1 σ1) Q) := by
      rintro t1 σ1 ⟨g1, g2, g3⟩
      refine WP_reg.2 (st_plain rfl ?_)
      have e : sop (.bin tg nn .add (.t i) (.k (.sc (.int .i64 1)))) t1 σ1 = some (.sc (.int .i64 ((k + 1 : Nat) : Int)), σ1) := by
        simp only [sop, Opd.ev, g2, binSV, intBin, reduceIte, Option.map_some]
        rw [i64_in _ (by omega) (by omega)]; rfl
      rw [e]
      refine Hold_some (st_plain rfl (Hold_some (WPS_nil.2 ⟨N - (k + 1), by omega, k + 1, rfl, by omega, ?_, ?_, ?_⟩)))
      · simp only [getT_set, if_neg hne.2.2.2.1, if_neg hne.2.2.1]; exact g1
      · simp only [getT_set, Opd.ev, reduceIte]
      · exact g3 _ _
    cases ex with
    | normal => exact next _ _ q
    | ret => exact q
    | exit j =>
      have q : bif Nat.beq j b then _ else bif Nat.beq j a then Q .normal t1 σ1 else Q (.exit j) t1 σ1 := q
      show Then _ _ (bif Nat.beq j b then .normal else .exit j) t1 σ1
      cases hb : Nat.beq j b
      · rw [hb] at q
        exact q
      · rw [hb] at q
        exact next _ _ q
  · have hd : decide ((k : Int) < (N : Int)) = false := by simp; omega
    rw [hd]
    have : k = N := by omega
    subst this
    refine st_ifF (by simp only [Opd.ev, getT_set, reduceIte]) (WP_exit.2 ?_)
    show bif Nat.beq a a then Q .normal (t.set c (.sc (.bool false))) σ else Q (.exit a) (t.set c (.sc (.bool false))) σ
    rw [Nat.beq_refl]; exact done t σ h3
end
theorem wantedS_none : wantedS t none = some true := rfl
theorem wantedS_some {g : Nat} {b : Bool} (h : getT t g = .sc (.bool b)) : wantedS t (some (g, b)) = some true := by simp [wantedS, h]
theorem recheck_nil : recheck t σ [] = true := rfl
end

mutual
theorem SV.same_self : ∀ v : SV, v.same v = true
  | .sc _ => by simp [SV.same]
  | .agg cs => by simp only [SV.same]; exact sames_self cs
  | .tup cs => by simp only [SV.same]; exact sames_self cs
  | .sl .. => by simp [SV.same]
  | .lst _ _ cs => by simp [SV.same, sames_self cs]
  | .ptr .. => by simp [SV.same]
  | .iptr cs _ => by simp [SV.same, sames_self cs]
  | .fn _ a b => by simp [SV.same, sames_self a, sames_self b]
  | .yld _ => by simp [SV.same]
  | .mp _ => by simp [SV.same]
theorem sames_self : ∀ l : List SV, sames l l = true
  | [] => rfl
  | c :: cs => by simp only [sames, SV.same_self c, sames_self cs, Bool.and_self]
end
/-! ### What a run takes by itself: heads (Nx), one value that is asked for (Ny), one that is told (Nz). -/
def Bi (b : Bool) (A B : Prop) : Prop := bif b then A else B
class Nx (P : Prop) (R : outParam Prop) : Prop where
  go : R → P
class Ny (P : Prop) (R : outParam Prop) : Prop where
  go : R → P
class Nz (P : Prop) (R : outParam Prop) : Prop where
  go : R → P
class NoLoop (b : SC) : Prop where
  it : isLoop b = false
section
variable {E : Env} {t : Tr SV} {σ : St} {QS : Tr SV → St → Prop} {Q : Ex → Tr SV → St → Prop}
instance {a b : SC} : NoLoop (.seq a b) := ⟨rfl⟩
instance {ss : List Step} : NoLoop (.reg ss) := ⟨rfl⟩
instance {i : Nat} {b : SC} : NoLoop (.block i b) := ⟨rfl⟩
instance {c : Opd} {a b : SC} : NoLoop (.cond c a b) := ⟨rfl⟩
instance {f : Opd} {ps : List Nat} {asg body : SC} : NoLoop (.rng f ps asg body) := ⟨rfl⟩
instance : NoLoop .skip := ⟨rfl⟩
instance : NoLoop .ret := ⟨rfl⟩
instance {i : Nat} : NoLoop (.exit i) := ⟨rfl⟩
instance {a b : SC} : Nx (WP E (.seq a b) t σ Q) (WP E a t σ (Then (fun t1 σ1 => WP E b t1 σ1 Q) Q)) := ⟨WP_seq.2⟩
instance {ss : List Step} : Nx (WP E (.reg ss) t σ Q) (WPS E ss t σ (fun t1 σ1 => Q .normal t1 σ1)) := ⟨WP_reg.2⟩
instance {i : Nat} {b : SC} [h : NoLoop b] : Nx (WP E (.block i b) t σ Q) (WP E b t σ (InBlock i Q)) := ⟨st_block h.it⟩
instance : Nx (WPS E [] t σ QS) (QS t σ) := ⟨WPS_nil.2⟩
instance {next : Tr SV → St → Prop} : Nx (Then next Q .normal t σ) (next t σ) := ⟨Then_normal.2⟩
instance {next : Tr SV → St → Prop} : Nx (Then next Q .ret t σ) (Q .ret t σ) := ⟨Then_ret.2⟩
instance {i : Nat} {next : Tr SV → St → Prop} : Nx (Then next Q (.exit i) t σ) (Q (.exit i) t σ) := ⟨Then_exit.2⟩
instance : Nx (WP E .skip t σ Q) (Q .normal t σ) := ⟨WP_skip.2⟩
instance : Nx (WP E .ret t σ Q) (Q .ret t σ) := ⟨WP_ret.2⟩
instance {i : Nat} : Nx (WP E (.exit i) t σ Q) (Q (.exit i) t σ) := ⟨WP_exit.2⟩
instance {i : Nat} : Nx (InBlock i Q .normal t σ) (Q .normal t σ) := ⟨InBlock_normal.2⟩
instance {i : Nat} : Nx (InBlock i Q .ret t σ) (Q .ret t σ) := ⟨InBlock_ret.2⟩
instance {rs : List RV} {Q : SV → St → Prop} : Nx (Ends rs Q .ret t σ) (∃ v, resultsSV t σ rs = some v ∧ Q v σ) := ⟨Ends_ret.2⟩
instance {rs : List RV} {Q : SV → St → Prop} : Nx (Ends rs Q .normal t σ) (∃ v, resultsSV t σ rs = some v ∧ Q v σ) := ⟨Ends_normal.2⟩
instance {a : Nat} {A : Tr SV → St → Prop} : Nx (LoopPost a A Q .normal t σ) (A t σ) := ⟨LP_next.2⟩
instance {a : Nat} {A : Tr SV → St → Prop} : Nx (LoopPost a A Q .ret t σ) (Q .ret t σ) := ⟨LP_ret.2⟩
instance {a b : Nat} {A : Tr SV → St → Prop} : Nx (RangePost a b A Q .normal t σ) (A t σ) := ⟨RP_next.2⟩
instance {a b : Nat} {A : Tr SV → St → Prop} : Nx (RangePost a b A Q .ret t σ) (Q .ret t σ) := ⟨RP_ret.2⟩
section
variable {L : Nat} {lp : Ob} {A : St → Prop} {Qs : Ex → St → Prop}
instance : Nx (BodyPost L lp A Qs .normal t σ) (σ.get L = some lp ∧ A σ) := ⟨BP_next.2⟩
instance : Nx (BodyPost L lp A Qs .ret t σ) (σ.get L = some lp ∧ Qs .ret σ) := ⟨BP_ret.2⟩
instance {i : Nat} : Nx (BodyPost L lp A Qs (.exit i) t σ) (σ.get L = some lp ∧ Qs (.exit i) σ) := ⟨BP_exit.2⟩
end
instance {P : Prop} : Nx (HoldB (recheck t σ []) P) P := ⟨HB_nil⟩
instance {d : Nat} {op : SOp} {re : List (Nat × Option (Nat × Bool) × SOp)} {ss : List Step} : Ny (WPS E (⟨some d, none, op, re⟩ :: ss) t σ QS) (Hold (sop op t σ) (fun v σ1 => HoldB (recheck t σ1 re) (WPS E ss (t.set d v) σ1 QS))) := ⟨sr_plain⟩
instance {op : SOp} {re : List (Nat × Option (Nat × Bool) × SOp)} {ss : List Step} : Ny (WPS E (⟨none, none, op, re⟩ :: ss) t σ QS) (Hold (sop op t σ) (fun _ σ1 => HoldB (recheck t σ1 re) (WPS E ss t σ1 QS))) := ⟨sr_plain0⟩
instance {d : Nat} {g : Nat} {b : Bool} {op : SOp} {re : List (Nat × Option (Nat × Bool) × SOp)} {ss : List Step} : Ny (WPS E (⟨some d, some (g, b), op, re⟩ :: ss) t σ QS) (HoldV (getT t g) (GK b (WPS E (⟨some d, none, op, re⟩ :: ss) t σ QS) (WPS E ss (t.set d .undef) σ QS))) := ⟨sr_guard⟩
instance {c : Opd} {a b : SC} : Ny (WP E (.cond c a b) t σ Q) (HoldV (c.ev t) (CK (WP E a t σ Q) (WP E b t σ Q))) := ⟨sr_cond⟩
instance {b : Bool} {P : Prop} : Ny (HoldB b P) (HoldB b P) := ⟨id⟩
instance {b : Bool} {P R : Prop} : Ny (Bi b P R) (Bi b P R) := ⟨id⟩
theorem beqN (i j : Nat) : (i == j) = Nat.beq i j := by
  cases h : Nat.beq i j with
  | true => rw [Nat.eq_of_beq_eq_true h]; simp
  | false => exact beq_eq_false_iff_ne.2 (Nat.ne_of_beq_eq_false h)
instance {id i : Nat} : Ny (InBlock id Q (.exit i) t σ) (Bi (i == id) (Q .normal t σ) (Q (.exit i) t σ)) := ⟨fun h => by
  have h : bif Nat.beq i id then Q .normal t σ else Q (.exit i) t σ := by rw [← beqN]; exact h
  show Q (bif Nat.beq i id then .normal else .exit i) t σ
  cases e : Nat.beq i id <;> rw [e] at h <;> exact h⟩
instance {a j : Nat} {A : Tr SV → St → Prop} : Ny (LoopPost a A Q (.exit j) t σ) (Bi (j == a) (Q .normal t σ) (Q (.exit j) t σ)) := ⟨fun h => by
  show bif Nat.beq j a then _ else _
  rw [← beqN]; exact h⟩
instance {a b j : Nat} {A : Tr SV → St → Prop} : Ny (RangePost a b A Q (.exit j) t σ) (Bi (j == b) (A t σ) (Bi (j == a) (Q .normal t σ) (Q (.exit j) t σ))) := ⟨fun h => by
  show bif Nat.beq j b then _ else bif Nat.beq j a then _ else _
  rw [← beqN, ← beqN]; exact h⟩
instance {v : SV} {K : SV → St → Prop} : Nz (Hold (some (v, σ)) K) (K v σ) := ⟨Hold_some⟩
section
variable {yes no : Prop}
instance : Nz (HoldV (.sc (.bool true)) (GK true yes no)) yes := ⟨GK_tt⟩
instance : Nz (HoldV (.sc (.bool false)) (GK false yes no)) yes := ⟨GK_ff⟩
instance : Nz (HoldV (.sc (.bool true)) (GK false yes no)) no := ⟨GK_tf⟩
instance : Nz (HoldV (.sc (.bool false)) (GK true yes no)) no := ⟨GK_ft⟩
instance {b : Bool} : Nz (HoldV (.sc .undef) (GK b yes no)) no := ⟨GK_u⟩
instance : Nz (HoldV (.sc (.bool true)) (CK yes no)) yes := ⟨CK_t⟩
instance : Nz (HoldV (.sc (.bool false)) (CK yes no)) no := ⟨CK_f⟩
instance : Nz (HoldB true yes) yes := ⟨HB_true⟩
instance : Nz (Bi true yes no) yes := ⟨fun h => h⟩
instance : Nz (Bi false yes no) no := ⟨fun h => h⟩
end
end
end Go.Proofs.Ytojjhcgbbmknmaa.Sh

/- Values as the shadow has them: rows of whole numbers, sets of blocks; what is read of them. -/
namespace Go.Proofs.Ytojjhcgbbmknmaa.Sh
set_option linter.unusedSimpArgs false
set_option linter.unusedVariables false
open Go Go.Proofs

def ol {α : Type} (o : Option (List α)) : List α := o.getD []
/-- Whole numbers in a row. -/
def intsV : Option (List Int) → SV
  | none => .sc .nilsl
  | some l => .lst l.length 1 (l.map SV.int)
theorem pures_ints (l : List Int) : pures (l.map SV.int) = true := by rw [pures_iff]; intro c hc; obtain ⟨x, _, rfl⟩ := List.mem_map.1 hc; rfl
theorem pure_ints (o : Option (List Int)) : (intsV o).pure = true := by cases o with
  | none => rfl
  | some l => exact pures_ints l
theorem lenSV_ints (o : Option (List Int)) : lenSV (intsV o) = some (ol o).length := by cases o <;> rfl
theorem rowSV_ints (o : Option (List Int)) (σ : St) : rowSV σ (intsV o) = some ((ol o).map SV.int) := by cases o <;> rfl
theorem cut_eq' {cs : List SV} {off n : Nat} (h : off + n ≤ cs.length) : cut cs off n = some ((cs.drop off).take n) := by rw [cut_def]; rw [if_pos h]
theorem cut_whole {cs : List SV} {n : Nat} (h : n = cs.length) : cut cs 0 n = some cs := by subst h; rw [cut_eq' (by omega), List.drop_zero, List.take_length]
theorem cut_one {cs : List SV} {i : Nat} {x : SV} (h : cs[i]? = some x) : cut cs i 1 = some [x] := by
  obtain ⟨h1, h2⟩ := List.getElem?_eq_some_iff.1 h
  rw [cut_eq' (by omega), List.drop_eq_getElem_cons h1]
  simp [h2]
theorem cut_ints {l : List Int} {i : Nat} {x : Int} (h : l[i]? = some x) : cut (l.map SV.int) i 1 = some [.sc (.int .i64 x)] := cut_one (by simp [h, SV.int])
theorem get_of_lt {α : Type} {l : List α} {i : Nat} (h : i < l.length) : ∃ x, l[i]? = some x := ⟨_, List.getElem?_eq_getElem h⟩

theorem cut_get {cs r : List SV} {off n : Nat} (h : cut cs off n = some r) {i : Nat} {x : SV} (hx : r[i]? = some x) : cut cs (off + i) 1 = some [x] := by
  rw [cut_def] at h
  split at h
  · rename_i hle
    cases h
    rw [List.getElem?_take] at hx
    split at hx
    · rw [List.getElem?_drop] at hx
      exact cut_one hx
    · cases hx
  · cases h
theorem cut_less {cs r : List SV} {off n : Nat} (h : cut cs off n = some r) {m : Nat} (hm : m ≤ n) : cut cs off m = some (r.take m) := by
  rw [cut_def] at h
  split at h
  · cases h
    rw [cut_eq' (by omega), List.take_take, Nat.min_eq_left hm]
  · cases h
/-- Numbers of a row. -/
def natCells (l : List Nat) : List SV := l.map fun x : Nat => .sc (.int .i64 (x : Int))
theorem natCells_get {l : List Nat} {i x : Nat} (h : l[i]? = some x) : (natCells l)[i]? = some (.sc (.int .i64 (x : Int))) := by simp [natCells, h]
theorem natCells_len (l : List Nat) : (natCells l).length = l.length := by simp [natCells]
theorem natCells_append (l m : List Nat) : natCells (l ++ m) = natCells l ++ natCells m := by simp [natCells]
theorem concat_of_ne {α : Type} {l : List α} (h : l ≠ []) : ∃ i x, l = i ++ [x] := ⟨l.dropLast, l.getLast h, (List.dropLast_concat_getLast h).symm⟩
/-- A row that has been built is read as it is. -/
theorem frz_sl {σ : St} {id off n sz : Nat} {cs ds : List SV} (h : cellsOf σ id = some cs) (hc : cut cs off (n * sz) = some ds) (hp : pures ds = true) : frz σ 20 (.sl id off n sz) = some (.lst n sz ds) := by
  show frz σ (19 + 1) _ = _
  unfold frz
  rw [if_neg (by simp [SV.pure])]
  simp only [h, Option.bind_some, hc]
  rw [show (19 : Nat) = 18 + 1 from rfl, mapO_pures hp]
  rfl
theorem frz_of_pure {σ : St} {v : SV} (h : v.pure = true) : frz σ 20 v = some v := frz_pure h

/-! ### Sets of blocks -/
def setCells (f : Nat → Bool) : List SV := (List.range 200).map (fun i => .sc (.bool (f i)))
def setV (f : Nat → Bool) : SV := .agg (setCells f)
theorem setCells_len (f : Nat → Bool) : (setCells f).length = 200 := by simp [setCells]
theorem setCells_get {f : Nat → Bool} {i : Nat} (h : i < 200) : (setCells f)[i]? = some (.sc (.bool (f i))) := by simp [setCells, h]
theorem pures_set (f : Nat → Bool) : pures (setCells f) = true := by rw [pures_iff]; intro c hc; obtain ⟨x, _, rfl⟩ := List.mem_map.1 hc; rfl
theorem flats_set (f : Nat → Bool) : flats (setCells f) = true := by rw [flats_iff]; intro c hc; obtain ⟨x, _, rfl⟩ := List.mem_map.1 hc; rfl
theorem pure_set (f : Nat → Bool) : (setV f).pure = true := pures_set f
theorem flat_set (f : Nat → Bool) : (setV f).flat0 = true := flats_set f
theorem frz_setc (σ : St) (f : Nat → Bool) : frz σ 20 (.agg (setCells f)) = some (.agg (setCells f)) := frz_pure (pure_set f)
theorem setCells_none : List.replicate 200 (.sc (.bool false)) = setCells (fun _ => false) := by
  apply List.ext_getElem?
  intro i
  by_cases h : i < 200
  · rw [setCells_get h, List.getElem?_replicate, if_pos h]
  · rw [List.getElem?_replicate, if_neg h, List.getElem?_eq_none (by rw [setCells_len]; omega)]
theorem paste_one {cs : List SV} {i : Nat} {v : SV} (h : i < cs.length) : paste cs i [v] = cs.set i v := by
  rw [paste_def]
  rw [List.set_eq_take_append_cons_drop, if_pos h]
  simp
theorem paste_set {f : Nat → Bool} {i : Nat} (b : Bool) (h : i < 200) : paste (setCells f) i [.sc (.bool b)] = setCells (fun j => if j = i then b else f j) := by
  rw [paste_one (by rw [setCells_len]; exact h)]
  apply List.ext_getElem?
  intro j
  rw [List.getElem?_set]
  by_cases hj : j < 200
  · rw [setCells_get hj]
    by_cases e : i = j
    · subst e; rw [if_pos rfl, if_pos (by rw [setCells_len]; exact h), setCells_get hj, if_pos rfl]
    · rw [if_neg e, setCells_get hj, if_neg (fun e' => e e'.symm)]
  · have : ¬ i = j := by omega
    rw [if_neg this, List.getElem?_eq_none (by rw [setCells_len]; omega), List.getElem?_eq_none (by rw [setCells_len]; omega)]
theorem cut_set {f : Nat → Bool} {i : Nat} (h : i < 200) : cut (setCells f) i 1 = some [.sc (.bool (f i))] := cut_one (setCells_get h)
theorem cut_all {f : Nat → Bool} : cut (setCells f) 0 200 = some (setCells f) := cut_whole (setCells_len f).symm
theorem paste_whole {cs ds : List SV} (h : ds.length = cs.length) : paste cs 0 ds = ds := by
  rw [paste_def]
  rw [List.drop_eq_nil_of_le (by omega)]
  simp
theorem paste_all {f g : Nat → Bool} : paste (setCells f) 0 (setCells g) = setCells g := paste_whole (by rw [setCells_len, setCells_len])
theorem setCells_congr {f g : Nat → Bool} (h : ∀ i, i < 200 → f i = g i) : setCells f = setCells g := by
  unfold setCells
  apply List.map_congr_left
  intro i hi
  rw [h i (List.mem_range.1 hi)]
theorem setCells_inj {f g : Nat → Bool} (h : setCells f = setCells g) : ∀ i, i < 200 → f i = g i := by
  intro i hi
  have h1 := setCells_get (f := f) hi
  rw [h, setCells_get hi] at h1
  injection h1 with h1; injection h1 with h1; injection h1 with h1; exact h1.symm
theorem eqCells_bools {α : Type} (f g : α → Bool) : ∀ l : List α, eqCells 1 (l.map fun i => .sc (.bool (f i))) (l.map fun i => .sc (.bool (g i))) = some (l.all fun i => f i == g i)
  | [] => rfl
  | x :: l => by
    simp only [List.map_cons, eqCells, List.all_cons, eqCells_bools f g l, Option.map_some]
    cases f x <;> cases g x <;> simp
def setEq (f g : Nat → Bool) : Bool := (List.range 200).all fun i => f i == g i
theorem setEq_iff {f g : Nat → Bool} : setEq f g = true ↔ ∀ i, i < 200 → f i = g i := by simp [setEq]
theorem eqSV_set (f g : Nat → Bool) : eqSV 5 200 (.agg (setCells f)) (.agg (setCells g)) = some (setEq f g) := by
  have h : Nat.beq (setCells f).length 200 = true := by rw [setCells_len]; rfl
  unfold eqSV
  simp only [h, Bool.and_true]
  show eqCells 1 (setCells f) (setCells g) = _
  unfold setCells
  rw [eqCells_bools]; rfl
end Go.Proofs.Ytojjhcgbbmknmaa.Sh

/- Small functions: variables; ends of blocks. -/
namespace Go.Proofs.Ytojjhcgbbmknmaa.Sh
set_option linter.unusedSimpArgs false
set_option linter.unusedVariables false
open Go Go.Proofs

theorem t_variable (n : Int) : Tells 93 [.sc (.int .i64 n)] (.sc (.bool (decide (1 ≤ n ∧ n ≤ 200)))) := by
  refine tells_fn rfl rfl rfl rfl ?_
  by_cases h1 : n ≥ 1
  · repeat (first | (with_reducible refine Nx.go ?_) | ((with_reducible refine Ny.go ?_); (conv => arg 1; simp only [ev, sop, bounds, loI, hiI, fillParts, binSV, intBin, unSV, simprocAttr, h1, recheck, wantedS, SV.same_self, Bool.and_self]); (first | (with_reducible refine Nz.go ?_) | refine Hold_some ?_)))
    (refine Hold1_of ?_; (conv => arg 1; simp only [ev, sop, bounds, loI, hiI, fillParts, binSV, intBin, unSV, simprocAttr, resultsSV, resMany, resOne]); refine Hold1_some ?_)
    simp [frz, SV.pure, h1]
  · repeat (first | (with_reducible refine Nx.go ?_) | ((with_reducible refine Ny.go ?_); (conv => arg 1; simp only [ev, sop, bounds, loI, hiI, fillParts, binSV, intBin, unSV, simprocAttr, h1, recheck, wantedS, SV.same_self, Bool.and_self]); (first | (with_reducible refine Nz.go ?_) | refine Hold_some ?_)))
    (refine Hold1_of ?_; (conv => arg 1; simp only [ev, sop, bounds, loI, hiI, fillParts, binSV, intBin, unSV, simprocAttr, resultsSV, resMany, resOne]); refine Hold1_some ?_)
    simp [frz, SV.pure, h1]

theorem t_fits (b : Bool) (n : Int) : Tells 94 [.sc (.bool b), .sc (.int .i64 n)] (.sc (.bool (if b = true then decide (1 ≤ n ∧ n ≤ 200) else decide (n = 0)))) := by
  refine tells_fn rfl rfl rfl rfl ?_
  cases b
  · repeat (first | (with_reducible refine Nx.go ?_) | ((with_reducible refine Ny.go ?_); (conv => arg 1; simp only [ev, sop, bounds, loI, hiI, fillParts, binSV, intBin, unSV, simprocAttr, recheck, wantedS, SV.same_self, Bool.and_self]); (first | (with_reducible refine Nz.go ?_) | refine Hold_some ?_)))
    (refine Hold1_of ?_; (conv => arg 1; simp only [ev, sop, bounds, loI, hiI, fillParts, binSV, intBin, unSV, simprocAttr, resultsSV, resMany, resOne]); refine Hold1_some ?_)
    by_cases h : n = 0 <;> simp [frz, SV.pure, h]
  · repeat (first | (with_reducible refine Nx.go ?_) | ((with_reducible refine Ny.go ?_); (conv => arg 1; simp only [ev, sop, bounds, loI, hiI, fillParts, binSV, intBin, unSV, simprocAttr, recheck, wantedS, SV.same_self, Bool.and_self]); (first | (with_reducible refine Nz.go ?_) | refine Hold_some ?_)))
    refine st_tellp (t_variable n) ⟨_, rfl, by first | omega | decide⟩ wantedS_none (by simp only [ev, sop, bounds, loI, hiI, fillParts, binSV, intBin, unSV, simprocAttr] <;> rfl) (by first | rfl | simp [pures, SV.pure, *]) (by first | with_reducible exact recheck_nil | (simp only [recheck, wantedS]; simp only [ev, sop, bounds, loI, hiI, fillParts, binSV, intBin, unSV, simprocAttr]; simp only [SV.same_self, Bool.and_self, beq_self_eq_true])) ?_
    repeat (first | (with_reducible refine Nx.go ?_) | ((with_reducible refine Ny.go ?_); (conv => arg 1; simp only [ev, sop, bounds, loI, hiI, fillParts, binSV, intBin, unSV, simprocAttr, recheck, wantedS, SV.same_self, Bool.and_self]); (first | (with_reducible refine Nz.go ?_) | refine Hold_some ?_)))
    (refine Hold1_of ?_; (conv => arg 1; simp only [ev, sop, bounds, loI, hiI, fillParts, binSV, intBin, unSV, simprocAttr, resultsSV, resMany, resOne]); refine Hold1_some ?_)
    simp [frz, SV.pure]

/-- The first place at which something holds. -/
theorem c_indexFunc {m : Nat} {o : Option (List Int)} {g : SV} {σ : St} (p : Int → Bool) (J : St → Prop) (hl : (ol o).length ≤ 2 ^ 62) (hJ : J σ) (hg : ∀ n ∈ ol o, ∀ σ1, J σ1 → WPC (EV m) g [.sc (.int .i64 n)] σ1 (fun v σ2 => v = .sc (.bool (p n)) ∧ J σ2)) :
    WPF (EV m) 113 [intsV o, g] σ (fun v σ' => v = .sc (.int .i64 (match (ol o).findIdx? p with | some i => i | none => -1)) ∧ J σ') := by
  refine inline_fn rfl rfl rfl rfl ?_
  repeat (first | (with_reducible refine Nx.go ?_) | ((with_reducible refine Ny.go ?_); (conv => arg 1; simp only [ev, sop, bounds, loI, hiI, fillParts, binSV, intBin, unSV, simprocAttr, lenSV_ints, recheck, wantedS, SV.same_self, Bool.and_self]); (first | (with_reducible refine Nz.go ?_) | refine Hold_some ?_)))
  refine WP_range (N := (ol o).length) (fun k t σ1 => getT t 0 = intsV o ∧ getT t 1 = g ∧ J σ1 ∧ ∀ j x, j < k → (ol o)[j]? = some x → p x = false) hl (by simp only [ev, sop, bounds, loI, hiI, fillParts, binSV, intBin, unSV, simprocAttr]) (by simp only [ev, sop, bounds, loI, hiI, fillParts, binSV, intBin, unSV, simprocAttr]) (by decide) ⟨by simp only [ev, sop, bounds, loI, hiI, fillParts, binSV, intBin, unSV, simprocAttr], by simp only [ev, sop, bounds, loI, hiI, fillParts, binSV, intBin, unSV, simprocAttr], hJ, by simp⟩ ?_ ?_
  · rintro k t σ1 hlt h7 h8 ⟨h0, h1, hj, hno⟩
    obtain ⟨n, hn⟩ := get_of_lt hlt
    have hv : intsV o = .lst (ol o).length 1 ((ol o).map SV.int) := by
      cases o with
      | none => simp [ol] at hlt
      | some l => rfl
    have hc := cut_ints hn
    repeat (first | (with_reducible refine Nx.go ?_) | ((with_reducible refine Ny.go ?_); (conv => arg 1; simp only [ev, sop, bounds, loI, hiI, fillParts, binSV, intBin, unSV, simprocAttr, h0, h1, h8, hv, hlt, hc, recheck, wantedS, SV.same_self, Bool.and_self]); (first | (with_reducible refine Nz.go ?_) | refine Hold_some ?_)))
    refine st_callv (by first | with_reducible exact wantedS_none | (refine wantedS_some ?_; simp only [ev, sop, bounds, loI, hiI, fillParts, binSV, intBin, unSV, simprocAttr]; done)) (by simp only [ev, sop, bounds, loI, hiI, fillParts, binSV, intBin, unSV, simprocAttr] <;> rfl) (by simp only [ev, sop, bounds, loI, hiI, fillParts, binSV, intBin, unSV, simprocAttr] <;> rfl) ?_
    refine (hg n (List.mem_of_getElem? hn) σ1 hj).mono ?_
    rintro v σ2 ⟨rfl, hj2⟩
    refine ⟨recheck_nil, ?_⟩
    cases hp : p n with
    | true =>
      repeat (first | (with_reducible refine Nx.go ?_) | ((with_reducible refine Ny.go ?_); (conv => arg 1; simp only [ev, sop, bounds, loI, hiI, fillParts, binSV, intBin, unSV, simprocAttr, recheck, wantedS, SV.same_self, Bool.and_self]); (first | (with_reducible refine Nz.go ?_) | refine Hold_some ?_)))
      (refine Hold1_of ?_; (conv => arg 1; simp only [ev, sop, bounds, loI, hiI, fillParts, binSV, intBin, unSV, simprocAttr, resultsSV, resMany, resOne]); refine Hold1_some ?_)
      refine ⟨?_, hj2⟩
      have : (ol o).findIdx? p = some k := by
        rw [List.findIdx?_eq_some_iff_getElem]
        refine ⟨hlt, ?_, fun j hj => ?_⟩
        · rw [(List.getElem?_eq_some_iff.1 hn).2]; exact hp
        · have := hno j (ol o)[j] hj (List.getElem?_eq_getElem (by omega))
          simp [this]
      rw [this]
    | false =>
      repeat (first | (with_reducible refine Nx.go ?_) | ((with_reducible refine Ny.go ?_); (conv => arg 1; simp only [ev, sop, bounds, loI, hiI, fillParts, binSV, intBin, unSV, simprocAttr, recheck, wantedS, SV.same_self, Bool.and_self]); (first | (with_reducible refine Nz.go ?_) | refine Hold_some ?_)))
      refine ⟨by simp only [ev, sop, bounds, loI, hiI, fillParts, binSV, intBin, unSV, simprocAttr, h7], by simp only [ev, sop, bounds, loI, hiI, fillParts, binSV, intBin, unSV, simprocAttr, h8], fun v w => ⟨by simp only [ev, sop, bounds, loI, hiI, fillParts, binSV, intBin, unSV, simprocAttr, h0], by simp only [ev, sop, bounds, loI, hiI, fillParts, binSV, intBin, unSV, simprocAttr, h1], hj2, fun j x hj hx => ?_⟩⟩
      by_cases e : j = k
      · subst e; rw [hn] at hx; cases hx; exact hp
      · exact hno j x (by omega) hx
  · rintro t σ1 ⟨h0, h1, hj, hno⟩
    repeat (first | (with_reducible refine Nx.go ?_) | ((with_reducible refine Ny.go ?_); (conv => arg 1; simp only [ev, sop, bounds, loI, hiI, fillParts, binSV, intBin, unSV, simprocAttr, recheck, wantedS, SV.same_self, Bool.and_self]); (first | (with_reducible refine Nz.go ?_) | refine Hold_some ?_)))
    (refine Hold1_of ?_; (conv => arg 1; simp only [ev, sop, bounds, loI, hiI, fillParts, binSV, intBin, unSV, simprocAttr, resultsSV, resMany, resOne]); refine Hold1_some ?_)
    refine ⟨?_, hj⟩
    have : (ol o).findIdx? p = none := by
      rw [List.findIdx?_eq_none_iff]
      intro x hx
      obtain ⟨j, hj⟩ := List.mem_iff_getElem?.1 hx
      exact hno j x (List.getElem?_eq_some_iff.1 hj).1 hj
    rw [this]
theorem c_containsFunc {m : Nat} {o : Option (List Int)} {g : SV} {σ : St} (p : Int → Bool) (J : St → Prop) (hl : (ol o).length ≤ 2 ^ 62) (hJ : J σ) (hg : ∀ n ∈ ol o, ∀ σ1, J σ1 → WPC (EV m) g [.sc (.int .i64 n)] σ1 (fun v σ2 => v = .sc (.bool (p n)) ∧ J σ2)) :
    WPF (EV m) 90 [intsV o, g] σ (fun v σ' => v = .sc (.bool ((ol o).any p)) ∧ J σ') := by
  refine inline_fn rfl rfl rfl rfl ?_
  repeat (first | (with_reducible refine Nx.go ?_) | ((with_reducible refine Ny.go ?_); (conv => arg 1; simp only [ev, sop, bounds, loI, hiI, fillParts, binSV, intBin, unSV, simprocAttr, recheck, wantedS, SV.same_self, Bool.and_self]); (first | (with_reducible refine Nz.go ?_) | refine Hold_some ?_)))
  refine st_callf (by first | with_reducible exact wantedS_none | (refine wantedS_some ?_; simp only [ev, sop, bounds, loI, hiI, fillParts, binSV, intBin, unSV, simprocAttr]; done)) (by simp only [ev, sop, bounds, loI, hiI, fillParts, binSV, intBin, unSV, simprocAttr] <;> rfl) (by simp only [ev, sop, bounds, loI, hiI, fillParts, binSV, intBin, unSV, simprocAttr] <;> rfl) ?_
  refine (c_indexFunc p J hl hJ hg).mono ?_
  rintro v σ1 ⟨rfl, hj⟩
  refine ⟨recheck_nil, ?_⟩
  repeat (first | (with_reducible refine Nx.go ?_) | ((with_reducible refine Ny.go ?_); (conv => arg 1; simp only [ev, sop, bounds, loI, hiI, fillParts, binSV, intBin, unSV, simprocAttr, recheck, wantedS, SV.same_self, Bool.and_self]); (first | (with_reducible refine Nz.go ?_) | refine Hold_some ?_)))
  (refine Hold1_of ?_; (conv => arg 1; simp only [ev, sop, bounds, loI, hiI, fillParts, binSV, intBin, unSV, simprocAttr, resultsSV, resMany, resOne]); refine Hold1_some ?_)
  refine ⟨?_, hj⟩
  cases hf : (ol o).findIdx? p with
  | none =>
    rw [List.findIdx?_eq_none_iff] at hf
    have : (ol o).any p = false := by rw [List.any_eq_false]; intro x hx; simp [hf x hx]
    rw [this]; rfl
  | some i =>
    rw [List.findIdx?_eq_some_iff_getElem] at hf
    obtain ⟨hi, hp, _⟩ := hf
    have : (ol o).any p = true := List.any_eq_true.2 ⟨(ol o)[i], List.getElem_mem hi, hp⟩
    rw [this]
    simp

theorem t_none (o : Option (List Int)) (hl : (ol o).length ≤ 2 ^ 62) : Tells 92 [intsV o] (.sc (.bool ((ol o).all (fun n => decide (n = 0))))) := by
  refine tells_fn rfl rfl rfl rfl ?_
  repeat (first | (with_reducible refine Nx.go ?_) | ((with_reducible refine Ny.go ?_); (conv => arg 1; simp only [ev, sop, bounds, loI, hiI, fillParts, binSV, intBin, unSV, simprocAttr, recheck, wantedS, SV.same_self, Bool.and_self]); (first | (with_reducible refine Nz.go ?_) | refine Hold_some ?_)))
  refine st_callf (by first | with_reducible exact wantedS_none | (refine wantedS_some ?_; simp only [ev, sop, bounds, loI, hiI, fillParts, binSV, intBin, unSV, simprocAttr]; done)) (by simp only [ev, sop, bounds, loI, hiI, fillParts, binSV, intBin, unSV, simprocAttr] <;> rfl) (by simp only [ev, sop, bounds, loI, hiI, fillParts, binSV, intBin, unSV, simprocAttr] <;> rfl) ?_
  refine (c_containsFunc (fun n => decide (n ≠ 0)) (· = St.empty) hl rfl (fun n _ σ1 e => ?_)).mono ?_
  · refine WPC_fn (inline_fn rfl rfl rfl rfl ?_)
    repeat (first | (with_reducible refine Nx.go ?_) | ((with_reducible refine Ny.go ?_); (conv => arg 1; simp only [ev, sop, bounds, loI, hiI, fillParts, binSV, intBin, unSV, simprocAttr, recheck, wantedS, SV.same_self, Bool.and_self]); (first | (with_reducible refine Nz.go ?_) | refine Hold_some ?_)))
    (refine Hold1_of ?_; (conv => arg 1; simp only [ev, sop, bounds, loI, hiI, fillParts, binSV, intBin, unSV, simprocAttr, resultsSV, resMany, resOne]); refine Hold1_some ?_)
    refine ⟨?_, e⟩
    by_cases h : n = 0 <;> simp [h]
  · rintro v σ1 ⟨rfl, rfl⟩
    refine ⟨recheck_nil, ?_⟩
    repeat (first | (with_reducible refine Nx.go ?_) | ((with_reducible refine Ny.go ?_); (conv => arg 1; simp only [ev, sop, bounds, loI, hiI, fillParts, binSV, intBin, unSV, simprocAttr, recheck, wantedS, SV.same_self, Bool.and_self]); (first | (with_reducible refine Nz.go ?_) | refine Hold_some ?_)))
    (refine Hold1_of ?_; (conv => arg 1; simp only [ev, sop, bounds, loI, hiI, fillParts, binSV, intBin, unSV, simprocAttr, resultsSV, resMany, resOne]); refine Hold1_some ?_)
    rw [frz_of_pure rfl]
    simp [List.all_eq_not_any_not]
end Go.Proofs.Ytojjhcgbbmknmaa.Sh

/- Ends of blocks: are they right? where may they go? -/
namespace Go.Proofs.Ytojjhcgbbmknmaa.Sh
set_option linter.unusedSimpArgs false
set_option linter.unusedVariables false
open Go Go.Proofs

structure TermD where
  k : Int
  a : Int
  x : Int
  y : Int
def TermD.cells (d : TermD) : List SV := [.sc (.int .i64 d.k), .sc (.int .i64 d.a), .sc (.int .i64 d.x), .sc (.int .i64 d.y)]
def TermD.sv (d : TermD) : SV := .agg d.cells
/-- Is an end right? -/
def TermD.ok (d : TermD) : Bool :=
  if d.k = 1 then decide (d.a = 0 ∧ d.y = 0) else if d.k = 2 then decide (1 ≤ d.a ∧ d.a ≤ 200) else if d.k = 3 then decide (0 ≤ d.a ∧ d.a ≤ 200 ∧ d.x = 0 ∧ d.y = 0) else decide (d.k = 4 ∧ d.a = 0 ∧ d.x = 0 ∧ d.y = 0)

set_option maxHeartbeats 1000000 in
theorem t_isTerm (d : TermD) : Tells 66 [d.sv] (.sc (.bool d.ok)) := by
  obtain ⟨k, a, x, y⟩ := d
  refine tells_fn rfl rfl rfl rfl ?_
  unfold TermD.sv TermD.cells
  by_cases h1 : (k == 1) = true
  · have e1 : k = 1 := by simpa using h1
    repeat (first | (with_reducible refine Nx.go ?_) | ((with_reducible refine Ny.go ?_); (conv => arg 1; simp only [ev, sop, bounds, loI, hiI, fillParts, binSV, intBin, unSV, simprocAttr, h1, recheck, wantedS, SV.same_self, Bool.and_self]); (first | (with_reducible refine Nz.go ?_) | refine Hold_some ?_)))
    refine st_tellz (t_none (some [a, y]) (by simp [ol])) ⟨_, rfl, by first | omega | decide⟩ wantedS_none (by simp only [ev, sop, bounds, loI, hiI, fillParts, binSV, intBin, unSV, simprocAttr] <;> rfl) (by simp only [ev, sop, bounds, loI, hiI, fillParts, binSV, intBin, unSV, simprocAttr, mapO, frz, SV.pure, pures, Bool.and_true, Bool.and_self] <;> rfl) (by first | with_reducible exact flat_set _ | rfl) (by first | with_reducible exact recheck_nil | (simp only [recheck, wantedS]; simp only [ev, sop, bounds, loI, hiI, fillParts, binSV, intBin, unSV, simprocAttr]; simp only [SV.same_self, Bool.and_self, beq_self_eq_true])) ?_
    repeat (first | (with_reducible refine Nx.go ?_) | ((with_reducible refine Ny.go ?_); (conv => arg 1; simp only [ev, sop, bounds, loI, hiI, fillParts, binSV, intBin, unSV, simprocAttr, h1, recheck, wantedS, SV.same_self, Bool.and_self]); (first | (with_reducible refine Nz.go ?_) | refine Hold_some ?_)))
    (refine Hold1_of ?_; (conv => arg 1; simp only [ev, sop, bounds, loI, hiI, fillParts, binSV, intBin, unSV, simprocAttr, resultsSV, resMany, resOne]); refine Hold1_some ?_)
    rw [frz_of_pure rfl]
    subst e1
    simp [TermD.ok, ol]
  have e1 : (k == 1) = false := by simpa using h1
  have e1' : ¬ k = 1 := by simpa using e1
  by_cases h2 : (k == 2) = true
  · have e2 : k = 2 := by simpa using h2
    repeat (first | (with_reducible refine Nx.go ?_) | ((with_reducible refine Ny.go ?_); (conv => arg 1; simp only [ev, sop, bounds, loI, hiI, fillParts, binSV, intBin, unSV, simprocAttr, e1, h2, recheck, wantedS, SV.same_self, Bool.and_self]); (first | (with_reducible refine Nz.go ?_) | refine Hold_some ?_)))
    refine st_tellp (t_variable a) ⟨_, rfl, by first | omega | decide⟩ wantedS_none (by simp only [ev, sop, bounds, loI, hiI, fillParts, binSV, intBin, unSV, simprocAttr] <;> rfl) (by first | rfl | simp [pures, SV.pure, *]) (by first | with_reducible exact recheck_nil | (simp only [recheck, wantedS]; simp only [ev, sop, bounds, loI, hiI, fillParts, binSV, intBin, unSV, simprocAttr]; simp only [SV.same_self, Bool.and_self, beq_self_eq_true])) ?_
    repeat (first | (with_reducible refine Nx.go ?_) | ((with_reducible refine Ny.go ?_); (conv => arg 1; simp only [ev, sop, bounds, loI, hiI, fillParts, binSV, intBin, unSV, simprocAttr, e1, h2, recheck, wantedS, SV.same_self, Bool.and_self]); (first | (with_reducible refine Nz.go ?_) | refine Hold_some ?_)))
    (refine Hold1_of ?_; (conv => arg 1; simp only [ev, sop, bounds, loI, hiI, fillParts, binSV, intBin, unSV, simprocAttr, resultsSV, resMany, resOne]); refine Hold1_some ?_)
    rw [frz_of_pure rfl]
    subst e2
    simp [TermD.ok]
  have e2 : (k == 2) = false := by simpa using h2
  have e2' : ¬ k = 2 := by simpa using e2
  by_cases h3 : (k == 3) = true
  · have e3 : k = 3 := by simpa using h3
    repeat (first | (with_reducible refine Nx.go ?_) | ((with_reducible refine Ny.go ?_); (conv => arg 1; simp only [ev, sop, bounds, loI, hiI, fillParts, binSV, intBin, unSV, simprocAttr, e1, e2, h3, recheck, wantedS, SV.same_self, Bool.and_self]); (first | (with_reducible refine Nz.go ?_) | refine Hold_some ?_)))
    refine st_tellp (t_fits (a != 0) a) ⟨_, rfl, by first | omega | decide⟩ wantedS_none (by simp only [ev, sop, bounds, loI, hiI, fillParts, binSV, intBin, unSV, simprocAttr] <;> rfl) (by first | rfl | simp [pures, SV.pure, *]) (by first | with_reducible exact recheck_nil | (simp only [recheck, wantedS]; simp only [ev, sop, bounds, loI, hiI, fillParts, binSV, intBin, unSV, simprocAttr]; simp only [SV.same_self, Bool.and_self, beq_self_eq_true])) ?_
    have hfb : (if (a != 0) = true then decide (1 ≤ a ∧ a ≤ 200) else decide (a = 0)) = decide (0 ≤ a ∧ a ≤ 200) := by
      by_cases ha : a = 0
      · subst ha; simp
      · rw [if_pos (by simpa using ha)]
        exact decide_eq_decide.2 ⟨fun h => by omega, fun h => by omega⟩
    rw [hfb]
    by_cases ha : 0 ≤ a ∧ a ≤ 200
    · have hd : decide (0 ≤ a ∧ a ≤ 200) = true := by simpa using ha
      repeat (first | (with_reducible refine Nx.go ?_) | ((with_reducible refine Ny.go ?_); (conv => arg 1; simp only [ev, sop, bounds, loI, hiI, fillParts, binSV, intBin, unSV, simprocAttr, e1, e2, h3, hd, recheck, wantedS, SV.same_self, Bool.and_self]); (first | (with_reducible refine Nz.go ?_) | refine Hold_some ?_)))
      refine st_tellz (t_none (some [x, y]) (by simp [ol])) ⟨_, rfl, by first | omega | decide⟩ wantedS_none (by simp only [ev, sop, bounds, loI, hiI, fillParts, binSV, intBin, unSV, simprocAttr, hd] <;> rfl) (by simp only [ev, sop, bounds, loI, hiI, fillParts, binSV, intBin, unSV, simprocAttr, hd, mapO, frz, SV.pure, pures, Bool.and_true, Bool.and_self] <;> rfl) (by first | with_reducible exact flat_set _ | rfl) (by first | with_reducible exact recheck_nil | (simp only [recheck, wantedS]; simp only [ev, sop, bounds, loI, hiI, fillParts, binSV, intBin, unSV, simprocAttr, hd]; simp only [SV.same_self, Bool.and_self, beq_self_eq_true])) ?_
      repeat (first | (with_reducible refine Nx.go ?_) | ((with_reducible refine Ny.go ?_); (conv => arg 1; simp only [ev, sop, bounds, loI, hiI, fillParts, binSV, intBin, unSV, simprocAttr, e1, e2, h3, hd, recheck, wantedS, SV.same_self, Bool.and_self]); (first | (with_reducible refine Nz.go ?_) | refine Hold_some ?_)))
      (refine Hold1_of ?_; (conv => arg 1; simp only [ev, sop, bounds, loI, hiI, fillParts, binSV, intBin, unSV, simprocAttr, resultsSV, resMany, resOne]); refine Hold1_some ?_)
      rw [frz_of_pure rfl]
      subst e3
      simp [TermD.ok, ol, ha]
    · have hd : decide (0 ≤ a ∧ a ≤ 200) = false := by simpa using ha
      repeat (first | (with_reducible refine Nx.go ?_) | ((with_reducible refine Ny.go ?_); (conv => arg 1; simp only [ev, sop, bounds, loI, hiI, fillParts, binSV, intBin, unSV, simprocAttr, e1, e2, h3, hd, recheck, wantedS, SV.same_self, Bool.and_self]); (first | (with_reducible refine Nz.go ?_) | refine Hold_some ?_)))
      (refine Hold1_of ?_; (conv => arg 1; simp only [ev, sop, bounds, loI, hiI, fillParts, binSV, intBin, unSV, simprocAttr, resultsSV, resMany, resOne]); refine Hold1_some ?_)
      rw [frz_of_pure rfl]
      subst e3
      simp [TermD.ok]
      omega
  have e3 : (k == 3) = false := by simpa using h3
  have e3' : ¬ k = 3 := by simpa using e3
  by_cases h4 : (k == 4) = true
  · have e4 : k = 4 := by simpa using h4
    repeat (first | (with_reducible refine Nx.go ?_) | ((with_reducible refine Ny.go ?_); (conv => arg 1; simp only [ev, sop, bounds, loI, hiI, fillParts, binSV, intBin, unSV, simprocAttr, e1, e2, e3, h4, recheck, wantedS, SV.same_self, Bool.and_self]); (first | (with_reducible refine Nz.go ?_) | refine Hold_some ?_)))
    refine st_tellz (t_none (some [a, x, y]) (by simp [ol])) ⟨_, rfl, by first | omega | decide⟩ wantedS_none (by simp only [ev, sop, bounds, loI, hiI, fillParts, binSV, intBin, unSV, simprocAttr, h4] <;> rfl) (by simp only [ev, sop, bounds, loI, hiI, fillParts, binSV, intBin, unSV, simprocAttr, h4, mapO, frz, SV.pure, pures, Bool.and_true, Bool.and_self] <;> rfl) (by first | with_reducible exact flat_set _ | rfl) (by first | with_reducible exact recheck_nil | (simp only [recheck, wantedS]; simp only [ev, sop, bounds, loI, hiI, fillParts, binSV, intBin, unSV, simprocAttr, h4]; simp only [SV.same_self, Bool.and_self, beq_self_eq_true])) ?_
    repeat (first | (with_reducible refine Nx.go ?_) | ((with_reducible refine Ny.go ?_); (conv => arg 1; simp only [ev, sop, bounds, loI, hiI, fillParts, binSV, intBin, unSV, simprocAttr, e1, e2, e3, h4, recheck, wantedS, SV.same_self, Bool.and_self]); (first | (with_reducible refine Nz.go ?_) | refine Hold_some ?_)))
    (refine Hold1_of ?_; (conv => arg 1; simp only [ev, sop, bounds, loI, hiI, fillParts, binSV, intBin, unSV, simprocAttr, resultsSV, resMany, resOne]); refine Hold1_some ?_)
    rw [frz_of_pure rfl]
    subst e4
    simp [TermD.ok, ol]
  · have e4 : (k == 4) = false := by simpa using h4
    have e4' : ¬ k = 4 := by simpa using e4
    repeat (first | (with_reducible refine Nx.go ?_) | ((with_reducible refine Ny.go ?_); (conv => arg 1; simp only [ev, sop, bounds, loI, hiI, fillParts, binSV, intBin, unSV, simprocAttr, e1, e2, e3, e4, recheck, wantedS, SV.same_self, Bool.and_self]); (first | (with_reducible refine Nz.go ?_) | refine Hold_some ?_)))
    (refine Hold1_of ?_; (conv => arg 1; simp only [ev, sop, bounds, loI, hiI, fillParts, binSV, intBin, unSV, simprocAttr, resultsSV, resMany, resOne]); refine Hold1_some ?_)
    rw [frz_of_pure rfl]
    simp [TermD.ok, e1', e2', e3', e4']

/-- A row that is not nil is cloned. -/
theorem c_clone {m : Nat} {v : SV} {cs : List SV} {n : Nat} {σ : St} (hr : rowSV (σ.push (.cells [])) v = some cs) (hn : lenSV v = some n) (hc : cs.length = n) (hl : n ≤ 2 ^ 36) (hnil : v ≠ .sc .nilsl) :
    WPF (EV m) 47 [v] σ (fun v' σ' => v' = .sl (σ.next + 1) 0 n 1 ∧ σ' = ((σ.push (.cells [])).set σ.next .dead).push (.cells cs)) := by
  have hb : binSV 3 1 .eql v (.sc .nilsl) = some (.sc (.bool false)) := by
    cases v with
    | sc s => cases s <;> first | (exact absurd rfl hnil) | (simp [lenSV] at hn)
    | sl => rfl
    | lst => rfl
    | _ => simp [lenSV] at hn
  have hm : n * 8 ≤ 2 ^ 40 ∧ n ≤ 2 ^ 40 := by omega
  refine inline_fn rfl rfl rfl rfl ?_
  refine WP_seq.2 ?_
  repeat (first | (with_reducible refine Nx.go ?_) | ((with_reducible refine Ny.go ?_); (conv => arg 1; simp only [ev, sop, bounds, loI, hiI, fillParts, binSV, intBin, unSV, simprocAttr, recheck, wantedS, SV.same_self, Bool.and_self]); (first | (with_reducible refine Nz.go ?_) | refine Hold_some ?_)))
  refine st_plain rfl ?_
  conv => arg 1; simp only [sop, ev, reduceIte, Nat.reduceEqDiff, hb]
  refine Hold_some ?_
  repeat (first | (with_reducible refine Nx.go ?_) | ((with_reducible refine Ny.go ?_); (conv => arg 1; simp only [ev, sop, bounds, loI, hiI, fillParts, binSV, intBin, unSV, simprocAttr, hr, hn, hc, hm, recheck, wantedS, SV.same_self, Bool.and_self]); (first | (with_reducible refine Nz.go ?_) | refine Hold_some ?_)))
  (refine Hold1_of ?_; (conv => arg 1; simp only [ev, sop, bounds, loI, hiI, fillParts, binSV, intBin, unSV, simprocAttr, resultsSV, resMany, resOne]); refine Hold1_some ?_)
  exact ⟨rfl, rfl⟩

def TermD.to (d : TermD) : Option (List Int) := if d.ok = true then (if d.k = 1 then some [d.x] else if d.k = 2 then some [d.x, d.y] else none) else none
set_option maxHeartbeats 1000000 in
theorem t_to (d : TermD) : Tells 67 [d.sv] (intsV d.to) := by
  refine tells_fn rfl rfl rfl rfl ?_
  rw [show d.sv = .agg [.sc (.int .i64 d.k), .sc (.int .i64 d.a), .sc (.int .i64 d.x), .sc (.int .i64 d.y)] from rfl]
  repeat (first | (with_reducible refine Nx.go ?_) | ((with_reducible refine Ny.go ?_); (conv => arg 1; simp only [ev, sop, bounds, loI, hiI, fillParts, binSV, intBin, unSV, simprocAttr, recheck, wantedS, SV.same_self, Bool.and_self]); (first | (with_reducible refine Nz.go ?_) | refine Hold_some ?_)))
  refine st_tellp (t_isTerm d) ⟨_, rfl, by first | omega | decide⟩ wantedS_none (by simp only [ev, sop, bounds, loI, hiI, fillParts, binSV, intBin, unSV, simprocAttr] <;> rfl) (by first | rfl | simp [pures, SV.pure, *]) (by first | with_reducible exact recheck_nil | (simp only [recheck, wantedS]; simp only [ev, sop, bounds, loI, hiI, fillParts, binSV, intBin, unSV, simprocAttr]; simp only [SV.same_self, Bool.and_self, beq_self_eq_true])) ?_
  by_cases ht : d.ok = true
  · by_cases h1 : (d.k == 1) = true
    · repeat (first | (with_reducible refine Nx.go ?_) | ((with_reducible refine Ny.go ?_); (conv => arg 1; simp only [ev, sop, bounds, loI, hiI, fillParts, binSV, intBin, unSV, simprocAttr, ht, h1, recheck, wantedS, SV.same_self, Bool.and_self]); (first | (with_reducible refine Nz.go ?_) | refine Hold_some ?_)))
      (refine Hold1_of ?_; (conv => arg 1; simp only [ev, sop, bounds, loI, hiI, fillParts, binSV, intBin, unSV, simprocAttr, resultsSV, resMany, resOne]); refine Hold1_some ?_)
      rw [frz_sl (by simp only [ev, sop, bounds, loI, hiI, fillParts, binSV, intBin, unSV, simprocAttr] <;> rfl) (by simp only [ev, sop, bounds, loI, hiI, fillParts, binSV, intBin, unSV, simprocAttr] <;> rfl) rfl]
      simp [TermD.to, ht, show d.k = 1 by simpa using h1, intsV, SV.int]
    · have h1 : (d.k == 1) = false := by simpa using h1
      by_cases h2 : (d.k == 2) = true
      · repeat (first | (with_reducible refine Nx.go ?_) | ((with_reducible refine Ny.go ?_); (conv => arg 1; simp only [ev, sop, bounds, loI, hiI, fillParts, binSV, intBin, unSV, simprocAttr, ht, h1, h2, recheck, wantedS, SV.same_self, Bool.and_self]); (first | (with_reducible refine Nz.go ?_) | refine Hold_some ?_)))
        refine st_callf (by first | with_reducible exact wantedS_none | (refine wantedS_some ?_; simp only [ev, sop, bounds, loI, hiI, fillParts, binSV, intBin, unSV, simprocAttr]; done)) (by simp only [ev, sop, bounds, loI, hiI, fillParts, binSV, intBin, unSV, simprocAttr] <;> rfl) (by simp only [ev, sop, bounds, loI, hiI, fillParts, binSV, intBin, unSV, simprocAttr] <;> rfl) ?_
        refine (c_clone (cs := [.sc (.int .i64 d.x), .sc (.int .i64 d.y)]) (n := 2) (by simp only [ev, sop, bounds, loI, hiI, fillParts, binSV, intBin, unSV, simprocAttr] <;> rfl) rfl rfl (by omega) (by simp)).mono ?_
        rintro v σ1 ⟨rfl, rfl⟩
        refine ⟨recheck_nil, ?_⟩
        repeat (first | (with_reducible refine Nx.go ?_) | ((with_reducible refine Ny.go ?_); (conv => arg 1; simp only [ev, sop, bounds, loI, hiI, fillParts, binSV, intBin, unSV, simprocAttr, recheck, wantedS, SV.same_self, Bool.and_self]); (first | (with_reducible refine Nz.go ?_) | refine Hold_some ?_)))
        (refine Hold1_of ?_; (conv => arg 1; simp only [ev, sop, bounds, loI, hiI, fillParts, binSV, intBin, unSV, simprocAttr, resultsSV, resMany, resOne]); refine Hold1_some ?_)
        rw [frz_sl (by simp only [ev, sop, bounds, loI, hiI, fillParts, binSV, intBin, unSV, simprocAttr] <;> rfl) (by simp only [ev, sop, bounds, loI, hiI, fillParts, binSV, intBin, unSV, simprocAttr] <;> rfl) rfl]
        simp [TermD.to, ht, show d.k = 2 by simpa using h2, intsV, SV.int]
      · have h2 : (d.k == 2) = false := by simpa using h2
        repeat (first | (with_reducible refine Nx.go ?_) | ((with_reducible refine Ny.go ?_); (conv => arg 1; simp only [ev, sop, bounds, loI, hiI, fillParts, binSV, intBin, unSV, simprocAttr, ht, h1, h2, recheck, wantedS, SV.same_self, Bool.and_self]); (first | (with_reducible refine Nz.go ?_) | refine Hold_some ?_)))
        (refine Hold1_of ?_; (conv => arg 1; simp only [ev, sop, bounds, loI, hiI, fillParts, binSV, intBin, unSV, simprocAttr, resultsSV, resMany, resOne]); refine Hold1_some ?_)
        rw [frz_of_pure rfl]
        simp [TermD.to, ht, show ¬ d.k = 1 by simpa using h1, show ¬ d.k = 2 by simpa using h2, intsV]
  · have ht : d.ok = false := by simpa using ht
    repeat (first | (with_reducible refine Nx.go ?_) | ((with_reducible refine Ny.go ?_); (conv => arg 1; simp only [ev, sop, bounds, loI, hiI, fillParts, binSV, intBin, unSV, simprocAttr, ht, recheck, wantedS, SV.same_self, Bool.and_self]); (first | (with_reducible refine Nz.go ?_) | refine Hold_some ?_)))
    (refine Hold1_of ?_; (conv => arg 1; simp only [ev, sop, bounds, loI, hiI, fillParts, binSV, intBin, unSV, simprocAttr, resultsSV, resMany, resOne]); refine Hold1_some ?_)
    rw [frz_of_pure rfl]
    simp [TermD.to, ht, intsV]
end Go.Proofs.Ytojjhcgbbmknmaa.Sh

/- Where ways lead: the walk. -/
namespace Go.Proofs.Ytojjhcgbbmknmaa.Sh
set_option linter.unusedSimpArgs false
set_option linter.unusedVariables false
open Go Go.Proofs

def rowsV (ls : List (Option (List Int))) : SV := .lst ls.length 1 (ls.map intsV)
theorem pure_rows (ls : List (Option (List Int))) : (rowsV ls).pure = true := by
  show pures _ = true
  rw [pures_iff]; intro c hc; obtain ⟨x, _, rfl⟩ := List.mem_map.1 hc; exact pure_ints x
/-- An edge from a row to a number of its. -/
def Edg (next : List (Option (List Int))) (x y : Nat) : Prop := ∃ l, next[x]? = some l ∧ (y : Int) ∈ ol l
/-- Where ways of one edge or more lead to, within some. -/
inductive Way (inS : Nat → Bool) (next : List (Option (List Int))) (b : Nat) : Nat → Prop
  | one {y : Nat} : Edg next b y → inS y = true → Way inS next b y
  | more {x y : Nat} : Way inS next b x → Edg next x y → inS y = true → Way inS next b y
noncomputable def wayS (inS : Nat → Bool) (next : List (Option (List Int))) (b : Nat) : Nat → Bool := fun y => @decide (inS b = true ∧ Way inS next b y) (Classical.propDecidable _)
theorem wayS_iff {inS : Nat → Bool} {next : List (Option (List Int))} {b y : Nat} : wayS inS next b y = true ↔ inS b = true ∧ Way inS next b y := by
  unfold wayS; exact @decide_eq_true_iff _ (Classical.propDecidable _)
/-- One more. -/
def upd (s : Nat → Bool) (y : Nat) : Nat → Bool := fun j => if j = y then true else s j
theorem upd_eq {s : Nat → Bool} {y : Nat} : upd s y y = true := by simp [upd]
theorem upd_ne {s : Nat → Bool} {y j : Nat} (h : j ≠ y) : upd s y j = s j := by simp [upd, h]
/-- How many are not there yet. -/
def unset (s : Nat → Bool) : Nat := ((List.range 200).filter fun i => !s i).length
theorem unset_le (s : Nat → Bool) : unset s ≤ 200 := by unfold unset; have := List.length_filter_le (fun i => !s i) (List.range 200); simpa using this
theorem unset_set {s : Nat → Bool} {y : Nat} (h : y < 200) (hs : s y = false) : unset (upd s y) + 1 = unset s := by
  unfold unset
  have key : ∀ (l : List Nat), l.Nodup → y ∈ l → (l.filter fun i => !(upd s y i)).length + 1 = (l.filter fun i => !s i).length := by
    intro l
    induction l with
    | nil => intro _ h; simp at h
    | cons x r ih =>
      intro hn hm
      obtain ⟨hx, hr⟩ := List.nodup_cons.1 hn
      rw [List.filter_cons, List.filter_cons]
      by_cases e : x = y
      · subst e
        have : (r.filter fun i => !(upd s x i)) = r.filter fun i => !s i := by
          apply List.filter_congr
          intro i hi
          rw [upd_ne (fun e => hx (by rw [← e]; exact hi))]
        rw [this, upd_eq, hs]
        simp
      · have hm : y ∈ r := by
          rcases List.mem_cons.1 hm with e' | h
          · exact absurd e'.symm e
          · exact h
        have := ih hr hm
        rw [upd_ne e]
        cases s x <;> simp <;> omega
  exact key _ List.nodup_range (List.mem_range.2 h)

theorem t_whole {ps bs to from_ : SV} {n : Nat} (hp : pures [ps, bs, to, from_] = true) (hn : lenSV bs = some n) (h200 : n ≤ 200) : Tells 51 [.agg [ps, bs, to, from_]] (setV (fun i => decide (i < n))) := by
  refine tells_fn rfl rfl rfl rfl ?_
  rw [setCells_none]
  repeat (first | (with_reducible refine Nx.go ?_) | ((with_reducible refine Ny.go ?_); (conv => arg 1; simp only [ev, sop, bounds, loI, hiI, fillParts, binSV, intBin, unSV, simprocAttr, hn, recheck, wantedS, SV.same_self, Bool.and_self]); (first | (with_reducible refine Nz.go ?_) | refine Hold_some ?_)))
  refine WP_range (N := n) (fun k t σ1 => getT t 2 = .ptr 1 0 ∧ cellsOf σ1 1 = some (setCells (fun j => decide (j < k)))) (by omega) (by simp only [ev, sop, bounds, loI, hiI, fillParts, binSV, intBin, unSV, simprocAttr]) (by simp only [ev, sop, bounds, loI, hiI, fillParts, binSV, intBin, unSV, simprocAttr]) (by decide) ⟨by simp only [ev, sop, bounds, loI, hiI, fillParts, binSV, intBin, unSV, simprocAttr], by simp only [ev, sop, bounds, loI, hiI, fillParts, binSV, intBin, unSV, simprocAttr, Nat.reduceEqDiff, Nat.not_lt_zero]⟩ ?_ ?_
  · rintro k t σ1 hlt h7 h8 ⟨h2, hc⟩
    have hk : k < 200 := by omega
    have hk' : (k : Int) < 200 := by omega
    have hk2 : k + 1 ≤ 200 := by omega
    repeat (first | (with_reducible refine Nx.go ?_) | ((with_reducible refine Ny.go ?_); (conv => arg 1; simp only [ev, sop, bounds, loI, hiI, fillParts, binSV, intBin, unSV, simprocAttr, h2, h8, hc, hk, hk', hk2, setCells_len, paste_set true hk, recheck, wantedS, SV.same_self, Bool.and_self]); (first | (with_reducible refine Nz.go ?_) | refine Hold_some ?_)))
    refine ⟨by simp only [ev, sop, bounds, loI, hiI, fillParts, binSV, intBin, unSV, simprocAttr, h7], by simp only [ev, sop, bounds, loI, hiI, fillParts, binSV, intBin, unSV, simprocAttr, h8], fun v w => ⟨by simp only [ev, sop, bounds, loI, hiI, fillParts, binSV, intBin, unSV, simprocAttr, h2], ?_⟩⟩
    simp only [ev, sop, bounds, loI, hiI, fillParts, binSV, intBin, unSV, simprocAttr]
    congr 1
    refine setCells_congr fun j hj => ?_
    by_cases e : j = k
    · subst e; simp
    · simp [e]; omega
  · rintro t σ1 ⟨h2, hc⟩
    repeat (first | (with_reducible refine Nx.go ?_) | ((with_reducible refine Ny.go ?_); (conv => arg 1; simp only [ev, sop, bounds, loI, hiI, fillParts, binSV, intBin, unSV, simprocAttr, h2, hc, cut_all, setCells_len, paste_all, recheck, wantedS, SV.same_self, Bool.and_self]); (first | (with_reducible refine Nz.go ?_) | refine Hold_some ?_)))
    (refine Hold1_of ?_; (conv => arg 1; simp only [ev, sop, bounds, loI, hiI, fillParts, binSV, intBin, unSV, simprocAttr, h2, cut_all, resultsSV, resMany, resOne]); refine Hold1_some ?_)
    exact frz_of_pure (pure_set _)

/-- What holds while the walk goes on. -/
structure WalkI (inS : Nat → Bool) (next : List (Option (List Int))) (b : Nat) (skip : Option Nat) (s : Nat → Bool) (todo : List Nat) : Prop where
  way : ∀ y, s y = true → Way inS next b y
  closed : ∀ x, (x = b ∨ s x = true) → x ∈ todo ∨ some x = skip ∨ ∀ y, Edg next x y → inS y = true → s y = true
  from_ : ∀ x ∈ todo, x = b ∨ s x = true

theorem WalkI.done {inS : Nat → Bool} {next : List (Option (List Int))} {b : Nat} {s : Nat → Bool} (hb : inS b = true) (h : WalkI inS next b none s []) : ∀ y, s y = wayS inS next b y := by
  have key : ∀ y, Way inS next b y → s y = true := by
    intro y hy
    induction hy with
    | one e i =>
      rcases h.closed b (.inl rfl) with h1 | h1 | h1
      · simp at h1
      · cases h1
      · exact h1 _ e i
    | more _ e i ih =>
      rcases h.closed _ (.inr ih) with h1 | h1 | h1
      · simp at h1
      · cases h1
      · exact h1 _ e i
  intro y
  rw [Bool.eq_iff_iff, wayS_iff]
  exact ⟨fun hy => ⟨hb, h.way y hy⟩, fun e => key y e.2⟩

theorem WalkI.pop {inS : Nat → Bool} {next : List (Option (List Int))} {b x : Nat} {s : Nat → Bool} {init : List Nat} (h : WalkI inS next b none s (init ++ [x])) : WalkI inS next b (some x) s init := by
  refine ⟨h.way, fun z hz => ?_, fun z hz => h.from_ z (by simp [hz])⟩
  rcases h.closed z hz with h1 | h1 | h1
  · rcases List.mem_append.1 h1 with h2 | h2
    · exact .inl h2
    · simp at h2; exact .inr (.inl (by rw [h2]))
  · cases h1
  · exact .inr (.inr h1)
theorem WalkI.add {inS : Nat → Bool} {next : List (Option (List Int))} {b x y : Nat} {s : Nat → Bool} {todo : List Nat} (h : WalkI inS next b (some x) s todo) (hx : x = b ∨ s x = true) (he : Edg next x y) (hy : inS y = true) : WalkI inS next b (some x) (upd s y) (todo ++ [y]) := by
  have mono : ∀ z, s z = true → upd s y z = true := fun z hz => by simp [upd, hz]
  refine ⟨fun z hz => ?_, fun z hz => ?_, fun z hz => ?_⟩
  · by_cases e : z = y
    · subst e
      rcases hx with rfl | hx
      · exact .one he hy
      · exact .more (h.way x hx) he hy
    · rw [upd_ne e] at hz; exact h.way z hz
  · by_cases e : z = y
    · exact .inl (by simp [e])
    · rw [upd_ne e] at hz
      rcases h.closed z hz with h1 | h1 | h1
      · exact .inl (by simp [h1])
      · exact .inr (.inl h1)
      · exact .inr (.inr fun u hu hi => mono _ (h1 u hu hi))
  · rcases List.mem_append.1 hz with h1 | h1
    · exact (h.from_ z h1).imp id (mono z)
    · simp at h1; subst h1; exact .inr upd_eq
theorem WalkI.close {inS : Nat → Bool} {next : List (Option (List Int))} {b x : Nat} {s : Nat → Bool} {todo : List Nat} (h : WalkI inS next b (some x) s todo) (hc : ∀ y, Edg next x y → inS y = true → s y = true) : WalkI inS next b none s todo := by
  refine ⟨h.way, fun z hz => ?_, h.from_⟩
  rcases h.closed z hz with h1 | h1 | h1
  · exact .inl h1
  · cases h1; exact .inr (.inr hc)
  · exact .inr (.inr h1)

set_option maxHeartbeats 2000000 in
theorem t_walk {w : List SV} {inS : Nat → Bool} {next : List (Option (List Int))} {b : Nat} (hw : pures w = true) (hw4 : w.length = 4) (hb : b < next.length) (h200 : next.length ≤ 200) (hnx : ∀ l ∈ next, (ol l).length ≤ 2 ^ 40 ∧ ∀ y ∈ ol l, 0 ≤ y ∧ y < (next.length : Int)) :
    Tells 68 [.agg w, .sc (.int .i64 b), setV inS, rowsV next] (setV (wayS inS next b)) := by
  refine tells_fn rfl rfl rfl rfl ?_
  unfold setV
  rw [setCells_none]
  have hb2 : b < 200 := by omega
  have hb3 : (b : Int) < 200 := by omega
  have hcb := cut_set (f := inS) hb2
  by_cases hin : inS b = true
  · repeat (first | (with_reducible refine Nx.go ?_) | ((with_reducible refine Ny.go ?_); (conv => arg 1; simp only [ev, sop, bounds, loI, hiI, fillParts, binSV, intBin, unSV, simprocAttr, hb2, hb3, hcb, hin, recheck, wantedS, SV.same_self, Bool.and_self]); (first | (with_reducible refine Nz.go ?_) | refine Hold_some ?_)))
    refine WP_blockloop (fun k t σ1 => ∃ (todo : List Nat) (s : Nat → Bool) (id : Nat) (cs : List SV), k = todo.length + unset s ∧ todo.length + unset s ≤ 201 ∧ WalkI inS next b none s todo ∧ (∀ x ∈ todo, x < next.length) ∧
      getT t 3 = rowsV next ∧ getT t 6 = .ptr 1 0 ∧ getT t 8 = .ptr 2 0 ∧ getT t 9 = .sl id 0 todo.length 1 ∧ 3 ≤ id ∧ id < σ1.next ∧ cellsOf σ1 1 = some (setCells inS) ∧ cellsOf σ1 2 = some (setCells s) ∧ cellsOf σ1 id = some cs ∧ cut cs 0 todo.length = some (natCells todo))
      (k0 := 1 + unset fun _ => false) ⟨[b], fun _ => false, 3, [.sc (.int .i64 b)], by simp, by have := unset_le (fun _ => false); simp; omega, ⟨by simp, ?_, by simp⟩, by simpa using hb, by simp only [ev, sop, bounds, loI, hiI, fillParts, binSV, intBin, unSV, simprocAttr], by simp only [ev, sop, bounds, loI, hiI, fillParts, binSV, intBin, unSV, simprocAttr], by simp only [ev, sop, bounds, loI, hiI, fillParts, binSV, intBin, unSV, simprocAttr], by simp only [ev, sop, bounds, loI, hiI, fillParts, binSV, intBin, unSV, simprocAttr], by omega, by simp only [ev, sop, bounds, loI, hiI, fillParts, binSV, intBin, unSV, simprocAttr] <;> omega, by simp only [ev, sop, bounds, loI, hiI, fillParts, binSV, intBin, unSV, simprocAttr], by simp only [ev, sop, bounds, loI, hiI, fillParts, binSV, intBin, unSV, simprocAttr], by simp only [ev, sop, bounds, loI, hiI, fillParts, binSV, intBin, unSV, simprocAttr], by simp [cut_def, natCells]⟩ ?_
    · intro x hx
      simp at hx
      exact .inl (by simp [hx])
    rintro k t σ1 ⟨todo, s, id, cs, rfl, hK, hI, htd, h3, h6, h8, h9, hid, hlt, hc1, hc2, hcs, hcut⟩
    by_cases hemp : todo = []
    · subst hemp
      repeat (first | (with_reducible refine Nx.go ?_) | ((with_reducible refine Ny.go ?_); (conv => arg 1; simp only [ev, sop, bounds, loI, hiI, fillParts, binSV, intBin, unSV, simprocAttr, h9, Int.lt_irrefl, gt_iff_lt, h8, hc2, cut_all, paste_all, setCells_len, recheck, wantedS, SV.same_self, Bool.and_self]); (first | (with_reducible refine Nz.go ?_) | refine Hold_some ?_)))
      (refine Hold1_of ?_; (conv => arg 1; simp only [ev, sop, bounds, loI, hiI, fillParts, binSV, intBin, unSV, simprocAttr, h8, cut_all, resultsSV, resMany, resOne]); refine Hold1_some ?_)
      rw [frz_setc]
      exact congrArg (fun l => some (SV.agg l)) (setCells_congr fun i _ => hI.done hin i)
    obtain ⟨init, x, rfl⟩ := concat_of_ne hemp
    have hx : x < next.length := htd x (by simp)
    obtain ⟨l, hl⟩ := get_of_lt hx
    obtain ⟨hl40, hly⟩ := hnx l (List.mem_of_getElem? hl)
    have hpos : (0 : Int) < ((init.length + 1 : Nat) : Int) := by omega
    have hw1 : IntKind.i64.wrap (((init.length + 1 : Nat) : Int) - 1) = (init.length : Int) := by
      have := hK; simp at this; rw [i64_in _ (by omega) (by omega)]; omega
    have hcx := cut_get hcut (i := init.length) (natCells_get (x := x) (by simp))
    rw [Nat.zero_add] at hcx
    have hcl := cut_one (cs := next.map intsV) (i := x) (x := intsV l) (by simp [hl])
    have hlen1 : init.length < init.length + 1 := by omega
    have hle1 : init.length ≤ init.length + 1 := by omega
    unfold rowsV at h3
    repeat (first | (with_reducible refine Nx.go ?_) | ((with_reducible refine Ny.go ?_); (conv => arg 1; simp only [ev, sop, bounds, loI, hiI, fillParts, binSV, intBin, unSV, simprocAttr, h9, hpos, gt_iff_lt, hw1, hlen1, hle1, hcs, hcx, h3, hx, hcl, lenSV_ints, recheck, wantedS, SV.same_self, Bool.and_self]); (first | (with_reducible refine Nz.go ?_) | refine Hold_some ?_)))
    have hxb := hI.from_ x (by simp)
    have hvl : intsV l = .lst (ol l).length 1 ((ol l).map SV.int) ∨ ol l = [] := by cases l <;> simp [intsV, ol]
    refine WP_range (N := (ol l).length) (fun k t σ1 => ∃ (todo : List Nat) (s' : Nat → Bool) (id : Nat) (cs : List SV), todo.length + unset s' = init.length + unset s ∧ WalkI inS next b (some x) s' todo ∧ (∀ x ∈ todo, x < next.length) ∧ (x = b ∨ s' x = true) ∧
      (∀ (j y : Nat), j < k → (ol l)[j]? = some (y : Int) → inS y = true → s' y = true) ∧
      getT t 3 = rowsV next ∧ getT t 6 = .ptr 1 0 ∧ getT t 8 = .ptr 2 0 ∧ getT t 9 = .sl id 0 todo.length 1 ∧ getT t 37 = intsV l ∧ 3 ≤ id ∧ id < σ1.next ∧ cellsOf σ1 1 = some (setCells inS) ∧ cellsOf σ1 2 = some (setCells s') ∧ cellsOf σ1 id = some cs ∧ cut cs 0 todo.length = some (natCells todo))
      (by omega) (by simp only [ev, sop, bounds, loI, hiI, fillParts, binSV, intBin, unSV, simprocAttr]) (by simp only [ev, sop, bounds, loI, hiI, fillParts, binSV, intBin, unSV, simprocAttr]) (by decide) ⟨init, s, id, cs, rfl, hI.pop, fun z hz => htd z (by simp [hz]), hxb, by simp, by simp only [ev, sop, bounds, loI, hiI, fillParts, binSV, intBin, unSV, simprocAttr, h3]; rfl, by simp only [ev, sop, bounds, loI, hiI, fillParts, binSV, intBin, unSV, simprocAttr, h6], by simp only [ev, sop, bounds, loI, hiI, fillParts, binSV, intBin, unSV, simprocAttr, h8], by simp only [ev, sop, bounds, loI, hiI, fillParts, binSV, intBin, unSV, simprocAttr], by simp only [ev, sop, bounds, loI, hiI, fillParts, binSV, intBin, unSV, simprocAttr], hid, hlt, hc1, hc2, hcs, ?_⟩ ?_ ?_
    · have := cut_less hcut (m := init.length) (by simp)
      rw [this, natCells_append, List.take_left' (by simp [natCells])]
    · rintro k t σ1 hk h38 h39 ⟨todo, s', id, cs, hM, hI, htd, hxb, hdone, h3, h6, h8, h9, h37, hid, hlt, hc1, hc2, hcs, hcut⟩
      obtain ⟨y, hy⟩ := get_of_lt hk
      obtain ⟨hy0, hyn⟩ := hly y (List.mem_of_getElem? hy)
      obtain ⟨y, rfl⟩ := Int.eq_ofNat_of_zero_le hy0
      have hy2 : y < 200 := by omega
      have hy3 : (y : Int) < 200 := by omega
      have hcy := cut_ints hy
      have hci := cut_set (f := inS) hy2
      have hcs' := cut_set (f := s') hy2
      rcases hvl with hvl | hvl
      rotate_left
      · rw [hvl] at hk; simp at hk
      rw [hvl] at h37
      have hedg : Edg next x y := ⟨l, hl, List.mem_of_getElem? hy⟩
      cases hiy : inS y with
      | false =>
        repeat (first | (with_reducible refine Nx.go ?_) | ((with_reducible refine Ny.go ?_); (conv => arg 1; simp only [ev, sop, bounds, loI, hiI, fillParts, binSV, intBin, unSV, simprocAttr, h37, h39, hk, hcy, h6, hy2, hy3, hc1, hci, hiy, recheck, wantedS, SV.same_self, Bool.and_self]); (first | (with_reducible refine Nz.go ?_) | refine Hold_some ?_)))
        refine ⟨by simp only [ev, sop, bounds, loI, hiI, fillParts, binSV, intBin, unSV, simprocAttr, h38], by simp only [ev, sop, bounds, loI, hiI, fillParts, binSV, intBin, unSV, simprocAttr, h39], fun v w => ⟨todo, s', id, cs, hM, hI, htd, hxb, fun j y' hj hy' hi => ?_, by simp only [ev, sop, bounds, loI, hiI, fillParts, binSV, intBin, unSV, simprocAttr, h3], by simp only [ev, sop, bounds, loI, hiI, fillParts, binSV, intBin, unSV, simprocAttr, h6], by simp only [ev, sop, bounds, loI, hiI, fillParts, binSV, intBin, unSV, simprocAttr, h8], by simp only [ev, sop, bounds, loI, hiI, fillParts, binSV, intBin, unSV, simprocAttr, h9], by simp only [ev, sop, bounds, loI, hiI, fillParts, binSV, intBin, unSV, simprocAttr, h37]; exact hvl.symm, hid, hlt, hc1, hc2, hcs, hcut⟩⟩
        by_cases e : j = k
        · subst e; rw [hy] at hy'; have e2 : (y : Int) = (y' : Int) := Option.some.inj hy'
          rw [← show y = y' by omega, hiy] at hi; cases hi
        · exact hdone j y' (by omega) hy' hi
      | true =>
        cases hsy : s' y with
        | true =>
          repeat (first | (with_reducible refine Nx.go ?_) | ((with_reducible refine Ny.go ?_); (conv => arg 1; simp only [ev, sop, bounds, loI, hiI, fillParts, binSV, intBin, unSV, simprocAttr, h37, h39, hk, hcy, h6, hy2, hy3, hc1, hci, hiy, h8, hc2, hcs', hsy, recheck, wantedS, SV.same_self, Bool.and_self]); (first | (with_reducible refine Nz.go ?_) | refine Hold_some ?_)))
          refine ⟨by simp only [ev, sop, bounds, loI, hiI, fillParts, binSV, intBin, unSV, simprocAttr, h38], by simp only [ev, sop, bounds, loI, hiI, fillParts, binSV, intBin, unSV, simprocAttr, h39], fun v w => ⟨todo, s', id, cs, hM, hI, htd, hxb, fun j y' hj hy' hi => ?_, by simp only [ev, sop, bounds, loI, hiI, fillParts, binSV, intBin, unSV, simprocAttr, h3], by simp only [ev, sop, bounds, loI, hiI, fillParts, binSV, intBin, unSV, simprocAttr, h6], by simp only [ev, sop, bounds, loI, hiI, fillParts, binSV, intBin, unSV, simprocAttr, h8], by simp only [ev, sop, bounds, loI, hiI, fillParts, binSV, intBin, unSV, simprocAttr, h9], by simp only [ev, sop, bounds, loI, hiI, fillParts, binSV, intBin, unSV, simprocAttr, h37]; exact hvl.symm, hid, hlt, hc1, hc2, hcs, hcut⟩⟩
          by_cases e : j = k
          · subst e; rw [hy] at hy'; have e2 : (y : Int) = (y' : Int) := Option.some.inj hy'
            rw [← show y = y' by omega]; exact hsy
          · exact hdone j y' (by omega) hy' hi
        | false =>
          have hun := unset_set hy2 hsy
          have hy4 : y + 1 ≤ 200 := by omega
          have n2 : (2 = σ1.next) = False := by simp; omega
          have n3 : (id = σ1.next) = False := by simp; omega
          have hK2 : todo.length + unset s' ≤ 201 := by simp at hK; omega
          have hb1 : (todo.length + 1) * 8 ≤ 2 ^ 40 ∧ todo.length + 1 ≤ 2 ^ 40 := by omega
          have n4 : (id = 2) = False := by simp; omega
          repeat (first | (with_reducible refine Nx.go ?_) | ((with_reducible refine Ny.go ?_); (conv => arg 1; simp only [ev, sop, bounds, loI, hiI, fillParts, binSV, intBin, unSV, simprocAttr, h37, h39, hk, hcy, h6, hy2, hy3, hc1, hci, hiy, h8, hc2, hcs', hsy, setCells_len, hy4, paste_set true hy2, h9, n2, n3, n4, hcs, hcut, natCells_len, hb1, recheck, wantedS, SV.same_self, Bool.and_self]); (first | (with_reducible refine Nz.go ?_) | refine Hold_some ?_)))
          refine ⟨by simp only [ev, sop, bounds, loI, hiI, fillParts, binSV, intBin, unSV, simprocAttr, h38], by simp only [ev, sop, bounds, loI, hiI, fillParts, binSV, intBin, unSV, simprocAttr, h39], fun v w => ⟨todo ++ [y], upd s' y, σ1.next + 1, natCells todo ++ [.sc (.int .i64 y)], by simp; omega, hI.add hxb hedg hiy, ?_, hxb.imp (fun h => h) (fun h => by simp [upd, h]), fun j y' hj hy' hi => ?_, by simp only [ev, sop, bounds, loI, hiI, fillParts, binSV, intBin, unSV, simprocAttr, h3], by simp only [ev, sop, bounds, loI, hiI, fillParts, binSV, intBin, unSV, simprocAttr, h6], by simp only [ev, sop, bounds, loI, hiI, fillParts, binSV, intBin, unSV, simprocAttr, h8], by simp only [ev, sop, bounds, loI, hiI, fillParts, binSV, intBin, unSV, simprocAttr], by simp only [ev, sop, bounds, loI, hiI, fillParts, binSV, intBin, unSV, simprocAttr, h37]; exact hvl.symm, by omega, by simp only [ev, sop, bounds, loI, hiI, fillParts, binSV, intBin, unSV, simprocAttr]; omega, ?_, ?_, ?_, ?_⟩⟩
          · intro z hz
            rcases List.mem_append.1 hz with h | h
            · exact htd z h
            · simp at h; omega
          · by_cases e : j = k
            · subst e; rw [hy] at hy'; have e2 : (y : Int) = (y' : Int) := Option.some.inj hy'
              rw [← show y = y' by omega]; exact upd_eq
            · simp [upd, hdone j y' (by omega) hy' hi]
          · simp (disch := first | omega | (simp only [nx_push, nx_set]; done) | (simp only [nx_push, nx_set]; omega)) only [cells_push_ne, cells_push_eq, cells_set_ne, cells_set_eq, hc1]
          · simp (disch := first | omega | (simp only [nx_push, nx_set]; done) | (simp only [nx_push, nx_set]; omega)) only [cells_push_ne, cells_push_eq, cells_set_ne, cells_set_eq]; rfl
          · simp (disch := first | omega | (simp only [nx_push, nx_set]; done) | (simp only [nx_push, nx_set]; omega)) only [cells_push_ne, cells_push_eq, cells_set_ne, cells_set_eq]
          · exact cut_whole (by simp [natCells]) |>.trans (by simp [natCells])
    · rintro t σ1 ⟨todo, s', id, cs, hM, hI, htd, hxb, hdone, h3, h6, h8, h9, h37, hid, hlt, hc1, hc2, hcs, hcut⟩
      repeat (first | (with_reducible refine Nx.go ?_) | ((with_reducible refine Ny.go ?_); (conv => arg 1; simp only [ev, sop, bounds, loI, hiI, fillParts, binSV, intBin, unSV, simprocAttr, recheck, wantedS, SV.same_self, Bool.and_self]); (first | (with_reducible refine Nz.go ?_) | refine Hold_some ?_)))
      refine ⟨todo.length + unset s', by simp; omega, todo, s', id, cs, rfl, by simp at hK; omega, hI.close ?_, htd, by simp only [ev, sop, bounds, loI, hiI, fillParts, binSV, intBin, unSV, simprocAttr, h3], by simp only [ev, sop, bounds, loI, hiI, fillParts, binSV, intBin, unSV, simprocAttr, h6], by simp only [ev, sop, bounds, loI, hiI, fillParts, binSV, intBin, unSV, simprocAttr, h8], by simp only [ev, sop, bounds, loI, hiI, fillParts, binSV, intBin, unSV, simprocAttr, h9], hid, hlt, hc1, hc2, hcs, hcut⟩
      rintro y ⟨l', hl', hy⟩ hi
      rw [hl] at hl'; cases hl'
      obtain ⟨j, hj⟩ := List.mem_iff_getElem?.1 hy
      exact hdone j y (List.getElem?_eq_some_iff.1 hj).1 hj hi
  · have hin : inS b = false := by simpa using hin
    repeat (first | (with_reducible refine Nx.go ?_) | ((with_reducible refine Ny.go ?_); (conv => arg 1; simp only [ev, sop, bounds, loI, hiI, fillParts, binSV, intBin, unSV, simprocAttr, hb2, hb3, hcb, hin, cut_all, paste_all, setCells_len, recheck, wantedS, SV.same_self, Bool.and_self]); (first | (with_reducible refine Nz.go ?_) | refine Hold_some ?_)))
    (refine Hold1_of ?_; (conv => arg 1; simp only [ev, sop, bounds, loI, hiI, fillParts, binSV, intBin, unSV, simprocAttr, cut_all, resultsSV, resMany, resOne]); refine Hold1_some ?_)
    rw [frz_setc]
    refine congrArg (fun l => some (SV.agg l)) (setCells_congr fun i _ => ?_)
    rw [Bool.eq_iff_iff, wayS_iff]
    simp [hin]
end Go.Proofs.Ytojjhcgbbmknmaa.Sh

/- Functions as the shadow has them: blocks, instructions; rows of rows. -/
namespace Go.Proofs.Ytojjhcgbbmknmaa.Sh
set_option linter.unusedSimpArgs false
set_option linter.unusedVariables false
open Go Go.Proofs

structure InsD where
  op : Int
  dst : Int
  a : Int
  b : Int
  imm : Int
  callee : Int
  args : Option (List Int)
  many : Int
def InsD.cells (d : InsD) : List SV := [.sc (.int .i64 d.op), .sc (.int .i64 d.dst), .sc (.int .i64 d.a), .sc (.int .i64 d.b), .sc (.int .i64 d.imm), .sc (.int .i64 d.callee), intsV d.args, .sc (.int .i64 d.many)]
/-- A row of records. -/
def recV {α : Type} (sz : Nat) (enc : α → List SV) : Option (List α) → SV
  | none => .sc .nilsl
  | some l => .lst l.length sz (l.flatMap enc)
theorem pures_append : ∀ {l m : List SV}, pures (l ++ m) = (pures l && pures m)
  | [], m => by simp [pures]
  | c :: l, m => by simp [pures, pures_append (l := l), Bool.and_assoc]
theorem pures_flat {α : Type} {enc : α → List SV} (h : ∀ x, pures (enc x) = true) : ∀ l : List α, pures (l.flatMap enc) = true
  | [] => rfl
  | x :: l => by rw [List.flatMap_cons, pures_append, h x, pures_flat h l]; rfl
theorem pure_rec {α : Type} {sz : Nat} {enc : α → List SV} (h : ∀ x, pures (enc x) = true) (o : Option (List α)) : (recV sz enc o).pure = true := by
  cases o with
  | none => rfl
  | some l => exact pures_flat h l
theorem lenSV_rec {α : Type} {sz : Nat} {enc : α → List SV} (o : Option (List α)) : lenSV (recV sz enc o) = some (ol o).length := by cases o <;> rfl
theorem rec_of_lt {α : Type} {sz : Nat} {enc : α → List SV} {o : Option (List α)} {k : Nat} (h : k < (ol o).length) : recV sz enc o = .lst (ol o).length sz ((ol o).flatMap enc) := by
  cases o with
  | none => simp [ol] at h
  | some l => rfl
theorem ints_of_lt {o : Option (List Int)} {k : Nat} (h : k < (ol o).length) : intsV o = .lst (ol o).length 1 ((ol o).map SV.int) := by
  cases o with
  | none => simp [ol] at h
  | some l => rfl
theorem flat_len {α : Type} {enc : α → List SV} {sz : Nat} (he : ∀ x, (enc x).length = sz) : ∀ l : List α, (l.flatMap enc).length = l.length * sz
  | [] => by simp
  | x :: l => by rw [List.flatMap_cons, List.length_append, he, flat_len he l, List.length_cons, Nat.add_mul, Nat.one_mul, Nat.add_comm]
theorem flat_drop {α : Type} {enc : α → List SV} {sz : Nat} (he : ∀ x, (enc x).length = sz) : ∀ {l : List α} {i : Nat} {x : α}, l[i]? = some x → (l.flatMap enc).drop (i * sz) = enc x ++ (l.drop (i + 1)).flatMap enc
  | [], i, x, h => by simp at h
  | y :: l, 0, x, h => by simp at h; subst h; simp
  | y :: l, i + 1, x, h => by
    rw [List.flatMap_cons, show (i + 1) * sz = (enc y).length + i * sz by rw [Nat.add_mul, he]; omega, List.drop_append]
    rw [List.drop_eq_nil_of_le (by omega), show (enc y).length + i * sz - (enc y).length = i * sz by omega, flat_drop he (l := l) (by simpa using h)]
    simp
theorem cut_flat {α : Type} {enc : α → List SV} {sz : Nat} (he : ∀ x, (enc x).length = sz) {l : List α} {i : Nat} {x : α} (h : l[i]? = some x) (j n : Nat) (hj : j + n ≤ sz) : cut (l.flatMap enc) (i * sz + j) n = some (((enc x).drop j).take n) := by
  have hlt : i < l.length := (List.getElem?_eq_some_iff.1 h).1
  have hm : (i + 1) * sz ≤ l.length * sz := Nat.mul_le_mul_right _ hlt
  rw [Nat.add_mul, Nat.one_mul] at hm
  rw [cut_eq' (by rw [flat_len he]; omega), ← List.drop_drop, flat_drop he h, List.drop_append_of_le_length (by rw [he]; omega), List.take_append_of_le_length (by rw [List.length_drop, he]; omega)]
theorem cut_flat0 {α : Type} {enc : α → List SV} {sz : Nat} (he : ∀ x, (enc x).length = sz) {l : List α} {i : Nat} {x : α} (h : l[i]? = some x) (n : Nat) (hj : n ≤ sz) : cut (l.flatMap enc) (i * sz) n = some ((enc x).take n) := by
  have := cut_flat he h 0 n (by omega)
  simpa using this

theorem pures_ins (x : InsD) : pures x.cells = true := by simp [InsD.cells, pures, SV.pure, pure_ints]
def insV : Option (List InsD) → SV := recV 8 InsD.cells
structure BlkD where
  ins : Option (List InsD)
  term : TermD
def BlkD.cells (b : BlkD) : List SV := [insV b.ins, .sc (.int .i64 b.term.k), .sc (.int .i64 b.term.a), .sc (.int .i64 b.term.x), .sc (.int .i64 b.term.y)]
theorem pures_blk (x : BlkD) : pures x.cells = true := by simp [BlkD.cells, pures, SV.pure, insV, pure_rec pures_ins]
def blksV : Option (List BlkD) → SV := recV 5 BlkD.cells
theorem pure_insV (o : Option (List InsD)) : (insV o).pure = true := pure_rec pures_ins o
theorem pure_blks (o : Option (List BlkD)) : (blksV o).pure = true := pure_rec pures_blk o
structure FuncD where
  params : Option (List Int)
  blocks : Option (List BlkD)
def FuncD.cells (f : FuncD) : List SV := [intsV f.params, blksV f.blocks]
def FuncD.sv (f : FuncD) : SV := .agg f.cells
def FuncD.bl (f : FuncD) : List BlkD := ol f.blocks
theorem pures_func (f : FuncD) : pures f.cells = true := by simp [FuncD.cells, pures, blksV, pure_ints, pure_rec pures_blk]
theorem pure_func (f : FuncD) : f.sv.pure = true := pures_func f

theorem flat_ints (o : Option (List Int)) : (intsV o).flat = [intsV o] := by cases o <;> rfl
theorem lay_ints (o : Option (List Int)) : (intsV o).lay = true := by cases o <;> rfl
theorem one_ints (o : Option (List Int)) : (intsV o).one = true := by cases o <;> rfl
theorem flat_recV {α : Type} {sz : Nat} {enc : α → List SV} (o : Option (List α)) : (recV sz enc o).flat = [recV sz enc o] := by cases o <;> rfl
theorem lay_recV {α : Type} {sz : Nat} {enc : α → List SV} (o : Option (List α)) : (recV sz enc o).lay = true := by cases o <;> rfl
theorem one_recV {α : Type} {sz : Nat} {enc : α → List SV} (o : Option (List α)) : (recV sz enc o).one = true := by cases o <;> rfl
/-- Rules for rows. -/
theorem ev2 : (∀ o, (intsV o).flat = [intsV o]) ∧ (∀ o, (intsV o).lay = true) ∧ (∀ o, (intsV o).one = true) ∧ (∀ o, lenSV (intsV o) = some (ol o).length) ∧
    (∀ o, (insV o).flat = [insV o]) ∧ (∀ o, (insV o).lay = true) ∧ (∀ o, (insV o).one = true) ∧ (∀ o, lenSV (insV o) = some (ol o).length) ∧
    (∀ o, (blksV o).flat = [blksV o]) ∧ (∀ o, (blksV o).lay = true) ∧ (∀ o, (blksV o).one = true) ∧ (∀ o, lenSV (blksV o) = some (ol o).length) :=
  ⟨flat_ints, lay_ints, one_ints, lenSV_ints, flat_recV, lay_recV, one_recV, lenSV_rec, flat_recV, lay_recV, one_recV, lenSV_rec⟩

/-! ### A function that fits -/
/-- Where a function's blocks go; whence. -/
def FuncD.to (f : FuncD) : List (Option (List Int)) := f.bl.map fun b => b.term.to
def fromStep (L : List (List Int)) (k : Nat) (l : List Int) : List (List Int) := l.foldl (fun L y => L.set y.toNat (L.getD y.toNat [] ++ [(k : Int)])) L
def fromsK (n : Nat) (rows : List (Option (List Int))) : Nat → List (List Int)
  | 0 => List.replicate n []
  | k + 1 => fromStep (fromsK n rows k) k (ol (rows.getD k none))
def FuncD.froms (f : FuncD) : List (List Int) := fromsK f.bl.length f.to f.bl.length
def nilRow (l : List Int) : Option (List Int) := if l = [] then none else some l
theorem ol_nilRow (l : List Int) : ol (nilRow l) = l := by unfold nilRow; split <;> simp_all [ol]
def FuncD.from_ (f : FuncD) : List (Option (List Int)) := f.froms.map nilRow
theorem fromStep_len (L : List (List Int)) (k : Nat) (l : List Int) : (fromStep L k l).length = L.length := by
  unfold fromStep
  induction l generalizing L with
  | nil => rfl
  | cons y l ih => rw [List.foldl_cons, ih]; simp
theorem fromsK_len (n : Nat) (rows : List (Option (List Int))) : ∀ k, (fromsK n rows k).length = n
  | 0 => by simp [fromsK]
  | k + 1 => by rw [fromsK, fromStep_len, fromsK_len n rows k]
theorem fromStep_add (L : List (List Int)) (k : Nat) (l : List Int) (y : Int) : fromStep L k (l ++ [y]) = (fromStep L k l).set y.toNat ((fromStep L k l).getD y.toNat [] ++ [(k : Int)]) := by
  unfold fromStep; rw [List.foldl_append]; rfl

theorem fromStep_get (k : Nat) {x : Nat} : ∀ (l : List Int) (L : List (List Int)) (l0 : List Int), L[x]? = some l0 → (fromStep L k l)[x]? = some (l0 ++ (l.filter (fun y => decide (y.toNat = x))).map (fun _ => (k : Int)))
  | [], L, l0, h => by simpa [fromStep] using h
  | y :: l, L, l0, h => by
    have hx : x < L.length := (List.getElem?_eq_some_iff.1 h).1
    have e : fromStep L k (y :: l) = fromStep (L.set y.toNat (L.getD y.toNat [] ++ [(k : Int)])) k l := rfl
    rw [e]
    by_cases hy : y.toNat = x
    · rw [fromStep_get k l _ (l0 ++ [(k : Int)]) (by rw [hy, List.getElem?_set_self hx, List.getD_eq_getElem?_getD, h]; rfl)]
      simp [List.filter_cons, hy]
    · rw [fromStep_get k l _ l0 (by rw [List.getElem?_set_ne hy]; exact h)]
      simp [List.filter_cons, hy]
/-- What comes to a block: from where, in order. -/
def comes (rows : List (Option (List Int))) (x k : Nat) : List Int := (List.range k).flatMap fun i => ((ol (rows.getD i none)).filter (fun y => decide (y.toNat = x))).map (fun _ => (i : Int))
theorem comes_succ (rows : List (Option (List Int))) (x k : Nat) : comes rows x (k + 1) = comes rows x k ++ ((ol (rows.getD k none)).filter (fun y => decide (y.toNat = x))).map (fun _ => (k : Int)) := by
  unfold comes; rw [List.range_succ, List.flatMap_append]; simp
theorem fromsK_get {n : Nat} {rows : List (Option (List Int))} {x : Nat} (hx : x < n) : ∀ k, (fromsK n rows k)[x]? = some (comes rows x k)
  | 0 => by simp [fromsK, comes, hx]
  | k + 1 => by rw [fromsK, fromStep_get k _ _ _ (fromsK_get hx k), comes_succ]
theorem comes_len {rows : List (Option (List Int))} (h : ∀ r ∈ rows, (ol r).length ≤ 2) (x : Nat) : ∀ k, (comes rows x k).length ≤ 2 * k
  | 0 => by simp [comes]
  | k + 1 => by
    rw [comes_succ, List.length_append, List.length_map]
    have h1 := comes_len h x k
    have h2 := List.length_filter_le (fun y : Int => decide (y.toNat = x)) (ol (rows.getD k none))
    have h3 : (ol (rows.getD k none)).length ≤ 2 := by
      rw [List.getD_eq_getElem?_getD]
      cases e : rows[k]? with
      | none => simp [ol]
      | some r => exact h r (List.mem_of_getElem? e)
    omega

/-- Rows of numbers that lie in blocks of their own, from block lo on. -/
structure RowsOwn (σ : St) (lo : Nat) (F : List SV) (L : List (List Int)) : Prop where
  len : F.length = L.length
  at_ : ∀ (x : Nat) (l : List Int), L[x]? = some l → (l = [] ∧ F[x]? = some (.sc .nilsl)) ∨ (l ≠ [] ∧ ∃ id, F[x]? = some (.sl id 0 l.length 1) ∧ lo ≤ id ∧ id < σ.next ∧ cellsOf σ id = some (l.map SV.int))
  inj : ∀ (x x' id a b a' b' : Nat), F[x]? = some (.sl id a b 1) → F[x']? = some (.sl id a' b' 1) → x = x'
theorem RowsOwn.start (σ : St) (lo n : Nat) : RowsOwn σ lo (List.replicate n (.sc .nilsl)) (List.replicate n []) := by
  refine ⟨by simp, fun x l h => ?_, fun x x' id a b a' b' h _ => ?_⟩
  · rw [List.getElem?_replicate] at h ⊢
    split at h
    · cases h; rename_i hx; rw [if_pos hx]; exact .inl ⟨rfl, rfl⟩
    · cases h
  · rw [List.getElem?_replicate] at h
    split at h <;> cases h
theorem RowsOwn.same {σ σ' : St} {lo : Nat} {F : List SV} {L : List (List Int)} (h : RowsOwn σ lo F L) (hn : σ.next ≤ σ'.next) (hc : ∀ i, lo ≤ i → i < σ.next → cellsOf σ' i = cellsOf σ i) : RowsOwn σ' lo F L := by
  refine ⟨h.len, fun x l hx => ?_, h.inj⟩
  rcases h.at_ x l hx with h1 | ⟨h0, id, h1, h2, h3, h4⟩
  · exact .inl h1
  · exact .inr ⟨h0, id, h1, h2, by omega, by rw [hc id h2 h3]; exact h4⟩
theorem RowsOwn.put {σ σ' : St} {lo : Nat} {F : List SV} {L : List (List Int)} (h : RowsOwn σ lo F L) {x id' : Nat} {l l' : List Int} (hx : L[x]? = some l) (hn : σ.next ≤ id') (hlo : lo ≤ id') (hn' : id' < σ'.next) (hne : l' ≠ []) (hl : cellsOf σ' id' = some (l'.map SV.int))
    (hc : ∀ i, lo ≤ i → i < σ.next → (∀ a b, F[x]? ≠ some (.sl i a b 1)) → cellsOf σ' i = cellsOf σ i) : RowsOwn σ' lo (F.set x (.sl id' 0 l'.length 1)) (L.set x l') := by
  have hlt : x < L.length := (List.getElem?_eq_some_iff.1 hx).1
  have hltF : x < F.length := by rw [h.len]; exact hlt
  have old : ∀ (y id a b : Nat), F[y]? = some (.sl id a b 1) → id < σ.next := by
    intro y id a b hy
    have hyL : y < L.length := by rw [← h.len]; exact (List.getElem?_eq_some_iff.1 hy).1
    obtain ⟨ly, hly⟩ := get_of_lt hyL
    rcases h.at_ y ly hly with ⟨_, h1⟩ | ⟨_, id2, h1, h2, h3, h4⟩
    · rw [hy] at h1; cases h1
    · rw [hy] at h1; cases h1; exact h3
  refine ⟨by simp [h.len], fun y ly hy => ?_, fun y y' id a b a' b' hy hy' => ?_⟩
  · rw [List.getElem?_set] at hy ⊢
    by_cases e : x = y
    · subst e
      rw [if_pos rfl, if_pos hlt] at hy
      cases hy
      rw [if_pos rfl, if_pos hltF]
      exact .inr ⟨hne, id', rfl, hlo, hn', hl⟩
    · rw [if_neg e] at hy ⊢
      rcases h.at_ y ly hy with h1 | ⟨h0, id, h1, h2, h3, h4⟩
      · exact .inl h1
      · refine .inr ⟨h0, id, h1, h2, by omega, ?_⟩
        rw [hc id h2 h3 (fun a b hxx => e (h.inj _ _ _ _ _ _ _ hxx h1))]
        exact h4
  · rw [List.getElem?_set] at hy hy'
    by_cases e : x = y
    · subst e
      rw [if_pos rfl, if_pos hltF] at hy
      cases hy
      by_cases e' : x = y'
      · exact e'
      · rw [if_neg e'] at hy'
        have := old _ _ _ _ hy'; omega
    · rw [if_neg e] at hy
      by_cases e' : x = y'
      · subst e'
        rw [if_pos rfl, if_pos hltF] at hy'
        cases hy'
        have := old _ _ _ _ hy; omega
      · rw [if_neg e'] at hy'
        exact h.inj _ _ _ _ _ _ _ hy hy'
/-- Rows that are read. -/
theorem mapO_of {f : SV → Option SV} : ∀ {l r : List SV}, l.length = r.length → (∀ (i : Nat) (x y : SV), l[i]? = some x → r[i]? = some y → f x = some y) → mapO f l = some r
  | [], [], _, _ => rfl
  | x :: l, y :: r, hl, h => by
    simp only [mapO, h 0 x y rfl rfl, mapO_of (l := l) (r := r) (by simpa using hl) (fun i x y hx hy => h (i + 1) x y (by simpa using hx) (by simpa using hy))]
  | [], _ :: _, hl, _ => by simp at hl
  | _ :: _, [], hl, _ => by simp at hl
theorem frz_ints {σ : St} {id : Nat} {l : List Int} {d : Nat} (h : cellsOf σ id = some (l.map SV.int)) : frz σ (d + 2) (.sl id 0 l.length 1) = some (.lst l.length 1 (l.map SV.int)) := by
  unfold frz
  rw [if_neg (by simp [SV.pure])]
  simp only [h, Option.bind_some, cut_whole (show l.length * 1 = (l.map SV.int).length by simp)]
  rw [mapO_pures (pures_ints l)]
  rfl
theorem RowsOwn.frz {σ : St} {lo : Nat} {F : List SV} {L : List (List Int)} (h : RowsOwn σ lo F L) (d : Nat) : mapO (frz σ (d + 2)) F = some ((L.map nilRow).map intsV) := by
  refine mapO_of (by simp [h.len]) fun i x y hx hy => ?_
  have hlt : i < L.length := by rw [← h.len]; exact (List.getElem?_eq_some_iff.1 hx).1
  obtain ⟨l, hl⟩ := get_of_lt hlt
  simp [hl] at hy
  subst hy
  rcases h.at_ i l hl with ⟨h1, h2⟩ | ⟨h0, id, h1, h2, h3, h4⟩
  · rw [hx] at h2; cases h2; subst h1
    exact frz_pure rfl
  · rw [hx] at h1; cases h1
    rw [frz_ints h4]
    unfold nilRow
    rw [if_neg h0]; rfl
end Go.Proofs.Ytojjhcgbbmknmaa.Sh
