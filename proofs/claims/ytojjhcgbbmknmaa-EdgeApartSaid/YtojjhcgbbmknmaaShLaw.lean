/- From what the shadow computes of a law to the row: true, whatever the input; the input reads as it did. -/
import Derived.Test.YtojjhcgbbmknmaaShRead
import Derived.ProofKit
namespace Go.Proofs.Ytojjhcgbbmknmaa.Sh
set_option linter.unusedSimpArgs false
set_option linter.unusedVariables false
open Go Go.RowKit Go.ChangeShapes Go.WideShapes Go.ChangeAt

section
variable {P : Program} {W : World} {H : Type} {enc : TypeId × Value → H} {sp : Nat → Bool} {E : Env}

theorem SR.start (P : Program) (w : World) : SR P w R0 St.empty w :=
  ⟨Below.refl _ _, fun i p e => (by cases e), fun i j p q e => (by cases e), fun i p e => (by cases e), fun i _ => rfl, fun a v e => e.elim⟩

theorem law_calls {f n : Nat} {ss : List SV} {vals : Array Value} {σ' : St} (he : EnvOK P W E) (hm : P.follows .mixedOrders = true) (ha : OKs W R0 ss vals.toList) (h : call E n f ss St.empty = some (.sc (.bool true), σ')) :
    Calls P f vals W fun e w' => e = .returned (.bool true) ∧ Below W.heap.size W w' := by
  have hc := (call_ok he (draw_ok hm) n f ss St.empty _ σ' h).2 none 0 R0 W vals (SR.start P W) ha
  refine callsIn_wide.1 (CallsIn.mono (F := Fence.wide) hc ?_)
  rintro e w' ⟨u, ρ', rfl, hok, hst⟩
  have := hok.1
  simp only [VR, Sc.val] at this
  subst this
  exact ⟨rfl, hst.sr.below⟩

/-- A value of a type, as the shadow has it. -/
def RdV (P : Program) (d : Nat) (t : TypeId) (s : SV) : Prop :=
  match P.underlying t with
  | some (.struct _) | some (.array _ _) => ∃ ss, s = .agg ss ∧ Rd P d t ss
  | _ => Rd P d t [s]
def RdA (P : Program) (d : Nat) : List TypeId → List SV → Prop
  | [], [] => True
  | t :: ts, s :: ss => RdV P d t s ∧ RdA P d ts ss
  | _, _ => False

theorem VRs.one_inv {ss : List SV} {u : Value} (h : OKs W R0 ss [u]) : ∃ s, ss = [s] ∧ OK W R0 s u := by
  obtain ⟨h1, h2⟩ := h
  cases ss with
  | nil => simp [VRs] at h1
  | cons s r =>
    simp only [VRs] at h1
    obtain ⟨v, l, e, h3, h4⟩ := h1
    cases e
    have := h4.len
    cases r with
    | nil => exact ⟨s, rfl, h3, h2.1⟩
    | cons _ _ => simp at this

theorem arg_enc {d : Nat} {base : Nat} {t : TypeId} {v : Value} {dd : DataW H} {ps : List MemPlace} (hf : flatT P d t = true) (hok : Value.okWide P W .any base t v) (h : DataW.Trod enc P W 0 sp true t v dd ps) (hwt : ∀ n ∈ dd.weights P t, n ≤ 2 ^ 47) : ∃ s, OK W R0 s v ∧ RdV P d t s := by
  obtain ⟨fuel, h⟩ := h
  obtain ⟨ss, h1, h2, h3⟩ := enc_trod d fuel t _ _ hf h hwt
  have hagg : ∀ (cs : Array Value), v = .agg cs → OK W R0 (.agg ss) v := fun cs e => by
    subst e
    exact ⟨by simp only [VR]; exact ⟨cs, rfl, by simpa [Value.cells] using h1.1⟩, h2, h1.2⟩
  have hone : v.cells = #[v] → (∀ fs, P.underlying t ≠ some (.struct fs)) → (∀ n e, P.underlying t ≠ some (.array n e)) → ∃ s, OK W R0 s v ∧ RdV P d t s := fun e n1 n2 => by
    rw [e] at h1
    obtain ⟨s, rfl, hs⟩ := VRs.one_inv h1
    refine ⟨s, hs, ?_⟩
    unfold RdV
    split
    · rename_i e'; exact absurd e' (n1 _)
    · rename_i e'; exact absurd e' (n2 _ _)
    · exact h3
  cases hu : P.underlying t with
  | none => cases d <;> simp [flatT, hu] at hf
  | some td =>
    unfold Value.okWide at hok
    rw [hu] at hok
    cases td
    case struct fs =>
      obtain ⟨cs, e, _⟩ := hok
      exact ⟨_, hagg cs e, by unfold RdV; rw [hu]; exact ⟨ss, rfl, h3⟩⟩
    case array n e =>
      obtain ⟨cs, e, _⟩ := hok
      exact ⟨_, hagg cs e, by unfold RdV; rw [hu]; exact ⟨ss, rfl, h3⟩⟩
    case bool => exact hone (by cases v <;> first | rfl | simp [Cell.okWide, Cell.ok, hu] at hok) (by simp [hu]) (by simp [hu])
    case int k => exact hone (by cases v <;> first | rfl | simp [Cell.okWide, Cell.ok, hu] at hok) (by simp [hu]) (by simp [hu])
    case string => exact hone (by cases v <;> first | rfl | simp [Cell.okWide, Cell.ok, hu] at hok) (by simp [hu]) (by simp [hu])
    case slice e => exact hone (by cases v <;> first | rfl | simp [Cell.okWide, Cell.ok, hu] at hok) (by simp [hu]) (by simp [hu])
    all_goals (cases d <;> simp [flatT, hu] at hf)

theorem args_enc {d base : Nat} : ∀ {ts : List TypeId} {vs : List Value} {ds : List (DataW H)} {ps : List MemPlace}, DataW.TrodAll enc P W 0 sp true ts vs ds ps →
    (∀ (j : Nat) t v, ts[j]? = some t → vs[j]? = some v → Value.okWide P W .any base t v) → (∀ t ∈ ts, flatT P d t = true) → (∀ n ∈ DataW.weightsEach P ts ds, n ≤ 2 ^ 47) → ∃ ss, OKs W R0 ss vs ∧ RdA P d ts ss
  | [], vs, ds, ps, h, _, _, _ => by
    obtain ⟨rfl, rfl, rfl⟩ := trodAll_nil h
    exact ⟨[], ⟨VRs.nil, trivial⟩, trivial⟩
  | t :: ts, vs, ds, ps, h, hv, hf, hw => by
    obtain ⟨v, vs', d', ds', p, q, rfl, rfl, rfl, h1, h2⟩ := trodAll_cons h
    obtain ⟨s, g1, g2⟩ := arg_enc (hf t (by simp)) (hv 0 t v rfl rfl) h1 (fun n hn => hw n (by simp [DataW.weightsEach, hn]))
    obtain ⟨ss, g3, g4⟩ := args_enc h2 (fun j t v e1 e2 => hv (j + 1) t v (by simpa using e1) (by simpa using e2)) (fun t ht => hf t (by simp [ht])) (fun n hn => hw n (by simp [DataW.weightsEach, hn]))
    exact ⟨s :: ss, ⟨VRs.cons g1.1 g3.1, g1.2, g3.2⟩, g2, g4⟩

theorem trodAll_below {W' : World} (hl : laidOutB P = true) (hb : Below W.heap.size W W') : ∀ {ts : List TypeId} {vs : List Value} {ds : List (DataW H)} {ps : List MemPlace}, (∀ t ∈ ts, P.readableRec t = true ∧ t < P.types.size) →
    DataW.TrodAll enc P W 0 (fun _ => true) true ts vs ds ps → (∀ x ∈ ps, x.block < W.heap.size) → DataW.TrodAll enc P W' 0 (fun b => decide (b < W.heap.size)) true ts vs ds ps
  | [], vs, ds, ps, _, h, _ => by
    obtain ⟨rfl, rfl, rfl⟩ := trodAll_nil h
    exact trodAll_mk0
  | t :: ts, vs, ds, ps, ht, h, hlt => by
    obtain ⟨v, vs', d', ds', p, q, rfl, rfl, rfl, h1, h2⟩ := trodAll_cons h
    refine ⟨p, q, Below.trod hl (ht t (by simp)).1 (ht t (by simp)).2 h1 hb (fun x hx => hlt x (by simp [hx])), trodAll_below hl hb (fun t h => ht t (by simp [h])) h2 (fun x hx => hlt x (by simp [hx])), rfl⟩
end

/-- The row's contract, from the shadow. -/
theorem lifted {C : Checked} {os : Os} {H : Type} {enc : TypeId × Value → H} {f : FuncId} {fn : Func} {s : ChangeSpec} {conds : List PathCond} {apart fresh handsOn : Bool} {tb : TypeId} (d : Nat)
    (own : ownKnob C.prog.godebug = none) (started : os.Started) (noInit : C.prog.inits.idxOf? f = none) (hfn : C.prog.funcs[f]? = some fn)
    (witness : ∃ (w : World) (tape : Tape) (i : Input), w.os = os ∧ (w.forCall tape i).Shaped C.prog ∧ i.vars = [] ∧ Input.okWide C.prog (w.forCall tape i) .any w.heap.size f i ∧
      s.pre6 enc C.prog fn conds apart (w.forCall tape i).memory i.args ∧ Assume.holds {} C.prog (lone (Frame.enter C.prog f i.args .normal) [] (w.forCall tape i)))
    (laid : laidOutB C.prog = true) (hm : C.prog.follows .mixedOrders = true) (hvars : s.vars = []) (hret : fn.resultTypes = #[tb]) (hbool : C.prog.underlying tb = some .bool)
    (hspec : ∀ ds : List (DataW H), ds.length = fn.params.size → s.fn H ds = { results := [.lit (.bool true)], args := ds })
    (hpar : fn.params.toList.all (fun t => flatT C.prog d t && C.prog.readableRec t && decide (t < C.prog.types.size)) = true)
    (E : Env) (he : ∀ W, EnvOK C.prog W E) (walk : ∀ ss, RdA C.prog d fn.params.toList ss → ∃ n σ', call E n f ss St.empty = some (.sc (.bool true), σ')) :
    ReturnsInHanded {} C os f .any (s.pre6 enc C.prog fn conds apart) (s.post enc C.prog fn apart fresh handsOn false) := by
  have hp : ∀ t ∈ fn.params.toList, flatT C.prog d t = true ∧ C.prog.readableRec t = true ∧ t < C.prog.types.size := fun t ht => by
    have := List.all_eq_true.1 hpar t ht
    simp only [Bool.and_eq_true, decide_eq_true_eq] at this
    exact ⟨this.1.1, this.1.2, this.2⟩
  refine returnsInHanded_of_change_sized own started noInit hfn witness ?_
  intro W base args ds gs before hval hW hcnd hwts _
  have hW' := hW
  obtain ⟨p, q, hA, hV, rfl, hfz, hnd⟩ := hW
  rw [hvars] at hV
  obtain ⟨rfl, rfl⟩ := trodVars_none hV
  have hlen : ds.length = fn.params.size := by
    have key : ∀ {ts : List TypeId} {vs : List Value} {ds : List (DataW H)} {ps : List MemPlace}, DataW.TrodAll enc C.prog W 0 (fun _ => true) true ts vs ds ps → ds.length = ts.length := by
      intro ts
      induction ts with
      | nil => intro vs ds ps h; obtain ⟨rfl, rfl, rfl⟩ := trodAll_nil h; rfl
      | cons t ts ih =>
        intro vs ds ps h
        obtain ⟨v, vs', d', ds', p, q, rfl, rfl, rfl, h1, h2⟩ := trodAll_cons h
        simp [ih h2]
    simpa using key hA
  obtain ⟨ss, hs1, hs2⟩ := args_enc (d := d) (base := base) hA (fun j t v e1 e2 => hval j t v (by simpa using e1) (by simpa using e2)) (fun t ht => (hp t ht).1) (fun n hn => by
    have hvt : s.plain.varTypes C.prog = [] := by simp [ChangeSpec.plain, DataSpec.varTypes, hvars]
    rw [hvt] at hwts
    simp only [List.append_nil] at hwts
    have := List.all_eq_true.1 hwts n hn
    have h2 := reachBytes_lt
    simp only [decide_eq_true_eq] at this
    omega)
  obtain ⟨n, σ', hcall⟩ := walk ss hs2
  refine (law_calls (he W) hm hs1 hcall).mono fun e W' ⟨he', hb⟩ => ?_
  subst he'
  have hlt : ∀ x ∈ p ++ [], x.block < W.heap.size := fun x hx => by have := hW'.lt x hx; simpa using this
  refine ⟨.bool true, rfl, ?_⟩
  have hsp := hspec ds hlen
  refine ⟨ds, [], p ++ [], [], p, [], hW', ?_, ?_, ?_, hb.frame _, fun h => by cases h⟩
  · rw [List.append_nil, hsp, hret]
    exact ⟨[], [], ⟨1, by unfold DataW.trod; simp [Value.cells, hbool]⟩, rfl, rfl⟩
  · rw [List.append_nil, hsp]
    exact trodAll_below laid hb (fun t ht => (hp t ht).2) hA (fun x hx => hlt x (by simpa using hx))
  · rw [hvars]
    rw [List.append_nil, hsp]
    rfl
end Go.Proofs.Ytojjhcgbbmknmaa.Sh
