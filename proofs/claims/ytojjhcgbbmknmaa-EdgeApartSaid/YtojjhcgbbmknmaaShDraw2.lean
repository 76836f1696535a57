/- Regions that draw their order: the rounds of the draw. -/
import Derived.Test.YtojjhcgbbmknmaaShDraw
namespace Go.Proofs.Ytojjhcgbbmknmaa.Sh
set_option linter.unusedSimpArgs false
set_option linter.unusedVariables false
open Go Go.RowKit

section
variable {P : Program} {E : Env} {n N : Nat} {ops : Array Oper} {a : Anc} {l : List Itm} {T : Nat → Tr SV} {Z : Nat → St} {R : Nat → SV}
variable {w0 : World} {B : Nat} {ρ : Rho} {σ : St} {w : World}
variable {L : Array Bool} {p : Nat} {tS : Tr SV} {ρ' : Rho} {a' : Act} {w' : World}

theorem recheck_mem {t : Tr SV} {σ : St} : ∀ {l : List (Nat × Option (Nat × Bool) × SOp)} {d : Nat} {g : Option (Nat × Bool)} {o : SOp}, recheck t σ l = true → (d, g, o) ∈ l → wantedS t g = some true → ∃ v σ', sop o t σ = some (v, σ') ∧ v.same (getT t d) = true
  | [], d, g, o, _, h, _ => by simp at h
  | (d', g', o') :: r, d, g, o, h, hm, hw => by
    simp only [recheck, Bool.and_eq_true] at h
    rcases List.mem_cons.1 hm with e | hm
    · simp only [Prod.mk.injEq] at e
      obtain ⟨rfl, rfl, rfl⟩ := e
      have h := h.1
      simp only [hw] at h
      split at h
      · rename_i v σ' e; exact ⟨v, σ', e, h⟩
      · cases h
    · exact recheck_mem h.2 hm hw

theorem Inv.mono_le (I : Inv P N ops l T Z R w0 B ρ σ w L p tS ρ' a' w') : ∀ {k j : Nat}, k ≤ j → j ≤ p → (Z k).next ≤ (Z j).next := by
  intro k j hkj
  induction hkj with
  | refl => intro _; exact Nat.le_refl _
  | step h ih => intro hj; exact Nat.le_trans (ih (by omega)) (I.mono _ (by omega))

theorem Inv.exec1 (h : LT P E n N ops a l T Z R) (I : Inv P N ops l T Z R w0 B ρ σ w L p tS ρ' a' w') (nb : NB l p) (h1 : ∀ k, k < n → OneOK P w0 E k) {ro : Option Nat} {m : Nat} {Q : Exit → Act → World → Prop} (hlo : B ≤ w.heap.size) (hrd : ∀ l0, ro = some l0 → ∃ r : Loop, w.heap[l0]? = some (Obj.loop r))
    {j : Nat} {x : Itm} (hx : l[j]? = some x) (hr : ∀ q ∈ x.ps, lis L q) (hu : ¬ lis L x.i) {K : Act → World → Prop}
    (hK : ∀ p' tS' ρ'' a'' w'', Inv P N ops l T Z R w0 B ρ σ w (L.setIfInBounds x.i true) p' tS' ρ'' a'' w'' → NB l p' → K a'' w'') : wpOpIn (FR ro) m P ops Q x.i K a' w' := by
  obtain ⟨o, ho, hcs, _⟩ := h.D.op j x hx
  obtain ⟨c1, c2, c3, c4, c5⟩ := compStep_eq hcs
  have hag := I.agree h hx hr hu
  have hjp : j ≤ p := by
    rcases Nat.lt_or_ge p j with hlt | hge
    · rcases nb with e | ⟨y, hy, hby⟩
      · have := lt_len hx; omega
      · obtain ⟨k, z, g1, g2, g3, g4, g5⟩ := h.D.big j p x y hlt hx hy hby
        exact absurd (I.anc_lis h hx hr g5) (I.above k z g1 g3)
    · exact hge
  have hjb : isBig x.s = false → j < p := fun hb => by
    rcases Nat.lt_or_ge j p with e | e
    · exact e
    · have : j = p := by omega
      subst this
      rcases nb with e | ⟨y, hy, hby⟩
      · have := lt_len hx; omega
      · rw [hx] at hy; cases hy; rw [hb] at hby; cases hby
  have adv : ∀ p' tS' ρ'' a'' w'', Inv P N ops l T Z R w0 B ρ σ w (L.setIfInBounds x.i true) p' tS' ρ'' a'' w'' → K a'' w'' := fun p' tS' ρ'' a'' w'' I' => by
    obtain ⟨p2, I2, nb2⟩ := Inv.adv h _ p' (Nat.le_refl _) I'
    exact hK p2 tS' ρ'' a'' w'' I2 nb2
  unfold wpOpIn
  simp only [ho]
  rcases h.run j x hx with ⟨hw, ⟨k, hk, hone⟩, hre⟩ | ⟨hw, hR, hZ⟩
  · have hwS : wantedS tS x.s.guard = some true := (stepTmps_guard hag).trans hw
    rw [if_pos (wanted_ok c2 I.tr hwS)]
    cases hb : isBig x.s with
    | true =>
      have hkb : sopKd x.s.op = .big := by simpa [isBig] using hb
      have hjp' : j = p := by
        rcases Nat.lt_or_ge j p with e | e
        · exact absurd (I.below j x e hx hb) hu
        · omega
      subst hjp'
      have hone' : one E k x.s.op tS (Z j) = some (R j, Z (j + 1)) := (one_congr (stepTmps_op hag)).trans hone
      have hrs : RS P w0 B ρ' (Z j) tS N ro a' w' := ⟨I.step.sr, I.tr, I.marks, Nat.le_trans hlo I.step.size, fun l0 e => by obtain ⟨r, hr⟩ := hrd l0 e; exact I.step.loops l0 r hr⟩
      refine h1 k hk o x.s.op N tS (Z j) _ _ c1 hone' ro m B ρ' a' w' hrs _ _ ?_
      rintro u w'' ⟨ρ'', hok, hst⟩
      refine adv (j + 1) _ ρ'' _ w'' (I.upd h hx hr c3 c4 hok (I.step.trans hst) hst.ext (I.marks.step hst) (.inr ⟨rfl, rfl⟩) hst.nxt ?_ ?_)
      · intro k' y hk' hkj hy hny hwy hkk
        obtain ⟨e1, e2, e3, e4, e5⟩ := (I.pend k' y hk' hy hny hwy).2 hkk
        refine ⟨?_, hst.keep _ (by omega) e4⟩
        cases e : ρ'' (Z k').next with
        | none => rfl
        | some q =>
          rcases hst.newid _ _ e with g | g
          · rw [e4] at g; cases g
          · omega
      · intro k' y hk' hkj hy hny hwy hkk
        obtain ⟨⟨d, hd⟩, hdr⟩ := h.D.rd k' y hy hkk
        have hmem : (d, y.s.guard, y.s.op) ∈ reOf a (l.take j) x := by
          unfold reOf
          refine List.mem_filterMap.2 ⟨y, List.mem_filter.2 ⟨get_mem_take hk' hy, ?_⟩, by simp [hd]⟩
          simp only [hkk, decide_true, Bool.true_and, Bool.not_eq_true', List.contains_eq_mem, decide_eq_false_iff_not]
          exact fun hm => hny (I.anc_lis h hx hr hm)
        have hag2 : Agree (T j) (T k') (stepTmps y.s) := by
          intro d' hd'
          have hjl := Nat.le_of_lt (lt_len hx)
          by_cases hwr : ∃ (j' : Nat) (z : Itm), l[j']? = some z ∧ z.s.dst = some d'
          · obtain ⟨j', z, hz, hzd⟩ := hwr
            obtain ⟨k2, z2, g1, g2, g3⟩ := h.anc_lt hy (hdr j' z d' hz hzd hd')
            have : k2 = j' := h.D.idx _ _ _ _ g2 hz g3
            subst this
            rw [h.val1 j hjl k2 z d' (by omega) hz hzd, h.val1 k' (by omega) k2 z d' g1 hz hzd]
          · rw [h.val0 j hjl d' (fun k z _ hz hzd => hwr ⟨k, z, hz, hzd⟩), h.val0 k' (by omega) d' (fun k z _ hz hzd => hwr ⟨k, z, hz, hzd⟩)]
        obtain ⟨v, σv, g1, g2⟩ := recheck_mem (hre hb) hmem ((stepTmps_guard hag2).trans hwy)
        rw [sop_congr (stepTmps_op hag2)] at g1
        have := (reads_push hkk g1).1
        subst this
        rw [same_eq g2, h.val1 j (Nat.le_of_lt (lt_len hx)) k' y d hk' hy hd] at g1
        exact g1
    | false =>
      have hkb := isBig_kd.1 hb
      have hlt := hjb hb
      have hsop := one_sop hkb hone
      obtain ⟨pd1, pd2⟩ := I.pend j x hlt hx hu hw
      have plain : sop x.s.op tS (Z p) = some (R j, Z p) → OpDoes P ro m o a' w' (fun u w'' => ∃ ρ'', OK w0 ρ'' (R j) u ∧ Step1 P w0 ρ' (Z p) w' ρ'' (Z p) w'') → o.wpIn (FR ro) m P a' w' K Q := by
        intro _ hdoes
        refine hdoes _ _ ?_
        rintro u w'' ⟨ρ'', hok, hst⟩
        refine adv p _ ρ'' _ w'' (I.upd h hx hr c3 c4 hok (I.step.trans hst) hst.ext (I.marks.step hst) (.inl ⟨rfl, hlt⟩) (Nat.le_refl _) ?_ ?_)
        · intro k' y hk' hkj hy hny hwy hkk
          obtain ⟨e1, e2, e3, e4, e5⟩ := (I.pend k' y hk' hy hny hwy).2 hkk
          refine ⟨?_, rfl⟩
          cases e : ρ'' (Z k').next with
          | none => rfl
          | some q =>
            rcases hst.newid _ _ e with g | g
            · rw [e4] at g; cases g
            · omega
        · intro k' y hk' hkj hy hny hwy hkk
          exact (I.pend k' y hk' hy hny hwy).1 hkk
      have hncall : ∀ f l, x.s.op ≠ .call f l := fun f l e => hkb (by rw [e]; rfl)
      cases hkk : sopKd x.s.op with
      | big => exact absurd hkk hkb
      | pure =>
        have hs2 : sop x.s.op tS (Z p) = some (R j, Z p) := by rw [sop_congr (stepTmps_op hag)]; exact (pure_any hkk hsop).2 (Z p)
        exact plain hs2 (sop_does c1 hncall I.step.sr I.tr hs2)
      | reads =>
        have hs2 : sop x.s.op tS (Z p) = some (R j, Z p) := by rw [sop_congr (stepTmps_op hag)]; exact pd1 hkk
        exact plain hs2 (sop_does c1 hncall I.step.sr I.tr hs2)
      | alloc =>
        have hs2 : sop x.s.op tS (Z j) = some (R j, Z (j + 1)) := by rw [sop_congr (stepTmps_op hag)]; exact hsop
        obtain ⟨ob, hob, hy⟩ := alloc_sound c1 hkk I.tr hs2
        obtain ⟨O, nn, u, hrun, hl⟩ := hy w'
        obtain ⟨e1, e2, e3, e4, e5⟩ := pd2 hkk
        obtain ⟨q1, q2⟩ := hl _ (Ext.put (p := ⟨w'.heap.size, 0, nn⟩) e4) (Rho.put_self _ _ _)
        have hst := Step1.lay I.step (o := O) (n := nn) e1 (by omega) e4 (by rw [e5, hob, St.get_push, if_pos rfl]; exact q2)
        refine opDoes_run c1 hrun (.inl rfl) K Q ?_
        rintro _ _ ⟨rfl, rfl⟩
        refine adv p _ _ _ _ (I.upd h hx hr c3 c4 q1 hst (Ext.put e4) (I.marks.lay _ _ _) (.inl ⟨rfl, hlt⟩) (Nat.le_refl _) ?_ ?_)
        · intro k' y hk' hkj hy hny hwy hkk'
          obtain ⟨f1, f2, f3, f4, f5⟩ := (I.pend k' y hk' hy hny hwy).2 hkk'
          refine ⟨?_, rfl⟩
          have hne : (Z k').next ≠ (Z j).next := by
            rcases Nat.lt_or_ge k' j with e | e
            · have := I.mono_le (k := k' + 1) (j := j) (by omega) (by omega); omega
            · have := I.mono_le (k := j + 1) (j := k') (by omega) (by omega); omega
          simp only [Rho.put, if_neg hne]; exact f4
        · intro k' y hk' hkj hy hny hwy hkk'
          exact (I.pend k' y hk' hy hny hwy).1 hkk'
  · have hwS : wantedS tS x.s.guard = some false := (stepTmps_guard hag).trans hw
    rw [if_neg (by rw [wanted_ok c2 I.tr hwS]; simp)]
    refine ⟨fun _ _ => trivial, ?_⟩
    by_cases hlt : j < p
    · refine adv p _ ρ' _ w' (I.upd h hx hr c3 c4 (u := Go.undef) (by rw [hR]; exact OK.mk_undef) I.step (Ext.refl _) I.marks (.inl ⟨rfl, hlt⟩) (Nat.le_refl _) ?_ ?_)
      · intro k' y hk' hkj hy hny hwy hkk
        obtain ⟨e1, e2, e3, e4, e5⟩ := (I.pend k' y hk' hy hny hwy).2 hkk
        exact ⟨e4, rfl⟩
      · intro k' y hk' hkj hy hny hwy hkk
        exact (I.pend k' y hk' hy hny hwy).1 hkk
    · have : j = p := by omega
      subst this
      refine adv (j + 1) _ ρ' _ w' (I.upd h hx hr c3 c4 (u := Go.undef) (by rw [hR]; exact OK.mk_undef) (by rw [hZ]; exact I.step) (Ext.refl _) I.marks (.inr ⟨rfl, rfl⟩) (by rw [hZ]; exact Nat.le_refl _) ?_ ?_)
      · intro k' y hk' hkj hy hny hwy hkk
        obtain ⟨e1, e2, e3, e4, e5⟩ := (I.pend k' y hk' hy hny hwy).2 hkk
        exact ⟨e4, by rw [hZ]⟩
      · intro k' y hk' hkj hy hny hwy hkk
        rw [hZ]
        exact (I.pend k' y hk' hy hny hwy).1 hkk

theorem filt_lt {f g : Nat → Bool} (hle : ∀ x, g x = true → f x = true) : ∀ {l : List Nat} {i : Nat}, i ∈ l → f i = true → g i = false → (l.filter g).length < (l.filter f).length
  | [], i, h, _, _ => by simp at h
  | x :: r, i, h, h1, h2 => by
    have hmono : ∀ r : List Nat, (r.filter g).length ≤ (r.filter f).length := by
      intro r
      induction r with
      | nil => simp
      | cons y r ih =>
        simp only [List.filter_cons]
        cases hg : g y with
        | true => rw [hle y hg]; simpa using ih
        | false => cases f y <;> simp <;> omega
    simp only [List.filter_cons]
    rcases List.mem_cons.1 h with rfl | h
    · rw [h1, h2]
      have := hmono r
      simp; omega
    · have := filt_lt hle h h1 h2
      cases hg : g x with
      | true => rw [hle x hg]; simpa using this
      | false => cases f x <;> simp <;> omega

theorem Inv.fin (I : Inv P N ops l T Z R w0 B ρ σ w L p tS ρ' a' w') (h : LT P E n N ops a l T Z R) (hall : ∀ (j : Nat) (x : Itm), l[j]? = some x → lis L x.i) (nb : NB l p) {Q : Exit → Act → World → Prop}
    (hQ : ∀ a' w' ρ', TR w0 ρ' (T l.length) N a'.tmps → MKS B ρ' w' a'.defers → Step1 P w0 ρ σ w ρ' (Z l.length) w' → Q .normal a' w') : Region.ready .any ops L = [] ∧ Q .normal a' w' := by
  constructor
  · cases hrd : Region.ready .any ops L with
    | nil => rfl
    | cons i r =>
      have hi : i ∈ Region.ready .any ops L := by rw [hrd]; simp
      rw [mem_ready] at hi
      obtain ⟨hi0, o, ho, _⟩ := hi
      have hlt := (Array.getElem?_eq_some_iff.1 ho).1
      have hs : i < L.size := by rw [I.sz]; exact hlt
      obtain ⟨j, x, hx, rfl⟩ := h.D.cover i hlt
      have := hall j x hx
      unfold lis at this
      simp only [Array.getD, hs, dif_pos] at hi0 this
      rw [hi0] at this; cases this
  · have hp : p = l.length := by
      rcases nb with e | ⟨x, hx, _⟩
      · exact e
      · exact absurd (hall p x hx) (I.above p x (Nat.le_refl _) hx)
    subst hp
    refine hQ a' w' ρ' (I.tr.congr fun d => ?_) I.marks I.step
    by_cases hw : ∃ (j : Nat) (y : Itm), l[j]? = some y ∧ y.s.dst = some d
    · obtain ⟨j, y, hy, hd⟩ := hw
      rw [I.t1 j y d hy hd (hall j y hy), h.val1 _ (Nat.le_refl _) j y d (lt_len hy) hy hd]
    · rw [I.t2 d (fun k z hz hzd => absurd ⟨k, z, hz, hzd⟩ hw), h.val0 _ (Nat.le_refl _) d (fun k z _ hz hzd => hw ⟨k, z, hz, hzd⟩)]

def unl (n : Nat) (L : Array Bool) : Nat := ((List.range n).filter fun i => !L.getD i false).length

theorem Inv.any (h : LT P E n N ops a l T Z R) (h1 : ∀ k, k < n → OneOK P w0 E k) {ro : Option Nat} {m : Nat} {Q : Exit → Act → World → Prop} (hlo : B ≤ w.heap.size) (hrd : ∀ l0, ro = some l0 → ∃ r : Loop, w.heap[l0]? = some (Obj.loop r))
    (hQ : ∀ a' w' ρ', TR w0 ρ' (T l.length) N a'.tmps → MKS B ρ' w' a'.defers → Step1 P w0 ρ σ w ρ' (Z l.length) w' → Q .normal a' w') : ∀ (fuel : Nat) (L : Array Bool) (p : Nat) (tS : Tr SV) (ρ' : Rho) (a' : Act) (w' : World), unl ops.size L ≤ fuel →
    Inv P N ops l T Z R w0 B ρ σ w L p tS ρ' a' w' → NB l p → wpAnyIn (FR ro) m P .any ops Q fuel L a' w' := by
  intro fuel
  induction fuel with
  | zero =>
    intro L p tS ρ' a' w' hf I nb
    have hall : ∀ (j : Nat) (x : Itm), l[j]? = some x → lis L x.i := fun j x hx => by
      obtain ⟨o, ho, _⟩ := h.D.op j x hx
      have hlt := (Array.getElem?_eq_some_iff.1 ho).1
      have h0 : unl ops.size L = 0 := by omega
      unfold unl at h0
      rw [List.length_eq_zero_iff, List.filter_eq_nil_iff] at h0
      have := h0 x.i (List.mem_range.2 hlt)
      simpa [lis] using this
    exact I.fin h hall nb hQ
  | succ fuel ih =>
    intro L p tS ρ' a' w' hf I nb
    refine ⟨fun hready => ?_, fun i hi => ?_⟩
    · have hall : ∀ (j : Nat) (x : Itm), l[j]? = some x → lis L x.i := by
        intro j
        induction j using Nat.strongRecOn with
        | _ j ihj =>
          intro x hx
          obtain ⟨o, ho, hcs, hps⟩ := h.D.op j x hx
          have hlt := (Array.getElem?_eq_some_iff.1 ho).1
          cases hl : L.getD x.i false with
          | true => exact hl
          | false =>
            exfalso
            have : x.i ∈ Region.ready .any ops L := by
              rw [mem_ready]
              refine ⟨?_, o, ho, fun e he hb => ?_⟩
              · have hs : x.i < L.size := by rw [I.sz]; exact hlt
                simp only [Array.getD, hs, dif_pos] at hl ⊢
                exact hl
              · have hm : e.on ∈ x.ps := by
                  rw [hps]
                  exact List.mem_map.2 ⟨e, List.mem_filter.2 ⟨by simpa using he, hb⟩, rfl⟩
                obtain ⟨j', y, g1, g2, g3⟩ := h.D.preds j x hx _ hm
                have := ihj j' g1 y g2
                rw [g3] at this; exact this
            rw [hready] at this; simp at this
      exact (I.fin h hall nb hQ).2
    · rw [mem_ready] at hi
      obtain ⟨hi0, o, ho, hpre⟩ := hi
      have hlt := (Array.getElem?_eq_some_iff.1 ho).1
      have hs : i < L.size := by rw [I.sz]; exact hlt
      obtain ⟨j, x, hx, rfl⟩ := h.D.cover i hlt
      obtain ⟨o', ho', hcs, hps⟩ := h.D.op j x hx
      rw [ho] at ho'; cases ho'
      have hl0 : L.getD x.i false = false := by
        simp only [Array.getD, hs, dif_pos] at hi0 ⊢
        exact hi0
      refine I.exec1 h nb h1 hlo hrd hx (fun q hq => ?_) (by unfold lis; rw [hl0]; simp) ?_
      · rw [hps] at hq
        obtain ⟨e, he, rfl⟩ := List.mem_map.1 hq
        obtain ⟨he1, he2⟩ := List.mem_filter.1 he
        exact hpre e (by simpa using he1) he2
      · intro p' tS' ρ'' a'' w'' I' nb'
        refine ih _ p' tS' ρ'' a'' w'' ?_ I' nb'
        have : unl ops.size (L.setIfInBounds x.i true) < unl ops.size L := by
          refine filt_lt (fun q hq => ?_) (List.mem_range.2 hlt) (by simp [hl0]) ?_
          · by_cases e : q = x.i
            · subst e; simp [hl0]
            · rw [getD_set_ne false (Ne.symm e)] at hq; exact hq
          · have : lis (L.setIfInBounds x.i true) x.i := (lis_set hs).2 (.inl rfl)
            unfold lis at this
            rw [this]; rfl
        omega

theorem draw_ok (hm : P.follows .mixedOrders = true) : DrawOK P w0 E := by
  intro n h1 N ops ss t σ t' σ' hc hs ro m B ρ a w id Q hr hQ
  simp only [compReg, if_true, Option.map_eq_some_iff] at hc
  obtain ⟨⟨an, l⟩, hd, hss⟩ := hc
  have D := drawItms_ok hd
  obtain ⟨T, Z, R, e1, e2, e3, e4, tr⟩ := trace hs
  have hlen : ss.length = l.length := by rw [← hss]; simp [withRe_len]
  have hget : ∀ (j : Nat) (x : Itm), l[j]? = some x → ss[j]? = some ((if isBig x.s then { x with s := { x.s with re := reOf an (l.take j) x } } else x : Itm).s) := fun j x hx => by
    rw [← hss, List.getElem?_map, withRe_get, hx]; simp
  have hlt : LT P E n N ops an l T Z R := by
    refine ⟨D, fun j x hx => ?_, fun j x hx => ?_⟩
    · have := tr.put j _ (hget j x hx)
      rw [this]
      cases isBig x.s <;> rfl
    · have := tr.run j _ (hget j x hx)
      cases hb : isBig x.s with
      | true => rw [hb] at this; simpa using this
      | false =>
        rw [hb] at this
        rcases this with ⟨g1, g2, g3⟩ | g
        · exact .inl ⟨g1, g2, fun e => by cases e⟩
        · exact .inr g
  refine wpIn_region_any hm ?_
  have hnl : ∀ q, ¬ lis (Array.replicate ops.size false) q := fun q hq => by
    unfold lis at hq
    rw [Array.getD_eq_getD_getElem?, Array.getElem?_replicate] at hq
    split at hq <;> simp at hq
  have I0 : Inv P N ops l T Z R w0 B ρ σ w (Array.replicate ops.size false) 0 t ρ a w.drew := by
    refine ⟨by simp, fun j x _ hl => absurd hl (hnl _), Nat.zero_le _, fun j x _ _ => hnl _, fun j x hj => by omega, hr.tr, fun j x d _ _ hl => absurd hl (hnl _), fun d _ => by rw [e1], ?_, hr.marks.step (Step1.drew hr.sr), fun j hj => by omega, fun j x hj => by omega⟩
    rw [e2]; exact Step1.drew hr.sr
  obtain ⟨p, I1, nb⟩ := Inv.adv hlt _ 0 (Nat.le_refl _) I0
  refine Inv.any hlt h1 hr.lo hr.rd ?_ ops.size _ p t ρ a _ ?_ I1 nb
  · intro a' w' ρ' k1 k2 k3
    rw [← hlen, e3] at k1
    rw [← hlen, e4] at k3
    exact hQ a' w' ρ' k1 k2 k3
  · unfold unl
    exact Nat.le_trans (List.length_filter_le _ _) (by simp)
end
end Go.Proofs.Ytojjhcgbbmknmaa.Sh
