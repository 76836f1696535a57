/- Iterators: what one that goes through some values asks of its caller; a range over one. -/
import Derived.Test.YtojjhcgbbmknmaaShT5
namespace Go.Proofs.Ytojjhcgbbmknmaa.Sh
set_option linter.unusedSimpArgs false
set_option linter.unusedVariables false
open Go Go.Proofs

/-- A function value that goes through values, one by one, and stops where it is told so. -/
def Iter (m g : Nat) (first cap : List SV) (vs : List SV) (dom : St → Prop) : Prop := ∀ (y : SV) (J : List SV → St → Prop) (Stop : St → Prop) (σ : St),
  (∀ pre σ σ', J pre σ → Keeps σ σ' → J pre σ') → (∀ pre σ, J pre σ → dom σ) →
  (∀ pre v σ, pre ++ [v] <+: vs → J pre σ → WPC (EV m) y [v] σ (fun b σ' => (b = .sc (.bool true) ∧ J (pre ++ [v]) σ') ∨ (b = .sc (.bool false) ∧ Stop σ'))) →
  J [] σ → WPF (EV m) g (first ++ [y] ++ cap) σ (fun _ σ' => J vs σ' ∨ Stop σ')

/-- Some blocks, and what they hold. -/
def Has (σ : St) (H : List (Nat × List SV)) : Prop := ∀ p ∈ H, p.1 < σ.next ∧ cellsOf σ p.1 = some p.2
theorem Has.keeps {σ σ' : St} {H : List (Nat × List SV)} (h : Has σ H) (k : Keeps σ σ') : Has σ' H := fun p hp => ⟨Nat.lt_of_lt_of_le (h p hp).1 k.1, by rw [k.cells (h p hp).1]; exact (h p hp).2⟩
theorem Has.set {σ : St} {H : List (Nat × List SV)} (h : Has σ H) {L : Nat} {o : Ob} (hl : ∀ p ∈ H, p.1 ≠ L) : Has (σ.set L o) H := fun p hp => ⟨(h p hp).1, by rw [cells_set_ne (hl p hp)]; exact (h p hp).2⟩
theorem Has.nil {σ : St} : Has σ [] := fun p hp => by simp at hp
theorem Has.cons {σ : St} {i : Nat} {cs : List SV} {H : List (Nat × List SV)} (h1 : i < σ.next) (h2 : cellsOf σ i = some cs) (h : Has σ H) : Has σ ((i, cs) :: H) := fun p hp => by
  rcases List.mem_cons.1 hp with rfl | hp
  · exact ⟨h1, h2⟩
  · exact h p hp
theorem Has.head {σ : St} {i : Nat} {cs : List SV} {H : List (Nat × List SV)} (h : Has σ ((i, cs) :: H)) : i < σ.next ∧ cellsOf σ i = some cs := h (i, cs) (by simp)
theorem Has.tail {σ : St} {p : Nat × List SV} {H : List (Nat × List SV)} (h : Has σ (p :: H)) : Has σ H := fun q hq => h q (by simp [hq])

theorem setMany_one (t : Tr SV) (p : Nat) (v : SV) : setMany t [p] [v] = t.set p v := rfl
theorem prefix_map {α : Type} {g : α → SV} {l : List α} {pre : List SV} {v : SV} (h : pre ++ [v] <+: l.map g) : ∃ p x r, l = p ++ x :: r ∧ pre = p.map g ∧ v = g x := by
  obtain ⟨r, hr⟩ := h
  rw [List.append_assoc] at hr
  obtain ⟨l1, l2, h1, h2, h3⟩ := List.map_eq_append_iff.1 hr.symm
  obtain ⟨a, b, h4, h5, h6⟩ := List.map_eq_cons_iff.1 h3
  exact ⟨l1, a, b, by rw [h1, h4], h2.symm, h5.symm⟩

/-- A range over a function value that goes through values. I: what holds when some have been gone through. -/
theorem WP_rng_it {m : Nat} {f : Opd} {ps : List Nat} {asg body : SC} {g : Nat} {first cap vs : List SV} {t : Tr SV} {σ : St} {Q : Ex → Tr SV → St → Prop} {dom : St → Prop} (I : List SV → St → Prop) (hf : f.ev t = .fn g first cap) (hp : ps.length = 1) (hit : Iter m g first cap vs dom)
    (h0 : I [] (σ.push (.loop t ps asg body .ready none))) (hmono : ∀ pre σ σ', I pre σ → Keeps σ σ' → I pre σ') (hset : ∀ pre σ' o, I pre σ' → I pre (σ'.set σ.next o)) (hdom : ∀ pre σ', I pre σ' → σ'.get σ.next = some (.loop t ps asg body .ready none) → dom σ')
      (hbody : ∀ pre v σ' (lr lb : Ob), pre ++ [v] <+: vs → σ.next < σ'.next → I pre σ' → σ'.get σ.next = some lr →
      WP (EV m) asg (setMany t ps [v]) σ' (Then (fun t1 σ1 => σ1.get σ.next = some lr ∧ WP (EV m) body t1 (σ1.set σ.next lb)
        (BodyPost σ.next lb (fun σ2 => σ.next < σ2.next ∧ I (pre ++ [v]) σ2) (fun ex σ2 => ∀ o, Q ex t ((σ2.set σ.next o).set σ.next .dead)))) (fun _ _ _ => False)))
    (hend : ∀ σ', I vs σ' → Q .normal t (σ'.set σ.next .dead)) : WP (EV m) (.rng f ps asg body) t σ Q := by
  refine WP_rng hf ?_
  refine (hit (.yld σ.next) (fun pre σ' => σ.next < σ'.next ∧ I pre σ' ∧ σ'.get σ.next = some (.loop t ps asg body .ready none))
    (fun σ' => LeftBy σ.next t σ' Q) _ (fun pre σ1 σ2 h k => ⟨Nat.lt_of_lt_of_le h.1 k.1, hmono _ _ _ h.2.1 k, (k.2 _ h.1).trans h.2.2⟩) (fun pre σ' h => hdom pre σ' h.2.1 h.2.2) ?_ ⟨by simp [next_push], h0, get_push_eq⟩).mono ?_
  · rintro pre v σ' hpre ⟨hlt, hI, hg⟩
    refine WPC_yld (WPR_round hg (by simp [hp]) ?_)
    refine (hbody pre v σ' _ (.loop t ps asg body .busy none) hpre hlt hI hg).mono fun ex t1 σ1 q => ?_
    cases ex with
    | exit i => exact q
    | ret => exact q
    | normal =>
      obtain ⟨q1, q2⟩ := q
      refine ⟨t, ps, asg, body, q1, q2.mono fun ex t2 σ2 q => ?_⟩
      obtain ⟨q3, q4⟩ := q
      unfold RoundEnd
      rw [q3]
      cases ex with
      | normal =>
        refine .inl ⟨rfl, q4.1, hset _ _ _ q4.2, get_set_eq⟩
      | ret =>
        refine .inr ⟨rfl, ?_⟩
        unfold LeftBy
        rw [get_set_eq]
        exact ⟨by simp, q4 _⟩
      | exit i =>
        refine .inr ⟨rfl, ?_⟩
        unfold LeftBy
        rw [get_set_eq]
        exact ⟨by simp, q4 _⟩
  · rintro v σ' (⟨_, hI, hg⟩ | h)
    · unfold LeftBy
      rw [hg]
      exact ⟨by simp, hend σ' hI⟩
    · exact h
end Go.Proofs.Ytojjhcgbbmknmaa.Sh
