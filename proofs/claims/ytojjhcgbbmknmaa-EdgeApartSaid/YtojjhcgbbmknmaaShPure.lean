/- Operations that neither read nor write memory: what the shadow tells of one the machine does. -/
import Derived.Test.YtojjhcgbbmknmaaShState
namespace Go.Proofs.Ytojjhcgbbmknmaa.Sh
set_option linter.unusedSimpArgs false
set_option linter.unusedVariables false
open Go Go.RowKit

section
variable {P : Program} {w0 : World} {ρ : Rho} {N : Nat} {t : Tr SV} {σ : St} {a : Act} {o : Oper}

theorem scOf_val {v : Value} {s : Sc} (h : scOf v = some s) : v = s.val := by
  unfold scOf at h
  split at h <;> first | (cases h; rfl) | cases h
theorem scsOf_ok : ∀ {l : List Value} {s : List SV}, scsOf l = some s → OKs w0 ρ s l ∧ s.length = l.length ∧ (∀ c ∈ s, c.one = true)
  | [], _, h => by simp only [scsOf, Option.some.injEq] at h; subst h; exact ⟨⟨VRs.nil, trivial⟩, rfl, by simp⟩
  | v :: r, _, h => by
    simp only [scsOf] at h
    split at h
    · rename_i s l h1 h2
      cases h
      obtain ⟨k1, k2, k3⟩ := scsOf_ok h2
      refine ⟨⟨VRs.cons (by simp only [VR]; exact scOf_val h1) k1.1, ⟨trivial, k1.2⟩⟩, by simp [k2], ?_⟩
      intro c hc
      simp only [List.mem_cons] at hc
      rcases hc with rfl | hc
      · unfold scOf at h1
        split at h1 <;> first | (cases h1; rfl) | cases h1
      · exact k3 c hc
    · cases h

theorem opd_ok {x : Operand} {y : Opd} (h : compOpd x = some y) (k : TR w0 ρ t N a.tmps) : OK w0 ρ (y.ev t) (a.eval x) := by
  cases x with
  | tmp i => simp only [compOpd, Option.some.injEq] at h; subst h; exact k.2 i
  | const v =>
    simp only [compOpd, Option.map_eq_some_iff] at h
    obtain ⟨s, h1, rfl⟩ := h
    exact ⟨by simp only [Opd.ev, VR, Act.eval]; exact scOf_val h1, trivial⟩
  | global g => simp [compOpd] at h
  | func f =>
    simp only [compOpd, Option.some.injEq] at h; subst h
    exact ⟨by simp only [Opd.ev, VR, Act.eval]; exact ⟨#[], #[], rfl, by simp [VRs], by simp [VRs]⟩, by simp [Opd.ev, SV.wf, wfs]⟩
theorem opds_ok : ∀ {l : List Operand} {m : List Opd}, compOpds l = some m → TR w0 ρ t N a.tmps → OKs w0 ρ (m.map (·.ev t)) (l.map a.eval)
  | [], _, h, _ => by simp only [compOpds, Option.some.injEq] at h; subst h; exact ⟨VRs.nil, trivial⟩
  | x :: r, _, h, k => by
    simp only [compOpds] at h
    split at h
    · rename_i y l h1 h2
      cases h
      have h3 := opd_ok h1 k
      have h4 := opds_ok h2 k
      exact ⟨VRs.cons h3.1 h4.1, h3.2, h4.2⟩
    · cases h

/-- Of a value the shadow knows to be a number. -/
theorem OK.int {s : SV} {u : Value} {k : IntKind} {n : Int} (h : OK w0 ρ s u) (e : s = .sc (.int k n)) : u = .int k n := by subst e; have := h.1; simpa only [VR, Sc.val] using this
theorem OK.bool {s : SV} {u : Value} {b : Bool} (h : OK w0 ρ s u) (e : s = .sc (.bool b)) : u = .bool b := by subst e; have := h.1; simpa only [VR, Sc.val] using this
theorem OK.intOf {s : SV} {u : Value} {n : Int} (h : OK w0 ρ s u) (e : Sh.intOf s = some n) : ∃ k, u = .int k n := by
  unfold Sh.intOf at e
  split at e
  · cases e; exact ⟨_, h.int rfl⟩
  · cases e
theorem OK.agg {s : SV} {u : Value} {cs : List SV} (h : OK w0 ρ s u) (e : s = .agg cs) : ∃ x : Array Value, u = .agg x ∧ OKs w0 ρ cs x.toList ∧ allOne cs := by
  subst e
  obtain ⟨h1, h2⟩ := h
  simp only [VR] at h1
  obtain ⟨x, e, h3⟩ := h1
  simp only [SV.wf] at h2
  exact ⟨x, e, ⟨h3, h2.2⟩, h2.1⟩
theorem OK.mk_sc {s : Sc} : OK w0 ρ (.sc s) s.val := ⟨by simp [VR], trivial⟩
theorem OK.mk_int {n : Int} : OK w0 ρ (SV.int n) (.int .i64 n) := OK.mk_sc (s := .int .i64 n)
theorem OK.mk_bool {b : Bool} : OK w0 ρ (SV.bool b) (.bool b) := OK.mk_sc (s := .bool b)
theorem OK.mk_undef : OK w0 ρ SV.undef Go.undef := OK.mk_sc (s := .undef)

theorem wfs_take {l : List SV} {n : Nat} (h : wfs l) : wfs (l.take n) := wfs_iff.2 fun c hc => wfs_iff.1 h c (List.mem_of_mem_take hc)
theorem wfs_drop {l : List SV} {n : Nat} (h : wfs l) : wfs (l.drop n) := wfs_iff.2 fun c hc => wfs_iff.1 h c (List.mem_of_mem_drop hc)
theorem wfs_append {l m : List SV} (h : wfs l) (k : wfs m) : wfs (l ++ m) := wfs_iff.2 fun c hc => by
  rcases List.mem_append.1 hc with h1 | h1
  · exact wfs_iff.1 h c h1
  · exact wfs_iff.1 k c h1
theorem allOne_take {l : List SV} {n : Nat} (h : allOne l) : allOne (l.take n) := fun c hc => h c (List.mem_of_mem_take hc)
theorem allOne_drop {l : List SV} {n : Nat} (h : allOne l) : allOne (l.drop n) := fun c hc => h c (List.mem_of_mem_drop hc)
theorem allOne_append {l m : List SV} (h : allOne l) (k : allOne m) : allOne (l ++ m) := fun c hc => by
  rcases List.mem_append.1 hc with h1 | h1
  · exact h c h1
  · exact k c h1
theorem OKs.take {l : List SV} {u : List Value} (n : Nat) (h : OKs w0 ρ l u) : OKs w0 ρ (l.take n) (u.take n) := ⟨h.1.take n, wfs_take h.2⟩
theorem OKs.drop {l : List SV} {u : List Value} (n : Nat) (h : OKs w0 ρ l u) : OKs w0 ρ (l.drop n) (u.drop n) := ⟨h.1.drop n, wfs_drop h.2⟩
theorem OKs.append {l m : List SV} {u v : List Value} (h : OKs w0 ρ l u) (k : OKs w0 ρ m v) : OKs w0 ρ (l ++ m) (u ++ v) := ⟨h.1.append k.1, wfs_append h.2 k.2⟩
theorem OKs.len {l : List SV} {u : List Value} (h : OKs w0 ρ l u) : u.length = l.length := h.1.len

theorem cut_eq {cs r : List SV} {off n : Nat} (h : cut cs off n = some r) : off + n ≤ cs.length ∧ r = (cs.drop off).take n := by
  rw [cut_def] at h
  split at h
  · cases h; exact ⟨by assumption, rfl⟩
  · cases h
theorem unflat_eq {ag : Bool} {r : List SV} {v : SV} (h : unflat ag r = some v) : (ag = true ∧ v = .agg r) ∨ (ag = false ∧ r = [v]) := by
  unfold unflat at h
  split at h
  · cases h; exact .inl ⟨rfl, rfl⟩
  · cases h; exact .inr ⟨rfl, rfl⟩
  · cases h

theorem run_isAgg {w : World} {ty : TypeId} {ag : Bool} (hag : agT P ty = some ag) : (isAgg ty).run P w = .ok ag w := by
  unfold agT at hag
  obtain ⟨d, hd, hag⟩ := Option.map_eq_some_iff.1 hag
  subst hag
  simp only [isAgg, Sem.run_bind, run_underlying hd, Result.andThen]
  cases d <;> rfl
theorem run_sizeOf {w : World} {ty : TypeId} {n : Nat} (hsz : szT P ty = some n) : (sizeOf ty).run P w = .ok n w := by
  unfold szT at hsz
  obtain ⟨i, hi, hsz⟩ := Option.map_eq_some_iff.1 hsz
  simp [sizeOf, typeInfo, hi, hsz]
/-- 'part', run. -/
theorem run_part {w : World} {ty : TypeId} {ag : Bool} {n off : Nat} {cs : List SV} {x : Array Value} {v : SV} (hag : agT P ty = some ag) (hsz : szT P ty = some n) (hok : OKs w0 ρ cs x.toList) (h1 : allOne cs)
    (h : (cut cs off n).bind (unflat ag) = some v) : ∃ u, (part ty x off).run P w = .ok u w ∧ OK w0 ρ v u := by
  obtain ⟨r, hr, hu⟩ := Option.bind_eq_some_iff.1 h
  obtain ⟨hle, rfl⟩ := cut_eq hr
  have hlen := hok.len
  have hagg := run_isAgg (w := w) hag
  have hsize := run_sizeOf (w := w) hsz
  rcases unflat_eq hu with ⟨rfl, rfl⟩ | ⟨rfl, hv⟩
  · refine ⟨.agg (x.extract off (off + n)), ?_, ?_, ?_⟩
    · simp [part, hagg, hsize, Result.andThen]
    · simp only [VR]
      refine ⟨_, rfl, ?_⟩
      have := (hok.1.drop off).take n
      simpa [Array.toList_extract, List.extract_eq_take_drop, List.drop_take] using this
    · exact ⟨allOne_take (allOne_drop h1), wfs_take (wfs_drop hok.2)⟩
  · have hx : (List.take n (List.drop off cs))[0]? = some v := by rw [hv]; rfl
    have hvr := (hok.drop off).take n
    obtain ⟨u, hu1, hu2⟩ := hvr.1.get hx
    have hn : 0 < n := by
      cases n with
      | zero => simp at hv
      | succ n => omega
    have hget : x[off]? = some u := by
      rw [List.getElem?_take, if_pos hn, List.getElem?_drop] at hu1
      simpa using hu1
    refine ⟨u, ?_, hu2, ?_⟩
    · simp [part, hagg, Result.andThen, hget]
    · have : wfs [v] := by rw [← hv]; exact wfs_take (wfs_drop hok.2)
      exact this.1
end
end Go.Proofs.Ytojjhcgbbmknmaa.Sh
