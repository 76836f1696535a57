/- The library's sort of whole numbers, taken as the kit's contract tells it. -/
import Derived.Test.YtojjhcgbbmknmaaX6
import Derived.Shelf.Slices.In.SortAlone
import Derived.Shelf.Slices.In.SortNone
import Derived.Sort.EveryDepth
import Derived.Sort.Grow
namespace Go.Proofs.Ytojjhcgbbmknmaa.Sh
set_option linter.unusedSimpArgs false
set_option linter.unusedVariables false
open Go Go.RowKit Go.Proofs

section
variable {P : Program} {w0 : World} {ρ : Rho} {σ σ' : St} {w : World}

theorem Step1.grown (h : SR P w0 ρ σ w) (os : Array Obj) : Step1 P w0 ρ σ w ρ σ (Sort.grow w os) := by
  have hs : w.heap.size ≤ (Sort.grow w os).heap.size := by simp
  refine ⟨⟨⟨h.below.os, h.below.tape, h.below.output, Nat.le_trans h.below.size hs, fun k hk => ?_⟩, fun i p e => ?_, h.inj, fun i p e => ?_, h.fresh, fun a v e => ?_⟩, Ext.refl _, Nat.le_refl _, hs, fun _ _ h => .inl h, fun _ _ h k => (by rw [h] at k; cases k), fun b hb _ => Sort.heap_grow_old w os hb, fun _ _ _ => rfl, fun b r h1 => ?_, fun _ _ h => .inl h⟩
  · rw [Sort.heap_grow_old w os (Nat.lt_of_lt_of_le hk h.below.size)]; exact h.below.block k hk
  · have := h.dom i p e
    exact ⟨this.1, this.2.1, Nat.lt_of_lt_of_le this.2.2 hs⟩
  · exact (h.obs i p e).world (Sort.heap_grow_old w os (h.dom i p e).2.2) hs
  · obtain ⟨h1, h2⟩ := h.hold a v e
    exact ⟨by rw [Sort.cell?_grow w os a (cell?_lt h1)]; exact h1, h2⟩
  · have hb : b < w.heap.size := (Array.getElem?_eq_some_iff.1 h1).1
    exact ⟨r, by rw [Sort.heap_grow_old w os hb]; exact h1⟩

theorem SR.ahead (h : SR P w0 ρ σ w) (n : Nat) : SR P w0 ρ σ (Sort.ahead w n) := ⟨⟨h.below.os, h.below.tape, h.below.output, h.below.size, h.below.block⟩, h.dom, h.inj, fun i p e => (h.obs i p e).world rfl (Nat.le_refl _), h.fresh, h.hold⟩
theorem Step1.ahead (h : SR P w0 ρ σ w) (n : Nat) : Step1 P w0 ρ σ w ρ σ (Sort.ahead w n) :=
  ⟨h.ahead n, Ext.refl _, Nat.le_refl _, Nat.le_refl _, fun _ _ h => .inl h, fun _ _ h k => (by rw [h] at k; cases k), fun _ _ _ => rfl, fun _ _ _ => rfl, fun _ r h => ⟨r, h⟩, fun _ _ h => .inl h⟩

theorem putCells_list (o : Nat) (d : List Int) (A : Array Value) (h : o + d.length ≤ A.size) : (Sort.putCells (Value.int .i64) o d.toArray A).toList = A.toList.take o ++ d.map (Value.int .i64) ++ A.toList.drop (o + (d.map (Value.int .i64)).length) := by
  apply List.ext_getElem?
  intro j
  rw [Array.getElem?_toList]
  simp only [Sort.putCells, Array.getElem?_mapIdx, List.size_toArray, List.getElem?_append, List.length_append, List.length_take, List.length_map, List.getElem?_take, List.getElem?_drop, List.getElem?_map, Array.length_toList, Array.getElem?_toList]
  rw [Nat.min_eq_left (show o ≤ A.size by omega)]
  by_cases h1 : j < o
  · rw [if_pos (by omega), if_pos h1, if_pos h1]
    have : ¬ (o ≤ j ∧ j < o + d.length) := by omega
    simp [this]
  · by_cases h2 : j < o + d.length
    · rw [if_pos h2, if_neg h1, Array.getElem?_eq_getElem (by omega), Option.map_some, if_pos ⟨by omega, h2⟩]
      have h3 : j - o < d.length := by omega
      rw [List.getElem?_eq_getElem h3, Option.map_some]
      simp [h3]
    · rw [if_neg h2, show o + d.length + (j - (o + d.length)) = j by omega]
      have : ¬ (o ≤ j ∧ j < o + d.length) := by omega
      simp [this]

theorem vrs_ints : ∀ {l : List Int} {us : List Value}, VRs w0 ρ (l.map SV.int) us → us = l.map (Value.int .i64)
  | [], us, h => by simpa [VRs] using h
  | x :: l, us, h => by
    simp only [List.map_cons, VRs] at h
    obtain ⟨v, r, rfl, h1, h2⟩ := h
    simp only [SV.int, VR, Sc.val] at h1
    rw [vrs_ints h2, h1]; rfl
theorem oks_ints (l : List Int) : OKs w0 ρ (l.map SV.int) (l.map (Value.int .i64)) := by
  induction l with
  | nil => simp [OKs, VRs, wfs]
  | cons x l ih => exact ⟨VRs.cons (by simp [SV.int, VR, Sc.val]) ih.1, trivial, ih.2⟩
theorem one_intsL (l : List Int) : allOne (l.map SV.int) := by
  intro c hc
  obtain ⟨x, _, rfl⟩ := List.mem_map.1 hc
  rfl

/-- The kit's contracts are enough. -/
theorem sort_ok {F : FuncId}
    (H : ∀ (b off cap : Nat) (zs : List Int) (w : World), Sort.Holds (Value.int .i64) w b off zs.toArray → b < w.heap.size → zs.length < 4611686018427387904 →
      Calls P F #[.slice (some ⟨b, off, none⟩) zs.length cap] w fun e w' => e = .returned (.tuple #[]) ∧ ∃ n os, w' = Sort.grow (Sort.putRow (Value.int .i64) (Sort.ahead w n) b off (zs.mergeSort fun x y => decide (x ≤ y)).toArray) os)
    (H0 : ∀ (p : Option Addr) (cap : Nat) (w : World), Calls P F #[.slice p 0 cap] w fun e w' => e = .returned (.tuple #[]) ∧ w' = w)
    {args : List SV} {v : SV} (h : sortG args σ = some (v, σ')) {ro : Option Nat} {m : Nat} {vals : Array Value} (sr : SR P w0 ρ σ w) (ha : OKs w0 ρ args vals.toList) :
    CallsIn (FR ro) m P F vals w (fun e w' => ∃ u ρ', e = .returned u ∧ OK w0 ρ' v u ∧ Step1 P w0 ρ σ w ρ' σ' w') := by
  have hv : ∀ ρ', OK w0 ρ' (.tup []) (.tuple #[]) := fun ρ' => ⟨by simp [VR, VRs], by simp [SV.wf, wfs]⟩
  have wide : ∀ {R : Ending → World → Prop}, Calls P F vals w R → CallsIn (FR ro) m P F vals w R := fun h => (callsIn_wide (n := m)).2 h
  unfold sortG at h
  split at h
  · cases h
    obtain ⟨x, hx, hx1⟩ := ha.1.one
    simp only [VR, Sc.val] at hx1
    subst hx1
    have : vals = #[.slice none 0 0] := by rw [← Array.toArray_toList (xs := vals), hx]
    subst this
    refine wide ((H0 none 0 w).mono ?_)
    rintro e w' ⟨rfl, rfl⟩
    exact ⟨_, ρ, rfl, hv _, Step1.refl sr⟩
  · rename_i id off len sz
    obtain ⟨x, hx, hx1⟩ := ha.1.one
    obtain ⟨p, cap, o, hp, rfl, ho, hlc, _, _⟩ := OK.sl ⟨hx1, ha.2.1⟩
    have : vals = #[.slice (some ⟨p.blk, o, none⟩) len cap] := by rw [← Array.toArray_toList (xs := vals), hx]
    subst this
    split at h
    · rename_i hc
      obtain ⟨rfl, hlen⟩ := hc
      split at h
      · rename_i h0
        subst h0
        cases h
        refine wide ((H0 _ _ w).mono ?_)
        rintro e w' ⟨rfl, rfl⟩
        exact ⟨_, ρ, rfl, hv _, Step1.refl sr⟩
      · rename_i h0
        obtain ⟨cs, h1, h2⟩ := Option.bind_eq_some_iff.1 h
        obtain ⟨r, h3, h4⟩ := Option.bind_eq_some_iff.1 h2
        obtain ⟨l, h5, h6⟩ := Option.map_eq_some_iff.1 h4
        cases h6
        have hr := intsOf_eq h5
        rw [cut_def] at h3
        split at h3
        · rename_i hfit
          have hr' : (cs.drop off).take len = l.map SV.int := by cases h3; exact hr
          have ho : o = p.base + off := ho.resolve_right (by omega)
          subst ho
          have hlr : len = l.length := by
            have := congrArg List.length hr'
            simp at this; omega
          have hg := cells_get h1
          have hob := sr.obs id p hp
          rw [hg] at hob
          obtain ⟨A, ty', hb, hs, hft, hcs, hone⟩ := hob
          have hd := sr.dom id p hp
          have hvs : (((A.toList.drop p.base).take cs.length).drop off).take len = l.map (Value.int .i64) := by
            have : VRs w0 ρ (l.map SV.int) ((((A.toList.drop p.base).take cs.length).drop off).take len) := by
              rw [← hr']; exact (hcs.1.drop off).take len
            exact vrs_ints this
          have hAj : ∀ j, j < l.length → A[p.base + off + j]? = some (.int .i64 (l.getD j 0)) := by
            intro j hj
            have h7 := congrArg (fun L => L[j]?) hvs
            simp only [List.getElem?_take, List.getElem?_drop, List.getElem?_map] at h7
            rw [if_pos (by omega), if_pos (by omega), List.getElem?_eq_getElem hj] at h7
            rw [List.getD_eq_getElem?_getD, List.getElem?_eq_getElem hj, ← Array.getElem?_toList, show p.base + off + j = p.base + (off + j) by omega, h7]
            rfl
          have hH : Sort.Holds (Value.int .i64) w p.blk (p.base + off) l.toArray := by
            intro j hj
            simp only [List.size_toArray] at hj
            refine ⟨?_, ?_⟩
            · rw [cell_of_block hb, hAj j hj]
              congr 1
              simp [hj]
            · simp [World.frozen?, hb]
          subst hlr
          refine wide ((H p.blk (p.base + off) cap l w hH hd.2.2 hlen).mono ?_)
          rintro e w' ⟨rfl, n, os, rfl⟩
          refine ⟨_, ρ, rfl, hv _, ?_⟩
          have s1 := Step1.ahead (n := n) sr
          have hls : (sortInts l).length = l.length := by simp [sortInts]
          have hpl : (paste cs off ((sortInts l).map SV.int)).length = cs.length := by rw [paste_def]; simp; omega
          have hnew : (Sort.putRow (Value.int .i64) (Sort.ahead w n) p.blk (p.base + off) (sortInts l).toArray).heap[p.blk]? = some (.cells (Sort.putCells (Value.int .i64) (p.base + off) (sortInts l).toArray A) ty' (0, 0)) := by
            simp [Sort.putRow, Sort.mapBlock, Array.getElem?_modify, hb, Sort.onCells]
          have hoth : ∀ k, k ≠ p.blk → (Sort.putRow (Value.int .i64) (Sort.ahead w n) p.blk (p.base + off) (sortInts l).toArray).heap[k]? = (Sort.ahead w n).heap[k]? := by
            intro k hk
            simp [Sort.putRow, Sort.mapBlock, Array.getElem?_modify, Ne.symm hk]
          obtain ⟨q1, q2⟩ := paste_ok hcs hone (oks_ints (w0 := w0) (ρ := ρ) (sortInts l)) (one_intsL _) off
          have s2 : Step1 P w0 ρ σ (Sort.ahead w n) ρ (σ.set id (.cells (paste cs off ((sortInts l).map SV.int)))) (Sort.putRow (Value.int .i64) (Sort.ahead w n) p.blk (p.base + off) (sortInts l).toArray) := by
            refine s1.sr.write hp (by rw [hg]; simp) (by simp) hnew hoth rfl rfl rfl ?_ (fun r hr => by
              have hr : w.heap[p.blk]? = some (Obj.loop r) := hr
              rw [hb] at hr; cases hr)
            have hcl := hcs.len
            simp only [List.length_take, List.length_drop, Array.length_toList] at hcl
            refine ⟨_, ty', hnew, by simp [Sort.putCells, hs], by rw [hpl]; omega, ?_, q2⟩
            rw [hpl, putCells_list _ _ _ (by omega)]
            rw [seg_paste A.toList _ p.base cs.length off (by simp; omega) (by simp; omega)]
            exact q1
          exact (s1.trans s2).trans (Step1.grown s2.sr os)
        · cases h3
    · cases h
  · cases h
end
end Go.Proofs.Ytojjhcgbbmknmaa.Sh
