/- Several texts, merged: Whose own each block is. And more. -/
import Derived.Test.YtojjhcgbbmknmaaX9

/- Whose own each block is. -/
namespace Go.Proofs.Ytojjhcgbbmknmaa.Sh
set_option linter.unusedSimpArgs false
set_option linter.unusedVariables false
open Go Go.Proofs

def blocksOf (l : List TileD) : List Int := l.flatMap fun t => ol t.blocks
def inR (n : Nat) (L : List Int) : List Int := L.filter fun x => decide (0 ≤ x ∧ x < (n : Int))
/-- Do tiles part the blocks? -/
def Parts (n : Nat) (l : List TileD) : Prop := (inR n (blocksOf l)).Nodup ∧ ∀ b : Nat, b < n → (b : Int) ∈ blocksOf l
structure OwnInv (n : Nat) (l : List TileD) (out : List Int) (L : List Int) : Prop where
  len : out.length = n
  nd : (inR n L).Nodup
  at_ : ∀ b : Nat, b < n → (out[b]? = some (-1) ∧ (b : Int) ∉ L) ∨ ((b : Int) ∈ L ∧ ∃ (k : Nat) (t : TileD), l[k]? = some t ∧ (b : Int) ∈ ol t.blocks ∧ out[b]? = some (k : Int))
structure OwnIs (n : Nat) (l : List TileD) (r : Option (List Int)) : Prop where
  no : r = none → ¬ Parts n l
  yes : ∀ out, r = some out → Parts n l ∧ out.length = n ∧ ∀ b : Nat, b < n → ∃ (k : Nat) (t : TileD), l[k]? = some t ∧ (b : Int) ∈ ol t.blocks ∧ out[b]? = some (k : Int)
theorem OwnInv.start (n : Nat) (l : List TileD) : OwnInv n l (List.replicate n (-1)) [] := ⟨by simp, by simp [inR], fun b hb => .inl ⟨by simp [hb], by simp⟩⟩
theorem inR_add (n : Nat) (L : List Int) (x : Int) : inR n (L ++ [x]) = inR n L ++ (if 0 ≤ x ∧ x < (n : Int) then [x] else []) := by
  unfold inR
  rw [List.filter_append]
  by_cases h : 0 ≤ x ∧ x < (n : Int) <;> simp [h]
theorem OwnInv.skip {n : Nat} {l : List TileD} {out L : List Int} (h : OwnInv n l out L) {x : Int} (hx : x < 0 ∨ (n : Int) ≤ x) : OwnInv n l out (L ++ [x]) := by
  refine ⟨h.len, by rw [inR_add, if_neg (by omega), List.append_nil]; exact h.nd, fun b hb => ?_⟩
  have hne : (b : Int) ≠ x := by omega
  rcases h.at_ b hb with ⟨h1, h2⟩ | ⟨h1, h2⟩
  · exact .inl ⟨h1, by simp [h2, hne]⟩
  · exact .inr ⟨by simp [h1], h2⟩
theorem OwnInv.put {n : Nat} {l : List TileD} {out L : List Int} (h : OwnInv n l out L) {x k : Nat} {t : TileD} (hx : x < n) (hk : l[k]? = some t) (hb : (x : Int) ∈ ol t.blocks) (ho : out[x]? = some (-1)) : OwnInv n l (out.set x (k : Int)) (L ++ [(x : Int)]) := by
  have hnx : (x : Int) ∉ L := by
    rcases h.at_ x hx with ⟨_, h2⟩ | ⟨_, k', t', _, _, h3⟩
    · exact h2
    · rw [ho] at h3; injection h3 with h3; omega
  refine ⟨by simp [h.len], ?_, fun b hb' => ?_⟩
  · rw [inR_add, if_pos (by omega)]
    refine List.nodup_append.2 ⟨h.nd, by simp, fun a ha c hc => ?_⟩
    simp at hc; subst hc
    intro e; subst e
    exact hnx (List.mem_filter.1 ha).1
  · by_cases e : b = x
    · subst e
      exact .inr ⟨by simp, k, t, hk, hb, by rw [List.getElem?_set_self (by rw [h.len]; exact hx)]⟩
    · have hne : (b : Int) ≠ x := by omega
      rw [List.getElem?_set_ne (by omega)]
      rcases h.at_ b hb' with ⟨h1, h2⟩ | ⟨h1, h2⟩
      · exact .inl ⟨h1, by simp [h2, hne]⟩
      · exact .inr ⟨by simp [h1], h2⟩
theorem OwnInv.twice {n : Nat} {l : List TileD} {out L : List Int} (h : OwnInv n l out L) {x : Nat} {y : Int} (hx : x < n) (ho : out[x]? = some y) (hy : y ≥ 0) (R : List Int) (hL : blocksOf l = L ++ (x : Int) :: R) : ¬ Parts n l := by
  rintro ⟨h1, _⟩
  have hin : (x : Int) ∈ L := by
    rcases h.at_ x hx with ⟨h2, _⟩ | ⟨h2, _⟩
    · rw [ho] at h2; injection h2 with h2; omega
    · exact h2
  rw [hL, inR, List.filter_append, List.nodup_append] at h1
  exact h1.2.2 (x : Int) (List.mem_filter.2 ⟨hin, by simp; omega⟩) (x : Int) (List.mem_filter.2 ⟨by simp, by simp; omega⟩) rfl
theorem OwnInv.done {n : Nat} {l : List TileD} {out : List Int} (h : OwnInv n l out (blocksOf l)) (hno : (-1 : Int) ∉ out) : OwnIs n l (some out) := by
  have key : ∀ b : Nat, b < n → (b : Int) ∈ blocksOf l ∧ ∃ (k : Nat) (t : TileD), l[k]? = some t ∧ (b : Int) ∈ ol t.blocks ∧ out[b]? = some (k : Int) := by
    intro b hb
    rcases h.at_ b hb with ⟨h1, _⟩ | h1
    · exact absurd (List.mem_of_getElem? h1) hno
    · exact h1
  refine ⟨fun h => (by cases h), fun o e => ?_⟩
  cases e
  exact ⟨⟨h.nd, fun b hb => (key b hb).1⟩, h.len, fun b hb => (key b hb).2⟩
theorem OwnInv.lack {n : Nat} {l : List TileD} {out : List Int} (h : OwnInv n l out (blocksOf l)) (hno : (-1 : Int) ∈ out) : ¬ Parts n l := by
  rintro ⟨_, h2⟩
  obtain ⟨b, hb⟩ := List.mem_iff_getElem?.1 hno
  have hbn : b < n := by rw [← h.len]; exact (List.getElem?_eq_some_iff.1 hb).1
  rcases h.at_ b hbn with ⟨_, h1⟩ | ⟨_, k, t, _, _, h3⟩
  · exact h1 (h2 b hbn)
  · rw [hb] at h3; injection h3 with h3; omega
theorem blocksOf_take {l : List TileD} {k : Nat} {t : TileD} (h : l[k]? = some t) : blocksOf (l.take (k + 1)) = blocksOf (l.take k) ++ ol t.blocks := by
  unfold blocksOf
  rw [List.take_add_one, h, List.flatMap_append]
  simp
theorem blocksOf_split {l : List TileD} {k j : Nat} {t : TileD} {x : Int} (h : l[k]? = some t) (hj : (ol t.blocks)[j]? = some x) : ∃ R, blocksOf l = (blocksOf (l.take k) ++ (ol t.blocks).take j) ++ x :: R := by
  have h1 : l = l.take k ++ t :: l.drop (k + 1) := by
    conv => lhs; rw [← List.take_append_drop k l]
    rw [List.drop_eq_getElem_cons (List.getElem?_eq_some_iff.1 h).1, (List.getElem?_eq_some_iff.1 h).2]
  have h2 : ol t.blocks = (ol t.blocks).take j ++ x :: (ol t.blocks).drop (j + 1) := by
    conv => lhs; rw [← List.take_append_drop j (ol t.blocks)]
    rw [List.drop_eq_getElem_cons (List.getElem?_eq_some_iff.1 hj).1, (List.getElem?_eq_some_iff.1 hj).2]
  refine ⟨(ol t.blocks).drop (j + 1) ++ blocksOf (l.drop (k + 1)), ?_⟩
  have e : blocksOf l = blocksOf (l.take k ++ t :: l.drop (k + 1)) := by rw [← h1]
  rw [e]
  unfold blocksOf
  rw [List.flatMap_append, List.flatMap_cons]
  conv => lhs; rw [h2]
  simp
theorem cut_intsN {l : List Int} {i : Nat} {x : Int} (h : l[i]? = some x) : cut (l.map SV.int) i 1 = some [.sc (.int .i64 x)] := cut_ints h
theorem paste_ints {l : List Int} {i : Nat} (x : Int) (h : i < l.length) : paste (l.map SV.int) i [.sc (.int .i64 x)] = (l.set i x).map SV.int := by
  rw [paste_one (by simpa using h)]
  rw [List.map_set]; rfl

set_option maxHeartbeats 8000000 in
theorem t_own {ps bs tr fr : SV} {n : Nat} {o : Option (List TileD)} (hp : pures [ps, bs, tr, fr] = true) (hone : allOne [ps, bs, tr, fr]) (hbs : lenSV bs = some n) (n1 : 1 ≤ n) (n2 : n ≤ 200) (hl : tilesWithin (2 ^ 47) (ol o)) :
    ∃ r, Tells 34 [.agg [ps, bs, tr, fr], tilesV o] (intsV r) ∧ OwnIs n (ol o) r := by
  suffices h : WPF (EV 3) 34 [.agg [ps, bs, tr, fr], tilesV o] St.empty (fun v σ => ∃ r, frz σ 20 v = some (intsV r) ∧ OwnIs n (ol o) r) by
    obtain ⟨q, v, σ, h1, r, h2, h3⟩ := h
    exact ⟨r, ⟨_, rfl, q, v, σ, h1, h2⟩, h3⟩
  refine told_fn rfl rfl rfl rfl ?_
  have hlen : lenSV (tilesV o) = some (ol o).length := lenSV_rec o
  repeat (first | (with_reducible refine Nx.go ?_) | ((with_reducible refine Ny.go ?_); (conv => arg 1; simp only [ev, sop, bounds, loI, hiI, fillParts, binSV, intBin, unSV, simprocAttr, ev2, ev4, hbs, recheck, wantedS, SV.same_self, Bool.and_self]); (first | (with_reducible refine Nz.go ?_) | refine Hold_some ?_)))
  refine st_callf (by first | with_reducible exact wantedS_none | (refine wantedS_some ?_; simp only [ev, sop, bounds, loI, hiI, fillParts, binSV, intBin, unSV, simprocAttr, ev2, ev4, hbs]; done)) (by simp only [ev, sop, bounds, loI, hiI, fillParts, binSV, intBin, unSV, simprocAttr, ev2, ev4, hbs] <;> rfl) (by simp only [ev, sop, bounds, loI, hiI, fillParts, binSV, intBin, unSV, simprocAttr, ev2, ev4, hbs] <;> rfl) ?_
  refine (c_repeat (by decide) n1 n2 (by simp [next_push, next_empty]) (by simp only [ev, sop, bounds, loI, hiI, fillParts, binSV, intBin, unSV, simprocAttr, ev2, ev4])).mono ?_
  rintro v σ1 ⟨rfl, hk, hnx, hc2⟩
  refine ⟨recheck_nil, ?_⟩
  have k0 : cellsOf σ1 0 = some [ps, bs, tr, fr] := by rw [hk.cells (by simp [next_push, next_empty])]; simp only [ev, sop, bounds, loI, hiI, fillParts, binSV, intBin, unSV, simprocAttr, ev2, ev4]
  simp only [next_push, next_empty, Nat.zero_add, Nat.reduceAdd] at hnx hc2 ⊢
  clear hk
  repeat (first | (with_reducible refine Nx.go ?_) | ((with_reducible refine Ny.go ?_); (conv => arg 1; simp only [ev, sop, bounds, loI, hiI, fillParts, binSV, intBin, unSV, simprocAttr, ev2, ev4, hlen, recheck, wantedS, SV.same_self, Bool.and_self]); (first | (with_reducible refine Nz.go ?_) | refine Hold_some ?_)))
  have bad : ∀ σ : St, ¬ Parts n (ol o) → ∃ r, frz σ 20 (.sc .nilsl) = some (intsV r) ∧ OwnIs n (ol o) r := fun σ h => ⟨none, frz_of_pure rfl, fun _ => h, fun out e => by cases e⟩
  have hrow : ∀ (σ : St) (out : List Int), out.length = n → cellsOf σ 2 = some (out.map SV.int) → frz σ 20 (.sl 2 0 n 1) = some (intsV (some out)) := fun σ out h1 h2 => by
    show _ = some (SV.lst out.length 1 (out.map SV.int))
    rw [h1]
    exact frz_sl h2 (cut_whole (by simp [h1])) (pures_ints out)
  refine WP_range (N := (ol o).length) (fun k t σ => getT t 2 = .ptr 0 0 ∧ getT t 5 = .sl 2 0 n 1 ∧ getT t 16 = tilesV o ∧ 3 ≤ σ.next ∧ ∃ out : List Int, cellsOf σ 2 = some (out.map SV.int) ∧ OwnInv n (ol o) out (blocksOf ((ol o).take k))) (by have := hl.1; omega) (by simp only [ev, sop, bounds, loI, hiI, fillParts, binSV, intBin, unSV, simprocAttr, ev2, ev4]) (by simp only [ev, sop, bounds, loI, hiI, fillParts, binSV, intBin, unSV, simprocAttr, ev2, ev4]) (by decide)
    ⟨by simp only [ev, sop, bounds, loI, hiI, fillParts, binSV, intBin, unSV, simprocAttr, ev2, ev4], by simp only [ev, sop, bounds, loI, hiI, fillParts, binSV, intBin, unSV, simprocAttr, ev2, ev4], by simp only [ev, sop, bounds, loI, hiI, fillParts, binSV, intBin, unSV, simprocAttr, ev2, ev4], hnx, List.replicate n (-1), by rw [hc2]; simp [SV.int], by simpa [blocksOf] using OwnInv.start n (ol o)⟩ ?_ ?_
  · clear hc2 hnx k0
    rintro k t σ hk h17 h18 ⟨g2, g5, g16, hnx, out, hc2, hI⟩
    obtain ⟨x, hx⟩ := get_of_lt hk
    rw [show tilesV o = _ from rec_of_lt hk] at g16
    have hcx := cut_tile hx
    have hxl := hl.2 x (List.mem_of_getElem? hx)
    have m2 : (2 = σ.next) = False := by simp; omega
    repeat (first | (with_reducible refine Nx.go ?_) | ((with_reducible refine Ny.go ?_); (conv => arg 1; simp only [ev, sop, bounds, loI, hiI, fillParts, binSV, intBin, unSV, simprocAttr, ev2, ev4, g2, g5, g16, h17, h18, hk, hcx, recheck, wantedS, SV.same_self, Bool.and_self]); (first | (with_reducible refine Nz.go ?_) | refine Hold_some ?_)))
    refine WP_range (N := (ol x.blocks).length) (fun j t σ => getT t 2 = .ptr 0 0 ∧ getT t 5 = .sl 2 0 n 1 ∧ getT t 6 = .sc (.int .i64 k) ∧ getT t 16 = tilesV o ∧ getT t 17 = .sc (.int .i64 (ol o).length) ∧ getT t 18 = .sc (.int .i64 k) ∧ getT t 24 = intsV x.blocks ∧ 3 ≤ σ.next ∧
        ∃ out : List Int, cellsOf σ 2 = some (out.map SV.int) ∧ OwnInv n (ol o) out (blocksOf ((ol o).take k) ++ (ol x.blocks).take j)) (by omega) (by simp only [ev, sop, bounds, loI, hiI, fillParts, binSV, intBin, unSV, simprocAttr, ev2, ev4]) (by simp only [ev, sop, bounds, loI, hiI, fillParts, binSV, intBin, unSV, simprocAttr, ev2, ev4]) (by decide)
      ⟨by simp only [ev, sop, bounds, loI, hiI, fillParts, binSV, intBin, unSV, simprocAttr, ev2, ev4, g2], by simp only [ev, sop, bounds, loI, hiI, fillParts, binSV, intBin, unSV, simprocAttr, ev2, ev4, g5], by simp only [ev, sop, bounds, loI, hiI, fillParts, binSV, intBin, unSV, simprocAttr, ev2, ev4], by simp only [ev, sop, bounds, loI, hiI, fillParts, binSV, intBin, unSV, simprocAttr, ev2, ev4, g16]; exact (rec_of_lt hk).symm, by simp only [ev, sop, bounds, loI, hiI, fillParts, binSV, intBin, unSV, simprocAttr, ev2, ev4, h17], by simp only [ev, sop, bounds, loI, hiI, fillParts, binSV, intBin, unSV, simprocAttr, ev2, ev4, h18], by simp only [ev, sop, bounds, loI, hiI, fillParts, binSV, intBin, unSV, simprocAttr, ev2, ev4], by simp [next_push, next_set]; omega, out, by simp (disch := first | omega | (simp only [nx_push, nx_set]; done) | (simp only [nx_push, nx_set]; omega)) only [cells_push_ne, cells_push_eq, cells_set_ne, cells_set_eq, hc2], by simpa using hI⟩ ?_ ?_
    · clear hc2 hI hnx m2 out g2 g5 g16 h17 h18
      rintro j t σ hj h25 h26 ⟨g2, g5, g6, g16, g17, g18, g24, hnx, out, hc2, hI⟩
      obtain ⟨y, hy⟩ := get_of_lt hj
      rw [ints_of_lt hj] at g24
      have hcy := cut_ints hy
      have htk : (ol x.blocks).take (j + 1) = (ol x.blocks).take j ++ [y] := by rw [List.take_add_one, hy]; rfl
      by_cases h0 : y < 0
      · repeat (first | (with_reducible refine Nx.go ?_) | ((with_reducible refine Ny.go ?_); (conv => arg 1; simp only [ev, sop, bounds, loI, hiI, fillParts, binSV, intBin, unSV, simprocAttr, ev2, ev4, g2, g5, g6, g16, g17, g18, g24, h26, hj, hcy, h0, recheck, wantedS, SV.same_self, Bool.and_self]); (first | (with_reducible refine Nz.go ?_) | refine Hold_some ?_)))
        exact ⟨by simp only [ev, sop, bounds, loI, hiI, fillParts, binSV, intBin, unSV, simprocAttr, ev2, ev4, h25], by simp only [ev, sop, bounds, loI, hiI, fillParts, binSV, intBin, unSV, simprocAttr, ev2, ev4, h26], fun v w => ⟨by simp only [ev, sop, bounds, loI, hiI, fillParts, binSV, intBin, unSV, simprocAttr, ev2, ev4, g2], by simp only [ev, sop, bounds, loI, hiI, fillParts, binSV, intBin, unSV, simprocAttr, ev2, ev4, g5], by simp only [ev, sop, bounds, loI, hiI, fillParts, binSV, intBin, unSV, simprocAttr, ev2, ev4, g6], by simp only [ev, sop, bounds, loI, hiI, fillParts, binSV, intBin, unSV, simprocAttr, ev2, ev4, g16], by simp only [ev, sop, bounds, loI, hiI, fillParts, binSV, intBin, unSV, simprocAttr, ev2, ev4, g17], by simp only [ev, sop, bounds, loI, hiI, fillParts, binSV, intBin, unSV, simprocAttr, ev2, ev4, g18], by simp only [ev, sop, bounds, loI, hiI, fillParts, binSV, intBin, unSV, simprocAttr, ev2, ev4, g24]; exact (ints_of_lt hj).symm, hnx, out, hc2, by rw [htk, ← List.append_assoc]; exact hI.skip (.inl h0)⟩⟩
      by_cases h1 : (n : Int) ≤ y
      · have h1' : y ≥ (n : Int) := h1
        repeat (first | (with_reducible refine Nx.go ?_) | ((with_reducible refine Ny.go ?_); (conv => arg 1; simp only [ev, sop, bounds, loI, hiI, fillParts, binSV, intBin, unSV, simprocAttr, ev2, ev4, g2, g5, g6, g16, g17, g18, g24, h26, hj, hcy, h0, h1', recheck, wantedS, SV.same_self, Bool.and_self]); (first | (with_reducible refine Nz.go ?_) | refine Hold_some ?_)))
        exact ⟨by simp only [ev, sop, bounds, loI, hiI, fillParts, binSV, intBin, unSV, simprocAttr, ev2, ev4, h25], by simp only [ev, sop, bounds, loI, hiI, fillParts, binSV, intBin, unSV, simprocAttr, ev2, ev4, h26], fun v w => ⟨by simp only [ev, sop, bounds, loI, hiI, fillParts, binSV, intBin, unSV, simprocAttr, ev2, ev4, g2], by simp only [ev, sop, bounds, loI, hiI, fillParts, binSV, intBin, unSV, simprocAttr, ev2, ev4, g5], by simp only [ev, sop, bounds, loI, hiI, fillParts, binSV, intBin, unSV, simprocAttr, ev2, ev4, g6], by simp only [ev, sop, bounds, loI, hiI, fillParts, binSV, intBin, unSV, simprocAttr, ev2, ev4, g16], by simp only [ev, sop, bounds, loI, hiI, fillParts, binSV, intBin, unSV, simprocAttr, ev2, ev4, g17], by simp only [ev, sop, bounds, loI, hiI, fillParts, binSV, intBin, unSV, simprocAttr, ev2, ev4, g18], by simp only [ev, sop, bounds, loI, hiI, fillParts, binSV, intBin, unSV, simprocAttr, ev2, ev4, g24]; exact (ints_of_lt hj).symm, hnx, out, hc2, by rw [htk, ← List.append_assoc]; exact hI.skip (.inr h1)⟩⟩
      have h1' : ¬ y ≥ (n : Int) := h1
      obtain ⟨b, rfl⟩ := Int.eq_ofNat_of_zero_le (show 0 ≤ y by omega)
      have hbn : b < n := by omega
      have hb0 : 0 ≤ (b : Int) := by omega
      have hbo : b < out.length := by rw [hI.len]; exact hbn
      obtain ⟨z, hz⟩ := get_of_lt hbo
      have hcz := cut_intsN hz
      by_cases h2 : z ≥ 0
      · repeat (first | (with_reducible refine Nx.go ?_) | ((with_reducible refine Ny.go ?_); (conv => arg 1; simp only [ev, sop, bounds, loI, hiI, fillParts, binSV, intBin, unSV, simprocAttr, ev2, ev4, g2, g5, g6, g16, g17, g18, g24, h26, hj, hcy, h0, h1', hc2, hb0, hbn, hcz, h2, recheck, wantedS, SV.same_self, Bool.and_self]); (first | (with_reducible refine Nz.go ?_) | refine Hold_some ?_)))
        (refine Hold1_of ?_; (conv => arg 1; simp only [ev, sop, bounds, loI, hiI, fillParts, binSV, intBin, unSV, simprocAttr, ev2, ev4, resultsSV, resMany, resOne]); refine Hold1_some ?_)
        obtain ⟨R, hR⟩ := blocksOf_split hx hy
        exact bad _ (hI.twice hbn hz h2 R hR)
      have hzm : z = -1 := by
        rcases hI.at_ b hbn with ⟨h3, _⟩ | ⟨_, k', t', _, _, h3⟩
        · rw [hz] at h3; injection h3
        · rw [hz] at h3; injection h3 with h3; omega
      subst hzm
      have hpp := paste_ints (k : Int) hbo
      have hlen2 : b < (out.map SV.int).length := by simpa using hbo
      have hbo1 : b + 1 ≤ (out.map SV.int).length := by rw [List.length_map]; exact hbo
      have hmm : ¬ (-1 : Int) ≥ 0 := by omega
      repeat (first | (with_reducible refine Nx.go ?_) | ((with_reducible refine Ny.go ?_); (conv => arg 1; simp only [ev, sop, bounds, loI, hiI, fillParts, binSV, intBin, unSV, simprocAttr, ev2, ev4, g2, g5, g6, g16, g17, g18, g24, h26, hj, hcy, h0, h1', hc2, hb0, hbn, hcz, hmm, hpp, hlen2, hbo1, recheck, wantedS, SV.same_self, Bool.and_self]); (first | (with_reducible refine Nz.go ?_) | refine Hold_some ?_)))
      exact ⟨by simp only [ev, sop, bounds, loI, hiI, fillParts, binSV, intBin, unSV, simprocAttr, ev2, ev4, h25], by simp only [ev, sop, bounds, loI, hiI, fillParts, binSV, intBin, unSV, simprocAttr, ev2, ev4, h26], fun v w => ⟨by simp only [ev, sop, bounds, loI, hiI, fillParts, binSV, intBin, unSV, simprocAttr, ev2, ev4, g2], by simp only [ev, sop, bounds, loI, hiI, fillParts, binSV, intBin, unSV, simprocAttr, ev2, ev4, g5], by simp only [ev, sop, bounds, loI, hiI, fillParts, binSV, intBin, unSV, simprocAttr, ev2, ev4, g6], by simp only [ev, sop, bounds, loI, hiI, fillParts, binSV, intBin, unSV, simprocAttr, ev2, ev4, g16], by simp only [ev, sop, bounds, loI, hiI, fillParts, binSV, intBin, unSV, simprocAttr, ev2, ev4, g17], by simp only [ev, sop, bounds, loI, hiI, fillParts, binSV, intBin, unSV, simprocAttr, ev2, ev4, g18], by simp only [ev, sop, bounds, loI, hiI, fillParts, binSV, intBin, unSV, simprocAttr, ev2, ev4, g24]; exact (ints_of_lt hj).symm, by simpa [next_set] using hnx, out.set b (k : Int), by simp (disch := first | omega | (simp only [nx_push, nx_set]; done) | (simp only [nx_push, nx_set]; omega)) only [cells_push_ne, cells_push_eq, cells_set_ne, cells_set_eq], by rw [htk, ← List.append_assoc]; exact hI.put hbn hx (List.mem_of_getElem? hy) hz⟩⟩
    · clear hc2 hI hnx m2 out g2 g5 g16 h17 h18
      rintro t σ ⟨g2, g5, g6, g16, g17, g18, g24, hnx, out, hc2, hI⟩
      repeat (first | (with_reducible refine Nx.go ?_) | ((with_reducible refine Ny.go ?_); (conv => arg 1; simp only [ev, sop, bounds, loI, hiI, fillParts, binSV, intBin, unSV, simprocAttr, ev2, ev4, g17, g18, recheck, wantedS, SV.same_self, Bool.and_self]); (first | (with_reducible refine Nz.go ?_) | refine Hold_some ?_)))
      rw [List.take_length, ← blocksOf_take hx] at hI
      exact ⟨by simp only [ev, sop, bounds, loI, hiI, fillParts, binSV, intBin, unSV, simprocAttr, ev2, ev4, g17], by simp only [ev, sop, bounds, loI, hiI, fillParts, binSV, intBin, unSV, simprocAttr, ev2, ev4, g18], fun v w => ⟨by simp only [ev, sop, bounds, loI, hiI, fillParts, binSV, intBin, unSV, simprocAttr, ev2, ev4, g2], by simp only [ev, sop, bounds, loI, hiI, fillParts, binSV, intBin, unSV, simprocAttr, ev2, ev4, g5], by simp only [ev, sop, bounds, loI, hiI, fillParts, binSV, intBin, unSV, simprocAttr, ev2, ev4, g16], hnx, out, hc2, hI⟩⟩
  · clear hc2 hnx k0
    rintro t σ ⟨g2, g5, g16, hnx, out, hc2, hI⟩
    rw [List.take_length] at hI
    have hz := hrow σ out hI.len hc2
    have hz2 : mapO (frz σ 20) [.sl 2 0 n 1, .sc (.int .i64 (-1))] = some [intsV (some out), .sc (.int .i64 (-1))] := by
      rw [show (20 : Nat) = 19 + 1 from rfl] at hz ⊢
      simp only [mapO, hz, frz_pure (show (SV.sc (.int .i64 (-1))).pure = true from rfl), Option.map_some]
    repeat (first | (with_reducible refine Nx.go ?_) | ((with_reducible refine Ny.go ?_); (conv => arg 1; simp only [ev, sop, bounds, loI, hiI, fillParts, binSV, intBin, unSV, simprocAttr, ev2, ev4, g5, recheck, wantedS, SV.same_self, Bool.and_self]); (first | (with_reducible refine Nz.go ?_) | refine Hold_some ?_)))
    refine st_tellz (t_containsI (some out) (-1) (by show out.length ≤ 2 ^ 62; rw [hI.len]; omega)) ⟨_, rfl, by first | omega | decide⟩ wantedS_none (by simp only [ev, sop, bounds, loI, hiI, fillParts, binSV, intBin, unSV, simprocAttr, ev2, ev4, g5] <;> rfl) (hz2) (by first | with_reducible exact flat_set _ | rfl) (by first | with_reducible exact recheck_nil | (simp only [recheck, wantedS]; simp only [ev, sop, bounds, loI, hiI, fillParts, binSV, intBin, unSV, simprocAttr, ev2, ev4, g5]; simp only [SV.same_self, Bool.and_self, beq_self_eq_true])) ?_
    by_cases hno : (-1 : Int) ∈ out
    · have hd : decide ((-1 : Int) ∈ ol (some out)) = true := decide_eq_true hno
      repeat (first | (with_reducible refine Nx.go ?_) | ((with_reducible refine Ny.go ?_); (conv => arg 1; simp only [ev, sop, bounds, loI, hiI, fillParts, binSV, intBin, unSV, simprocAttr, ev2, ev4, g5, hd, recheck, wantedS, SV.same_self, Bool.and_self]); (first | (with_reducible refine Nz.go ?_) | refine Hold_some ?_)))
      (refine Hold1_of ?_; (conv => arg 1; simp only [ev, sop, bounds, loI, hiI, fillParts, binSV, intBin, unSV, simprocAttr, ev2, ev4, resultsSV, resMany, resOne]); refine Hold1_some ?_)
      exact bad _ (hI.lack hno)
    · have hd : decide ((-1 : Int) ∈ ol (some out)) = false := decide_eq_false hno
      repeat (first | (with_reducible refine Nx.go ?_) | ((with_reducible refine Ny.go ?_); (conv => arg 1; simp only [ev, sop, bounds, loI, hiI, fillParts, binSV, intBin, unSV, simprocAttr, ev2, ev4, g5, hd, recheck, wantedS, SV.same_self, Bool.and_self]); (first | (with_reducible refine Nz.go ?_) | refine Hold_some ?_)))
      (refine Hold1_of ?_; (conv => arg 1; simp only [ev, sop, bounds, loI, hiI, fillParts, binSV, intBin, unSV, simprocAttr, ev2, ev4, resultsSV, resMany, resOne]); refine Hold1_some ?_)
      exact ⟨some out, hz, hI.done hno⟩
end Go.Proofs.Ytojjhcgbbmknmaa.Sh

/- Whose own each block is, with its error; may a tile stand at its place? (written by genU7.py) -/
namespace Go.Proofs.Ytojjhcgbbmknmaa.Sh
set_option linter.unusedSimpArgs false
set_option linter.unusedVariables false
open Go Go.Proofs

theorem eql_nil (r : Option (List Int)) : binSV 3 1 .eql (intsV r) (.sc .nilsl) = some (.sc (.bool r.isNone)) := by cases r <;> rfl
theorem blks_len (f : FuncD) : lenSV (blksV f.blocks) = some f.bl.length := lenSV_rec _
theorem walker_one (f : FuncD) : allOne [intsV f.params, blksV f.blocks, rowsV f.to, rowsV f.from_] := by
  intro c hc
  simp only [List.mem_cons, List.not_mem_nil, or_false] at hc
  rcases hc with rfl | rfl | rfl | rfl
  · exact one_ints _
  · exact one_recV _
  · rfl
  · rfl
theorem walker_pure (f : FuncD) : pures [intsV f.params, blksV f.blocks, rowsV f.to, rowsV f.from_] = true := by simp [pures, pure_ints, pure_blks, pure_rows]

set_option maxHeartbeats 4000000 in
theorem t_Own (f : FuncD) (o : Option (List TileD)) (hl : f.bl.length ≤ 2 ^ 47) (ht : tilesWithin (2 ^ 47) (ol o)) :
    ∃ r e, Tells 10 [f.sv, tilesV o] (.tup [intsV r, .sc (.int .i64 e)]) ∧ (f.fits → OwnIs f.bl.length (ol o) r ∧ e = if r.isNone = true then 12 else 0) ∧ (¬ f.fits → r = none ∧ e = 2) := by
  obtain ⟨w, hw4, hw, ho⟩ := t_over f hl
  match w, hw4 with
  | [a, b, c, d], _ =>
  by_cases hf : f.fits
  · have hB := FuncD.fitsB_iff.2 hf
    have hw := hw hf
    unfold FuncD.walker at hw
    injection hw with hw
    injection hw with e1 hw; injection hw with e2 hw; injection hw with e3 hw; injection hw with e4 _
    subst e1 e2 e3 e4
    obtain ⟨r, h1, h2⟩ := t_own (o := o) (walker_pure f) (walker_one f) (blks_len f) hf.1.1 hf.1.2.1 ht
    refine ⟨r, if r.isNone = true then 12 else 0, ?_, fun _ => ⟨h2, rfl⟩, fun h => absurd hf h⟩
    refine tells_fn rfl rfl rfl rfl ?_
    rw [show f.sv = .agg [intsV f.params, blksV f.blocks] from rfl] at *
    repeat (first | (with_reducible refine Nx.go ?_) | ((with_reducible refine Ny.go ?_); (conv => arg 1; simp only [ev, sop, bounds, loI, hiI, fillParts, binSV, intBin, unSV, simprocAttr, ev2, ev4, recheck, wantedS, SV.same_self, Bool.and_self]); (first | (with_reducible refine Nz.go ?_) | refine Hold_some ?_)))
    refine st_tellp (ho) ⟨_, rfl, by first | omega | decide⟩ wantedS_none (by simp only [ev, sop, bounds, loI, hiI, fillParts, binSV, intBin, unSV, simprocAttr, ev2, ev4] <;> rfl) (by first | rfl | simp [pures, SV.pure, *, pure_func, pure_ints, pure_blks, pure_insV, pure_rows, pure_tiles, pure_set, pures_set]) (by first | with_reducible exact recheck_nil | (simp only [recheck, wantedS]; simp only [ev, sop, bounds, loI, hiI, fillParts, binSV, intBin, unSV, simprocAttr, ev2, ev4]; simp only [SV.same_self, Bool.and_self, beq_self_eq_true])) ?_
    repeat (first | (with_reducible refine Nx.go ?_) | ((with_reducible refine Ny.go ?_); (conv => arg 1; simp only [ev, sop, bounds, loI, hiI, fillParts, binSV, intBin, unSV, simprocAttr, ev2, ev4, hB, recheck, wantedS, SV.same_self, Bool.and_self]); (first | (with_reducible refine Nz.go ?_) | refine Hold_some ?_)))
    refine st_tellp (h1) ⟨_, rfl, by first | omega | decide⟩ wantedS_none (by simp only [ev, sop, bounds, loI, hiI, fillParts, binSV, intBin, unSV, simprocAttr, ev2, ev4] <;> rfl) (by first | rfl | simp [pures, SV.pure, *, pure_func, pure_ints, pure_blks, pure_insV, pure_rows, pure_tiles, pure_set, pures_set]) (by first | with_reducible exact recheck_nil | (simp only [recheck, wantedS]; simp only [ev, sop, bounds, loI, hiI, fillParts, binSV, intBin, unSV, simprocAttr, ev2, ev4]; simp only [SV.same_self, Bool.and_self, beq_self_eq_true])) ?_
    cases r with
    | none =>
      have h := eql_nil none
      simp only [Option.isNone_none] at h
      repeat (first | (with_reducible refine Nx.go ?_) | ((with_reducible refine Ny.go ?_); (conv => arg 1; simp only [ev, sop, bounds, loI, hiI, fillParts, binSV, intBin, unSV, simprocAttr, ev2, ev4, h, recheck, wantedS, SV.same_self, Bool.and_self]); (first | (with_reducible refine Nz.go ?_) | refine Hold_some ?_)))
      (refine Hold1_of ?_; (conv => arg 1; simp only [ev, sop, bounds, loI, hiI, fillParts, binSV, intBin, unSV, simprocAttr, ev2, ev4, resultsSV, resMany, resOne]); refine Hold1_some ?_)
      exact frz_of_pure rfl
    | some l =>
      have h := eql_nil (some l)
      simp only [Option.isNone_some] at h
      repeat (first | (with_reducible refine Nx.go ?_) | ((with_reducible refine Ny.go ?_); (conv => arg 1; simp only [ev, sop, bounds, loI, hiI, fillParts, binSV, intBin, unSV, simprocAttr, ev2, ev4, h, recheck, wantedS, SV.same_self, Bool.and_self]); (first | (with_reducible refine Nz.go ?_) | refine Hold_some ?_)))
      (refine Hold1_of ?_; (conv => arg 1; simp only [ev, sop, bounds, loI, hiI, fillParts, binSV, intBin, unSV, simprocAttr, ev2, ev4, resultsSV, resMany, resOne]); refine Hold1_some ?_)
      exact frz_of_pure (by simp [SV.pure, pures, pure_ints])
  · have hB := FuncD.fitsB_no hf
    refine ⟨none, 2, ?_, fun h => absurd h hf, fun _ => ⟨rfl, rfl⟩⟩
    refine tells_fn rfl rfl rfl rfl ?_
    rw [show f.sv = .agg [intsV f.params, blksV f.blocks] from rfl] at *
    repeat (first | (with_reducible refine Nx.go ?_) | ((with_reducible refine Ny.go ?_); (conv => arg 1; simp only [ev, sop, bounds, loI, hiI, fillParts, binSV, intBin, unSV, simprocAttr, ev2, ev4, recheck, wantedS, SV.same_self, Bool.and_self]); (first | (with_reducible refine Nz.go ?_) | refine Hold_some ?_)))
    refine st_tellp (ho) ⟨_, rfl, by first | omega | decide⟩ wantedS_none (by simp only [ev, sop, bounds, loI, hiI, fillParts, binSV, intBin, unSV, simprocAttr, ev2, ev4] <;> rfl) (by first | rfl | simp [pures, SV.pure, *, pure_func, pure_ints, pure_blks, pure_insV, pure_rows, pure_tiles, pure_set, pures_set]) (by first | with_reducible exact recheck_nil | (simp only [recheck, wantedS]; simp only [ev, sop, bounds, loI, hiI, fillParts, binSV, intBin, unSV, simprocAttr, ev2, ev4]; simp only [SV.same_self, Bool.and_self, beq_self_eq_true])) ?_
    repeat (first | (with_reducible refine Nx.go ?_) | ((with_reducible refine Ny.go ?_); (conv => arg 1; simp only [ev, sop, bounds, loI, hiI, fillParts, binSV, intBin, unSV, simprocAttr, ev2, ev4, hB, recheck, wantedS, SV.same_self, Bool.and_self]); (first | (with_reducible refine Nz.go ?_) | refine Hold_some ?_)))
    (refine Hold1_of ?_; (conv => arg 1; simp only [ev, sop, bounds, loI, hiI, fillParts, binSV, intBin, unSV, simprocAttr, ev2, ev4, resultsSV, resMany, resOne]); refine Hold1_some ?_)
    exact frz_of_pure rfl

theorem beqs : ((true == true) = true) ∧ ((true == false) = false) ∧ ((false == true) = false) ∧ ((false == false) = true) := ⟨rfl, rfl, rfl, rfl⟩
/-! ### A tile's place -/
def Rises (n : Nat) (L : List Int) : Prop := (∀ x ∈ L, 0 ≤ x ∧ x < (n : Int)) ∧ L.Pairwise (· < ·)
structure RiseInv (n : Nat) (last : Int) (L : List Int) : Prop where
  all : ∀ x ∈ L, 0 ≤ x ∧ x < (n : Int) ∧ x ≤ last
  pw : L.Pairwise (· < ·)
  is : last = -1 ∨ last ∈ L
theorem RiseInv.start (n : Nat) : RiseInv n (-1) [] := ⟨by simp, .nil, .inl rfl⟩
theorem RiseInv.add {n : Nat} {last y : Int} {L : List Int} (h : RiseInv n last L) (h1 : last < y) (h2 : y < (n : Int)) : RiseInv n y (L ++ [y]) := by
  have h0 : -1 ≤ last := by
    rcases h.is with e | e
    · omega
    · have := h.all _ e; omega
  refine ⟨fun x hx => ?_, ?_, .inr (by simp)⟩
  · rcases List.mem_append.1 hx with hx | hx
    · have := h.all x hx; omega
    · simp at hx; omega
  · rw [List.pairwise_append]
    refine ⟨h.pw, by simp, fun a ha b hb => ?_⟩
    simp at hb; subst hb
    have := h.all a ha; omega
theorem RiseInv.low {n j : Nat} {last y : Int} {L : List Int} (h : RiseInv n last (L.take j)) (hy : L[j]? = some y) (h1 : y ≤ last) : ¬ Rises n L := by
  rintro ⟨h2, h3⟩
  have hy0 := (h2 y (List.mem_of_getElem? hy)).1
  rcases h.is with e | e
  · omega
  · have h4 : L = L.take j ++ y :: L.drop (j + 1) := by
      conv => lhs; rw [← List.take_append_drop j L]
      rw [List.drop_eq_getElem_cons (List.getElem?_eq_some_iff.1 hy).1, (List.getElem?_eq_some_iff.1 hy).2]
    rw [h4, List.pairwise_append] at h3
    have := h3.2.2 last e y (by simp)
    omega
theorem RiseInv.high {n j : Nat} {last y : Int} {L : List Int} (_ : RiseInv n last (L.take j)) (hy : L[j]? = some y) (h1 : (n : Int) ≤ y) : ¬ Rises n L := by
  rintro ⟨h2, _⟩
  have := h2 y (List.mem_of_getElem? hy)
  omega
structure Stands (n : Nat) (l : List TileD) (k : Nat) (x : TileD) : Prop where
  root : k = 0 ↔ x.kind = 1
  top : k = 0 ↔ x.parent = -1
  some_ : ol x.blocks ≠ []
  up : 0 < k → ∀ p : TileD, l[x.parent.toNat]? = some p → p.kind ≠ 3
  rise : Rises n (ol x.blocks)
set_option maxHeartbeats 8000000 in
theorem t_stands {ps bs tr fr : SV} {n k : Nat} {o : Option (List TileD)} {x : TileD} (hp : pures [ps, bs, tr, fr] = true) (hone : allOne [ps, bs, tr, fr]) (hbs : lenSV bs = some n) (hl : tilesWithin (2 ^ 47) (ol o)) (hpa : parentsOk (ol o)) (hx : (ol o)[k]? = some x) :
    ∃ b, Tells 36 [.agg [ps, bs, tr, fr], tilesV o, .sc (.int .i64 (k : Nat))] (.sc (.bool b)) ∧ (b = true ↔ Stands n (ol o) k x) := by
  suffices h : WPF (EV 1) 36 [.agg [ps, bs, tr, fr], tilesV o, .sc (.int .i64 (k : Nat))] St.empty (fun v σ => ∃ b, v = .sc (.bool b) ∧ (b = true ↔ Stands n (ol o) k x)) by
    obtain ⟨q, v, σ, h1, b, rfl, h3⟩ := h
    exact ⟨b, ⟨_, rfl, q, _, σ, h1, frz_of_pure rfl⟩, h3⟩
  refine told_fn rfl rfl rfl rfl ?_
  have hk : k < (ol o).length := (List.getElem?_eq_some_iff.1 hx).1
  have hxl := hl.2 x (List.mem_of_getElem? hx)
  have hll := hl.1
  have hxp := hpa k x hx
  rw [show tilesV o = _ from rec_of_lt hk]
  have hcx := cut_tile hx
  have bad : ∀ σ : St, ¬ Stands n (ol o) k x → ∃ b, (SV.sc (.bool false)) = .sc (.bool b) ∧ (b = true ↔ Stands n (ol o) k x) := fun _ h => ⟨false, rfl, by simp [h]⟩
  have hk0 : (0 : Int) ≤ (k : Int) := by omega
  by_cases ek : k = 0
  · have ek' : ((k : Int) == 0) = true := by simp [ek]
    have ekg : ¬ (k : Int) > 0 := by omega
    by_cases h1 : x.kind = 1
    rotate_left
    · have h1' : (x.kind == 1) = false := by simpa using h1
      repeat (first | (with_reducible refine Nx.go ?_) | ((with_reducible refine Ny.go ?_); (conv => arg 1; simp only [ev, sop, bounds, loI, hiI, fillParts, binSV, intBin, unSV, simprocAttr, ev2, ev4, hk, hcx, ek', h1', beqs, recheck, wantedS, SV.same_self, Bool.and_self]); (first | (with_reducible refine Nz.go ?_) | refine Hold_some ?_)))
      (refine Hold1_of ?_; (conv => arg 1; simp only [ev, sop, bounds, loI, hiI, fillParts, binSV, intBin, unSV, simprocAttr, ev2, ev4, resultsSV, resMany, resOne]); refine Hold1_some ?_)
      exact bad St.empty (fun h => h1 (h.root.1 ek))
    have h1' : (x.kind == 1) = true := by simpa using h1
    by_cases h2 : x.parent = -1
    rotate_left
    · have h2' : (x.parent == -1) = false := by simpa using h2
      repeat (first | (with_reducible refine Nx.go ?_) | ((with_reducible refine Ny.go ?_); (conv => arg 1; simp only [ev, sop, bounds, loI, hiI, fillParts, binSV, intBin, unSV, simprocAttr, ev2, ev4, hk, hcx, ek', h1', h2', beqs, recheck, wantedS, SV.same_self, Bool.and_self]); (first | (with_reducible refine Nz.go ?_) | refine Hold_some ?_)))
      (refine Hold1_of ?_; (conv => arg 1; simp only [ev, sop, bounds, loI, hiI, fillParts, binSV, intBin, unSV, simprocAttr, ev2, ev4, resultsSV, resMany, resOne]); refine Hold1_some ?_)
      exact bad St.empty (fun h => h2 (h.top.1 ek))
    have h2' : (x.parent == -1) = true := by simpa using h2
    by_cases h3 : ol x.blocks = []
    · have h3' : (((ol x.blocks).length : Int) == 0) = true := by simp [h3]
      repeat (first | (with_reducible refine Nx.go ?_) | ((with_reducible refine Ny.go ?_); (conv => arg 1; simp only [ev, sop, bounds, loI, hiI, fillParts, binSV, intBin, unSV, simprocAttr, ev2, ev4, hk, hcx, ek', h1', h2', h3', beqs, recheck, wantedS, SV.same_self, Bool.and_self]); (first | (with_reducible refine Nz.go ?_) | refine Hold_some ?_)))
      (refine Hold1_of ?_; (conv => arg 1; simp only [ev, sop, bounds, loI, hiI, fillParts, binSV, intBin, unSV, simprocAttr, ev2, ev4, resultsSV, resMany, resOne]); refine Hold1_some ?_)
      exact bad St.empty (fun h => h.some_ h3)
    have h3' : (((ol x.blocks).length : Int) == 0) = false := by simpa using h3
    have good : ∀ {last : Int} (σ : St), RiseInv n last (ol x.blocks) → ∃ b, (SV.sc (.bool true)) = .sc (.bool b) ∧ (b = true ↔ Stands n (ol o) k x) := fun _ hI => ⟨true, rfl, ⟨fun _ => ⟨by simp [ek, h1], by simp [ek, h2], h3, fun h => by omega, fun y hy => ⟨(hI.all y hy).1, (hI.all y hy).2.1⟩, hI.pw⟩, fun _ => rfl⟩⟩
    repeat (first | (with_reducible refine Nx.go ?_) | ((with_reducible refine Ny.go ?_); (conv => arg 1; simp only [ev, sop, bounds, loI, hiI, fillParts, binSV, intBin, unSV, simprocAttr, ev2, ev4, hk, hcx, ek', ekg, h1', h2', h3', beqs, recheck, wantedS, SV.same_self, Bool.and_self]); (first | (with_reducible refine Nz.go ?_) | refine Hold_some ?_)))
    refine WP_range (N := (ol x.blocks).length) (fun j t σ => getT t 3 = .ptr 0 0 ∧ getT t 49 = intsV x.blocks ∧ cellsOf σ 0 = some [ps, bs, tr, fr] ∧ ∃ last : Int, getT t 8 = .sc (.int .i64 last) ∧ RiseInv n last ((ol x.blocks).take j)) (by omega) (by simp only [ev, sop, bounds, loI, hiI, fillParts, binSV, intBin, unSV, simprocAttr, ev2, ev4]) (by simp only [ev, sop, bounds, loI, hiI, fillParts, binSV, intBin, unSV, simprocAttr, ev2, ev4]) (by decide)
      ⟨by simp only [ev, sop, bounds, loI, hiI, fillParts, binSV, intBin, unSV, simprocAttr, ev2, ev4], by simp only [ev, sop, bounds, loI, hiI, fillParts, binSV, intBin, unSV, simprocAttr, ev2, ev4], by simp only [ev, sop, bounds, loI, hiI, fillParts, binSV, intBin, unSV, simprocAttr, ev2, ev4], -1, by simp only [ev, sop, bounds, loI, hiI, fillParts, binSV, intBin, unSV, simprocAttr, ev2, ev4], by simpa using RiseInv.start n⟩ ?_ ?_
    · rintro j t σ hj g50 g51 ⟨g3, g49, c0, last, g8, hI⟩
      obtain ⟨y, hy⟩ := get_of_lt hj
      rw [ints_of_lt hj] at g49
      have hcy := cut_ints hy
      have htk : (ol x.blocks).take (j + 1) = (ol x.blocks).take j ++ [y] := by rw [List.take_add_one, hy]; rfl
      by_cases h1 : y ≤ last
      · repeat (first | (with_reducible refine Nx.go ?_) | ((with_reducible refine Ny.go ?_); (conv => arg 1; simp only [ev, sop, bounds, loI, hiI, fillParts, binSV, intBin, unSV, simprocAttr, ev2, ev4, g3, g8, g49, g51, hj, hcy, h1, recheck, wantedS, SV.same_self, Bool.and_self]); (first | (with_reducible refine Nz.go ?_) | refine Hold_some ?_)))
        (refine Hold1_of ?_; (conv => arg 1; simp only [ev, sop, bounds, loI, hiI, fillParts, binSV, intBin, unSV, simprocAttr, ev2, ev4, resultsSV, resMany, resOne]); refine Hold1_some ?_)
        exact bad St.empty (fun h => hI.low hy h1 h.rise)
      by_cases h2 : (n : Int) ≤ y
      · have h2' : y ≥ (n : Int) := h2
        repeat (first | (with_reducible refine Nx.go ?_) | ((with_reducible refine Ny.go ?_); (conv => arg 1; simp only [ev, sop, bounds, loI, hiI, fillParts, binSV, intBin, unSV, simprocAttr, ev2, ev4, g3, g8, g49, g51, hj, hcy, h1, h2', c0, hbs, recheck, wantedS, SV.same_self, Bool.and_self]); (first | (with_reducible refine Nz.go ?_) | refine Hold_some ?_)))
        (refine Hold1_of ?_; (conv => arg 1; simp only [ev, sop, bounds, loI, hiI, fillParts, binSV, intBin, unSV, simprocAttr, ev2, ev4, resultsSV, resMany, resOne]); refine Hold1_some ?_)
        exact bad St.empty (fun h => hI.high hy h2 h.rise)
      have h2' : ¬ y ≥ (n : Int) := h2
      repeat (first | (with_reducible refine Nx.go ?_) | ((with_reducible refine Ny.go ?_); (conv => arg 1; simp only [ev, sop, bounds, loI, hiI, fillParts, binSV, intBin, unSV, simprocAttr, ev2, ev4, g3, g8, g49, g51, hj, hcy, h1, h2', c0, hbs, recheck, wantedS, SV.same_self, Bool.and_self]); (first | (with_reducible refine Nz.go ?_) | refine Hold_some ?_)))
      exact ⟨by simp only [ev, sop, bounds, loI, hiI, fillParts, binSV, intBin, unSV, simprocAttr, ev2, ev4, g50], by simp only [ev, sop, bounds, loI, hiI, fillParts, binSV, intBin, unSV, simprocAttr, ev2, ev4, g51], fun v w => ⟨by simp only [ev, sop, bounds, loI, hiI, fillParts, binSV, intBin, unSV, simprocAttr, ev2, ev4, g3], by simp only [ev, sop, bounds, loI, hiI, fillParts, binSV, intBin, unSV, simprocAttr, ev2, ev4, g49]; exact (ints_of_lt hj).symm, c0, y, by simp only [ev, sop, bounds, loI, hiI, fillParts, binSV, intBin, unSV, simprocAttr, ev2, ev4], by rw [htk]; exact hI.add (by omega) (by omega)⟩⟩
    · rintro t σ ⟨g3, g49, c0, last, g8, hI⟩
      rw [List.take_length] at hI
      repeat (first | (with_reducible refine Nx.go ?_) | ((with_reducible refine Ny.go ?_); (conv => arg 1; simp only [ev, sop, bounds, loI, hiI, fillParts, binSV, intBin, unSV, simprocAttr, ev2, ev4, recheck, wantedS, SV.same_self, Bool.and_self]); (first | (with_reducible refine Nz.go ?_) | refine Hold_some ?_)))
      (refine Hold1_of ?_; (conv => arg 1; simp only [ev, sop, bounds, loI, hiI, fillParts, binSV, intBin, unSV, simprocAttr, ev2, ev4, resultsSV, resMany, resOne]); refine Hold1_some ?_)
      exact good St.empty hI
  · have ek' : ((k : Int) == 0) = false := by simpa using ek
    have ekg : (k : Int) > 0 := by omega
    by_cases h1 : x.kind = 1
    · have h1' : (x.kind == 1) = true := by simpa using h1
      repeat (first | (with_reducible refine Nx.go ?_) | ((with_reducible refine Ny.go ?_); (conv => arg 1; simp only [ev, sop, bounds, loI, hiI, fillParts, binSV, intBin, unSV, simprocAttr, ev2, ev4, hk, hcx, ek', h1', beqs, recheck, wantedS, SV.same_self, Bool.and_self]); (first | (with_reducible refine Nz.go ?_) | refine Hold_some ?_)))
      (refine Hold1_of ?_; (conv => arg 1; simp only [ev, sop, bounds, loI, hiI, fillParts, binSV, intBin, unSV, simprocAttr, ev2, ev4, resultsSV, resMany, resOne]); refine Hold1_some ?_)
      exact bad St.empty (fun h => ek (h.root.2 h1))
    have h1' : (x.kind == 1) = false := by simpa using h1
    by_cases h2 : x.parent = -1
    · have h2' : (x.parent == -1) = true := by simpa using h2
      repeat (first | (with_reducible refine Nx.go ?_) | ((with_reducible refine Ny.go ?_); (conv => arg 1; simp only [ev, sop, bounds, loI, hiI, fillParts, binSV, intBin, unSV, simprocAttr, ev2, ev4, hk, hcx, ek', h1', h2', beqs, recheck, wantedS, SV.same_self, Bool.and_self]); (first | (with_reducible refine Nz.go ?_) | refine Hold_some ?_)))
      (refine Hold1_of ?_; (conv => arg 1; simp only [ev, sop, bounds, loI, hiI, fillParts, binSV, intBin, unSV, simprocAttr, ev2, ev4, resultsSV, resMany, resOne]); refine Hold1_some ?_)
      exact bad St.empty (fun h => ek (h.top.2 h2))
    have h2' : (x.parent == -1) = false := by simpa using h2
    by_cases h3 : ol x.blocks = []
    · have h3' : (((ol x.blocks).length : Int) == 0) = true := by simp [h3]
      repeat (first | (with_reducible refine Nx.go ?_) | ((with_reducible refine Ny.go ?_); (conv => arg 1; simp only [ev, sop, bounds, loI, hiI, fillParts, binSV, intBin, unSV, simprocAttr, ev2, ev4, hk, hcx, ek', h1', h2', h3', beqs, recheck, wantedS, SV.same_self, Bool.and_self]); (first | (with_reducible refine Nz.go ?_) | refine Hold_some ?_)))
      (refine Hold1_of ?_; (conv => arg 1; simp only [ev, sop, bounds, loI, hiI, fillParts, binSV, intBin, unSV, simprocAttr, ev2, ev4, resultsSV, resMany, resOne]); refine Hold1_some ?_)
      exact bad St.empty (fun h => h.some_ h3)
    have h3' : (((ol x.blocks).length : Int) == 0) = false := by simpa using h3
    have hp0 : 0 ≤ x.parent := by omega
    have hpl : x.parent.toNat < (ol o).length := by omega
    have hpl' : x.parent < ((ol o).length : Int) := by omega
    obtain ⟨p, hpx⟩ := get_of_lt hpl
    have hcp : cut ((ol o).flatMap TileD.cells) (x.parent.toNat * 3) 1 = some [.sc (.int .i64 p.kind)] := cut_flat0 (enc := TileD.cells) (sz := 3) (fun _ => rfl) hpx 1 (by omega)
    by_cases h4 : p.kind = 3
    · have h4' : (p.kind == 3) = true := by simpa using h4
      repeat (first | (with_reducible refine Nx.go ?_) | ((with_reducible refine Ny.go ?_); (conv => arg 1; simp only [ev, sop, bounds, loI, hiI, fillParts, binSV, intBin, unSV, simprocAttr, ev2, ev4, hk, hcx, ek', ekg, h1', h2', h3', beqs, hp0, hpl', hpl, hcp, h4', recheck, wantedS, SV.same_self, Bool.and_self]); (first | (with_reducible refine Nz.go ?_) | refine Hold_some ?_)))
      (refine Hold1_of ?_; (conv => arg 1; simp only [ev, sop, bounds, loI, hiI, fillParts, binSV, intBin, unSV, simprocAttr, ev2, ev4, resultsSV, resMany, resOne]); refine Hold1_some ?_)
      exact bad St.empty (fun h => h.up (by omega) p hpx h4)
    have h4' : (p.kind == 3) = false := by simpa using h4
    have good : ∀ {last : Int} (σ : St), RiseInv n last (ol x.blocks) → ∃ b, (SV.sc (.bool true)) = .sc (.bool b) ∧ (b = true ↔ Stands n (ol o) k x) := fun _ hI => ⟨true, rfl, ⟨fun _ => ⟨by simp [ek, h1], by simp [ek, h2], h3, fun _ q hq => by rw [hpx] at hq; cases hq; exact h4, fun y hy => ⟨(hI.all y hy).1, (hI.all y hy).2.1⟩, hI.pw⟩, fun _ => rfl⟩⟩
    repeat (first | (with_reducible refine Nx.go ?_) | ((with_reducible refine Ny.go ?_); (conv => arg 1; simp only [ev, sop, bounds, loI, hiI, fillParts, binSV, intBin, unSV, simprocAttr, ev2, ev4, hk, hcx, ek', ekg, h1', h2', h3', beqs, hp0, hpl', hpl, hcp, h4', recheck, wantedS, SV.same_self, Bool.and_self]); (first | (with_reducible refine Nz.go ?_) | refine Hold_some ?_)))
    refine WP_range (N := (ol x.blocks).length) (fun j t σ => getT t 3 = .ptr 0 0 ∧ getT t 49 = intsV x.blocks ∧ cellsOf σ 0 = some [ps, bs, tr, fr] ∧ ∃ last : Int, getT t 8 = .sc (.int .i64 last) ∧ RiseInv n last ((ol x.blocks).take j)) (by omega) (by simp only [ev, sop, bounds, loI, hiI, fillParts, binSV, intBin, unSV, simprocAttr, ev2, ev4]) (by simp only [ev, sop, bounds, loI, hiI, fillParts, binSV, intBin, unSV, simprocAttr, ev2, ev4]) (by decide)
      ⟨by simp only [ev, sop, bounds, loI, hiI, fillParts, binSV, intBin, unSV, simprocAttr, ev2, ev4], by simp only [ev, sop, bounds, loI, hiI, fillParts, binSV, intBin, unSV, simprocAttr, ev2, ev4], by simp only [ev, sop, bounds, loI, hiI, fillParts, binSV, intBin, unSV, simprocAttr, ev2, ev4], -1, by simp only [ev, sop, bounds, loI, hiI, fillParts, binSV, intBin, unSV, simprocAttr, ev2, ev4], by simpa using RiseInv.start n⟩ ?_ ?_
    · rintro j t σ hj g50 g51 ⟨g3, g49, c0, last, g8, hI⟩
      obtain ⟨y, hy⟩ := get_of_lt hj
      rw [ints_of_lt hj] at g49
      have hcy := cut_ints hy
      have htk : (ol x.blocks).take (j + 1) = (ol x.blocks).take j ++ [y] := by rw [List.take_add_one, hy]; rfl
      by_cases h1 : y ≤ last
      · repeat (first | (with_reducible refine Nx.go ?_) | ((with_reducible refine Ny.go ?_); (conv => arg 1; simp only [ev, sop, bounds, loI, hiI, fillParts, binSV, intBin, unSV, simprocAttr, ev2, ev4, g3, g8, g49, g51, hj, hcy, h1, recheck, wantedS, SV.same_self, Bool.and_self]); (first | (with_reducible refine Nz.go ?_) | refine Hold_some ?_)))
        (refine Hold1_of ?_; (conv => arg 1; simp only [ev, sop, bounds, loI, hiI, fillParts, binSV, intBin, unSV, simprocAttr, ev2, ev4, resultsSV, resMany, resOne]); refine Hold1_some ?_)
        exact bad St.empty (fun h => hI.low hy h1 h.rise)
      by_cases h2 : (n : Int) ≤ y
      · have h2' : y ≥ (n : Int) := h2
        repeat (first | (with_reducible refine Nx.go ?_) | ((with_reducible refine Ny.go ?_); (conv => arg 1; simp only [ev, sop, bounds, loI, hiI, fillParts, binSV, intBin, unSV, simprocAttr, ev2, ev4, g3, g8, g49, g51, hj, hcy, h1, h2', c0, hbs, recheck, wantedS, SV.same_self, Bool.and_self]); (first | (with_reducible refine Nz.go ?_) | refine Hold_some ?_)))
        (refine Hold1_of ?_; (conv => arg 1; simp only [ev, sop, bounds, loI, hiI, fillParts, binSV, intBin, unSV, simprocAttr, ev2, ev4, resultsSV, resMany, resOne]); refine Hold1_some ?_)
        exact bad St.empty (fun h => hI.high hy h2 h.rise)
      have h2' : ¬ y ≥ (n : Int) := h2
      repeat (first | (with_reducible refine Nx.go ?_) | ((with_reducible refine Ny.go ?_); (conv => arg 1; simp only [ev, sop, bounds, loI, hiI, fillParts, binSV, intBin, unSV, simprocAttr, ev2, ev4, g3, g8, g49, g51, hj, hcy, h1, h2', c0, hbs, recheck, wantedS, SV.same_self, Bool.and_self]); (first | (with_reducible refine Nz.go ?_) | refine Hold_some ?_)))
      exact ⟨by simp only [ev, sop, bounds, loI, hiI, fillParts, binSV, intBin, unSV, simprocAttr, ev2, ev4, g50], by simp only [ev, sop, bounds, loI, hiI, fillParts, binSV, intBin, unSV, simprocAttr, ev2, ev4, g51], fun v w => ⟨by simp only [ev, sop, bounds, loI, hiI, fillParts, binSV, intBin, unSV, simprocAttr, ev2, ev4, g3], by simp only [ev, sop, bounds, loI, hiI, fillParts, binSV, intBin, unSV, simprocAttr, ev2, ev4, g49]; exact (ints_of_lt hj).symm, c0, y, by simp only [ev, sop, bounds, loI, hiI, fillParts, binSV, intBin, unSV, simprocAttr, ev2, ev4], by rw [htk]; exact hI.add (by omega) (by omega)⟩⟩
    · rintro t σ ⟨g3, g49, c0, last, g8, hI⟩
      rw [List.take_length] at hI
      repeat (first | (with_reducible refine Nx.go ?_) | ((with_reducible refine Ny.go ?_); (conv => arg 1; simp only [ev, sop, bounds, loI, hiI, fillParts, binSV, intBin, unSV, simprocAttr, ev2, ev4, recheck, wantedS, SV.same_self, Bool.and_self]); (first | (with_reducible refine Nz.go ?_) | refine Hold_some ?_)))
      (refine Hold1_of ?_; (conv => arg 1; simp only [ev, sop, bounds, loI, hiI, fillParts, binSV, intBin, unSV, simprocAttr, ev2, ev4, resultsSV, resMany, resOne]); refine Hold1_some ?_)
      exact good St.empty hI
end Go.Proofs.Ytojjhcgbbmknmaa.Sh

/- Rows without doubles beside each other. -/
namespace Go.Proofs.Ytojjhcgbbmknmaa.Sh
set_option linter.unusedSimpArgs false
set_option linter.unusedVariables false
open Go Go.Proofs

/-- The first numbers of a row, each just where it is not the one ahead of it. -/
def compactK (L : List Int) : Nat → List Int
  | 0 => []
  | i + 1 => compactK L i ++ (if 0 < i ∧ L[i]? = L[i - 1]? then [] else L[i]?.toList)
theorem compactK_same {L : List Int} {k : Nat} {y : Int} (h0 : 0 < k) (h1 : L[k]? = some y) (h2 : L[k - 1]? = some y) : compactK L (k + 1) = compactK L k := by
  rw [compactK, if_pos ⟨h0, by rw [h1, h2]⟩, List.append_nil]
theorem compactK_new {L : List Int} {k : Nat} {y z : Int} (h1 : L[k]? = some y) (h2 : L[k - 1]? = some z) (h : y ≠ z) : compactK L (k + 1) = compactK L k ++ [y] := by
  rw [compactK, if_neg (by rw [h1, h2]; simp [h]), h1]; rfl
theorem compactK_one {L : List Int} {y : Int} (h1 : L[0]? = some y) : compactK L 1 = [y] := by
  show compactK L 0 ++ _ = _
  rw [if_neg (by simp), h1]; rfl
theorem compactK_len (L : List Int) : ∀ k, (compactK L k).length ≤ k
  | 0 => by simp [compactK]
  | k + 1 => by
    have := compactK_len L k
    rw [compactK, List.length_append]
    split
    · simp; omega
    · cases L[k]? <;> simp <;> omega
theorem compactK_mem {L : List Int} : ∀ {k : Nat}, k ≤ L.length → ∀ x, x ∈ compactK L k ↔ x ∈ L.take k
  | 0, _, x => by simp [compactK]
  | k + 1, h, x => by
    have ih := compactK_mem (L := L) (k := k) (by omega) x
    obtain ⟨y, hy⟩ := get_of_lt (show k < L.length by omega)
    rw [List.take_add_one, hy, compactK]
    simp only [List.mem_append, ih, Option.toList_some, List.mem_singleton]
    split
    · rename_i h1
      have hk : L[k - 1]? = some y := by rw [← h1.2, hy]
      have : y ∈ L.take k := by
        refine List.mem_iff_getElem?.2 ⟨k - 1, ?_⟩
        rw [List.getElem?_take, if_pos (by omega)]; exact hk
      constructor
      · rintro (h2 | h2)
        · exact .inl h2
        · simp at h2
      · rintro (h2 | rfl)
        · exact .inl h2
        · exact .inl this
    · simp [hy]
/-- Of a row that never falls the rest rises. -/
theorem compactK_rises {L : List Int} (hs : L.Pairwise (· ≤ ·)) : ∀ {k : Nat}, k ≤ L.length → (compactK L k).Pairwise (· < ·)
  | 0, _ => by simp [compactK]
  | k + 1, h => by
    have ih := compactK_rises hs (k := k) (by omega)
    obtain ⟨y, hy⟩ := get_of_lt (show k < L.length by omega)
    rw [compactK, hy]
    split
    · simpa using ih
    · rename_i h1
      rw [List.pairwise_append]
      refine ⟨ih, by simp, fun a ha b hb => ?_⟩
      simp at hb; subst hb
      rw [compactK_mem (by omega)] at ha
      obtain ⟨j, hj⟩ := List.mem_iff_getElem?.1 ha
      rw [List.getElem?_take] at hj
      split at hj
      · rename_i hjk
        have hk0 : 0 < k := by omega
        obtain ⟨z, hz⟩ := get_of_lt (show k - 1 < L.length by omega)
        have hne : b ≠ z := fun e => h1 ⟨hk0, by rw [hz, e]⟩
        have le : ∀ {i j : Nat} {a b : Int}, i < j → L[i]? = some a → L[j]? = some b → a ≤ b := by
          intro i j a b hij hi hj
          obtain ⟨g1, g2⟩ := List.getElem?_eq_some_iff.1 hi
          obtain ⟨g3, g4⟩ := List.getElem?_eq_some_iff.1 hj
          have := List.pairwise_iff_getElem.1 hs i j g1 g3 hij
          rw [g2, g4] at this; exact this
        have h2 : z ≤ b := le (by omega) hz hy
        have h3 : a ≤ z := by
          by_cases e : j = k - 1
          · subst e; rw [hz] at hj; cases hj; omega
          · exact le (by omega) hj hz
        omega
      · cases hj

set_option maxHeartbeats 8000000 in
theorem c_compact {m id : Nat} {L : List Int} {σ : St} (hl : L.length ≤ 2 ^ 40) (hc : cellsOf σ id = some (L.map SV.int)) :
    WPF (EV m) 49 [.sl id 0 L.length 1] σ (fun v σ' => frz σ' 20 v = some (intsV (some (compactK L L.length)))) := by
  refine inline_fn rfl rfl rfl rfl ?_
  have hrow : frz σ 20 (.sl id 0 L.length 1) = some (intsV (some L)) := frz_sl hc (cut_whole (by simp)) (pures_ints L)
  by_cases hn : L.length < 2
  · have hn' : (L.length : Int) < 2 := by omega
    repeat (first | (with_reducible refine Nx.go ?_) | ((with_reducible refine Ny.go ?_); (conv => arg 1; simp only [ev, sop, bounds, loI, hiI, fillParts, binSV, intBin, unSV, simprocAttr, ev2, ev4, hn', recheck, wantedS, SV.same_self, Bool.and_self]); (first | (with_reducible refine Nz.go ?_) | refine Hold_some ?_)))
    (refine Hold1_of ?_; (conv => arg 1; simp only [ev, sop, bounds, loI, hiI, fillParts, binSV, intBin, unSV, simprocAttr, ev2, ev4, resultsSV, resMany, resOne]); refine Hold1_some ?_)
    rw [hrow]
    match L, hn with
    | [], _ => rfl
    | [y], _ => rfl
  have hn' : ¬ (L.length : Int) < 2 := by omega
  repeat (first | (with_reducible refine Nx.go ?_) | ((with_reducible refine Ny.go ?_); (conv => arg 1; simp only [ev, sop, bounds, loI, hiI, fillParts, binSV, intBin, unSV, simprocAttr, ev2, ev4, hn', recheck, wantedS, SV.same_self, Bool.and_self]); (first | (with_reducible refine Nz.go ?_) | refine Hold_some ?_)))
  refine WP_blockloop (fun q t σ' => ∃ k : Nat, q = L.length - k ∧ 1 ≤ k ∧ k ≤ L.length ∧ getT t 0 = .sl id 0 L.length 1 ∧ getT t 3 = .sc (.int .i64 k) ∧ σ' = σ ∧ compactK L k = L.take k) (k0 := L.length - 1)
    ⟨1, rfl, by omega, by omega, by simp only [ev, sop, bounds, loI, hiI, fillParts, binSV, intBin, unSV, simprocAttr, ev2, ev4], by simp only [ev, sop, bounds, loI, hiI, fillParts, binSV, intBin, unSV, simprocAttr, ev2, ev4], rfl, ?_⟩ ?_
  · obtain ⟨y, hy⟩ := get_of_lt (show 0 < L.length by omega)
    rw [compactK_one hy, List.take_add_one, hy]; rfl
  rintro q t σ' ⟨k, rfl, hk1, hkn, g0, g3, rfl, hI⟩
  by_cases hlt : k < L.length
  rotate_left
  · have hlt' : ¬ (k : Int) < (L.length : Int) := by omega
    have : k = L.length := by omega
    subst this
    repeat (first | (with_reducible refine Nx.go ?_) | ((with_reducible refine Ny.go ?_); (conv => arg 1; simp only [ev, sop, bounds, loI, hiI, fillParts, binSV, intBin, unSV, simprocAttr, ev2, ev4, g0, g3, hlt', recheck, wantedS, SV.same_self, Bool.and_self]); (first | (with_reducible refine Nz.go ?_) | refine Hold_some ?_)))
    (refine Hold1_of ?_; (conv => arg 1; simp only [ev, sop, bounds, loI, hiI, fillParts, binSV, intBin, unSV, simprocAttr, ev2, ev4, g0, resultsSV, resMany, resOne]); refine Hold1_some ?_)
    rw [hrow, hI, List.take_length]
  have hlt' : (k : Int) < (L.length : Int) := by omega
  have hk0 : 0 ≤ (k : Int) := by omega
  have hwk : IntKind.i64.wrap ((k : Int) - 1) = ((k - 1 : Nat) : Int) := by rw [i64_in _ (by omega) (by omega)]; omega
  have hwk1 : IntKind.i64.wrap ((k : Int) + 1) = ((k + 1 : Nat) : Int) := by rw [i64_in _ (by omega) (by omega)]; rfl
  have hk2 : 0 ≤ ((k - 1 : Nat) : Int) := by omega
  have hk3 : ((k - 1 : Nat) : Int) < (L.length : Int) := by omega
  have hk4 : k - 1 < L.length := by omega
  obtain ⟨y, hy⟩ := get_of_lt hlt
  obtain ⟨z, hz⟩ := get_of_lt hk4
  have hcy := cut_intsN hy
  have hcz := cut_intsN hz
  by_cases e : y = z
  rotate_left
  · have e' : (y == z) = false := by simpa using e
    repeat (first | (with_reducible refine Nx.go ?_) | ((with_reducible refine Ny.go ?_); (conv => arg 1; simp only [ev, sop, bounds, loI, hiI, fillParts, binSV, intBin, unSV, simprocAttr, ev2, ev4, g0, g3, hlt', hlt, hk0, hwk, hwk1, hk2, hk3, hk4, hc, hcy, hcz, e', recheck, wantedS, SV.same_self, Bool.and_self]); (first | (with_reducible refine Nz.go ?_) | refine Hold_some ?_)))
    exact ⟨L.length - (k + 1), by omega, k + 1, rfl, by omega, by omega, by simp only [ev, sop, bounds, loI, hiI, fillParts, binSV, intBin, unSV, simprocAttr, ev2, ev4, g0], by simp only [ev, sop, bounds, loI, hiI, fillParts, binSV, intBin, unSV, simprocAttr, ev2, ev4], rfl, by rw [compactK_new hy hz e, hI, List.take_add_one, hy]; rfl⟩
  have e' : (y == z) = true := by simpa using e
  subst e
  have hkl : (k : Int) ≤ (L.length : Int) := by omega
  repeat (first | (with_reducible refine Nx.go ?_) | ((with_reducible refine Ny.go ?_); (conv => arg 1; simp only [ev, sop, bounds, loI, hiI, fillParts, binSV, intBin, unSV, simprocAttr, ev2, ev4, g0, g3, hlt', hlt, hk0, hkl, hwk, hwk1, hk2, hk3, hk4, hc, hcy, hcz, e', recheck, wantedS, SV.same_self, Bool.and_self]); (first | (with_reducible refine Nz.go ?_) | refine Hold_some ?_)))
  have hkk : compactK L (k + 1) = L.take k := by rw [compactK_same (by omega) hy hz, hI]
  refine WP_blockloop (fun q t σ' => ∃ (d r : Nat) (L' : List Int), q = L.length - k - r ∧ 1 ≤ r ∧ k + r ≤ L.length ∧ d ≤ k + r - 1 ∧ k ≤ d ∧ getT t 0 = .sl id 0 L.length 1 ∧ getT t 3 = .sc (.int .i64 d) ∧ getT t 4 = .sl id k (L.length - k) 1 ∧ getT t 5 = .sc (.int .i64 r) ∧
      cellsOf σ' id = some (L'.map SV.int) ∧ L'.length = L.length ∧ L'.take d = compactK L (k + r) ∧ ∀ j, k + r - 1 ≤ j → L'[j]? = L[j]?) (k0 := L.length - k - 1)
    ⟨k, 1, L, rfl, by omega, by omega, by omega, by omega, by simp only [ev, sop, bounds, loI, hiI, fillParts, binSV, intBin, unSV, simprocAttr, ev2, ev4, g0], by simp only [ev, sop, bounds, loI, hiI, fillParts, binSV, intBin, unSV, simprocAttr, ev2, ev4, g3], by simp only [ev, sop, bounds, loI, hiI, fillParts, binSV, intBin, unSV, simprocAttr, ev2, ev4], by simp only [ev, sop, bounds, loI, hiI, fillParts, binSV, intBin, unSV, simprocAttr, ev2, ev4], hc, rfl, hkk.symm, fun _ _ => rfl⟩ ?_
  clear hcy hcz hy hz hI hwk hwk1 hk2 hk3 hk4 hkk
  rintro q t1 σ1 ⟨d, r, L', rfl, hr1, hrn, hd, hkd, g0, g3, g4, g5, hc1, hl1, hI, hsame⟩
  have hr0 : 0 ≤ (r : Int) := by omega
  by_cases hrlt : r < L.length - k
  rotate_left
  · have hrlt' : ¬ (r : Int) < ((L.length - k : Nat) : Int) := by omega
    have hrk : k + r = L.length := by omega
    have hd0 : 0 ≤ (d : Int) := by omega
    have hdl : (d : Int) ≤ (L.length : Int) := by omega
    have hfit : d + (L.length - d) ≤ L'.length := by omega
    rw [hrk] at hI
    have hdlen : (compactK L L.length).length = d := by rw [← hI, List.length_take]; omega
    have hz : frz (σ1.set id (.cells (paste (L'.map SV.int) d (List.replicate (L.length - d) [SV.sc (.int .i64 0)]).flatten))) 20 (.sl id 0 d 1) = some (intsV (some (compactK L L.length))) := by
      have h1 : cut (paste (L'.map SV.int) d (List.replicate (L.length - d) [SV.sc (.int .i64 0)]).flatten) 0 d = some ((compactK L L.length).map SV.int) := by
        rw [paste_def, cut_eq' (by simp; omega), List.drop_zero, List.append_assoc, List.take_append_of_le_length (by simp; omega), List.take_take, Nat.min_self, ← List.map_take, hI]
      have := frz_sl (σ := σ1.set id (.cells (paste (L'.map SV.int) d (List.replicate (L.length - d) [SV.sc (.int .i64 0)]).flatten))) (id := id) (off := 0) (n := d) (sz := 1) (by simp (disch := first | omega | (simp only [nx_push, nx_set]; done) | (simp only [nx_push, nx_set]; omega)) only [cells_push_ne, cells_push_eq, cells_set_ne, cells_set_eq]; rfl) (by rw [Nat.mul_one]; exact h1) (pures_ints _)
      rw [this]
      show _ = some (SV.lst _ _ _)
      rw [hdlen]
    repeat (first | (with_reducible refine Nx.go ?_) | ((with_reducible refine Ny.go ?_); (conv => arg 1; simp only [ev, sop, bounds, loI, hiI, fillParts, binSV, intBin, unSV, simprocAttr, ev2, ev4, g0, g3, g4, g5, hrlt', hd0, hdl, hc1, List.length_map, hfit, recheck, wantedS, SV.same_self, Bool.and_self]); (first | (with_reducible refine Nz.go ?_) | refine Hold_some ?_)))
    (refine Hold1_of ?_; (conv => arg 1; simp only [ev, sop, bounds, loI, hiI, fillParts, binSV, intBin, unSV, simprocAttr, ev2, ev4, resultsSV, resMany, resOne]); refine Hold1_some ?_)
    exact hz
  have hrlt' : (r : Int) < ((L.length - k : Nat) : Int) := by omega
  have hwr : IntKind.i64.wrap ((r : Int) - 1) = ((r - 1 : Nat) : Int) := by rw [i64_in _ (by omega) (by omega)]; omega
  have hwr1 : IntKind.i64.wrap ((r : Int) + 1) = ((r + 1 : Nat) : Int) := by rw [i64_in _ (by omega) (by omega)]; rfl
  have hwd1 : IntKind.i64.wrap ((d : Int) + 1) = ((d + 1 : Nat) : Int) := by rw [i64_in _ (by omega) (by omega)]; rfl
  have hr2 : 0 ≤ ((r - 1 : Nat) : Int) := by omega
  have hr3 : ((r - 1 : Nat) : Int) < ((L.length - k : Nat) : Int) := by omega
  have hr4 : r - 1 < L.length - k := by omega
  obtain ⟨y, hy⟩ := get_of_lt (show k + r < L.length by omega)
  obtain ⟨z, hz⟩ := get_of_lt (show k + (r - 1) < L.length by omega)
  have hy' : L'[k + r]? = some y := by rw [hsame _ (by omega)]; exact hy
  have hz' : L'[k + (r - 1)]? = some z := by rw [hsame _ (by omega)]; exact hz
  have hz2 : L[k + r - 1]? = some z := by rw [show k + r - 1 = k + (r - 1) by omega]; exact hz
  have hcy := cut_intsN hy'
  have hcz := cut_intsN hz'
  by_cases e : y = z
  · subst e
    have e' : (y != y) = false := by simp
    repeat (first | (with_reducible refine Nx.go ?_) | ((with_reducible refine Ny.go ?_); (conv => arg 1; simp only [ev, sop, bounds, loI, hiI, fillParts, binSV, intBin, unSV, simprocAttr, ev2, ev4, g0, g3, g4, g5, hrlt', hrlt, hr0, hwr, hwr1, hr2, hr3, hr4, hc1, hcy, hcz, e', recheck, wantedS, SV.same_self, Bool.and_self]); (first | (with_reducible refine Nz.go ?_) | refine Hold_some ?_)))
    refine ⟨L.length - k - (r + 1), by omega, d, r + 1, L', rfl, by omega, by omega, by omega, by omega, by simp only [ev, sop, bounds, loI, hiI, fillParts, binSV, intBin, unSV, simprocAttr, ev2, ev4, g0], by simp only [ev, sop, bounds, loI, hiI, fillParts, binSV, intBin, unSV, simprocAttr, ev2, ev4, g3], by simp only [ev, sop, bounds, loI, hiI, fillParts, binSV, intBin, unSV, simprocAttr, ev2, ev4, g4], by simp only [ev, sop, bounds, loI, hiI, fillParts, binSV, intBin, unSV, simprocAttr, ev2, ev4], hc1, hl1, ?_, fun j hj => hsame j (by omega)⟩
    rw [hI, show k + (r + 1) = k + r + 1 by omega, compactK_same (by omega) hy hz2]
  · have e' : (y != z) = true := by simpa using e
    have hd0 : 0 ≤ (d : Int) := by omega
    have hdl : (d : Int) < (L.length : Int) := by omega
    have hdl2 : d < L.length := by omega
    have hdL : d < L'.length := by omega
    have hdm : d + 1 ≤ (L'.map SV.int).length := by rw [List.length_map]; omega
    have hpp := paste_ints y hdL
    repeat (first | (with_reducible refine Nx.go ?_) | ((with_reducible refine Ny.go ?_); (conv => arg 1; simp only [ev, sop, bounds, loI, hiI, fillParts, binSV, intBin, unSV, simprocAttr, ev2, ev4, g0, g3, g4, g5, hrlt', hrlt, hr0, hwr, hwr1, hwd1, hr2, hr3, hr4, hc1, hcy, hcz, e', hd0, hdl, hdl2, hdm, hpp, recheck, wantedS, SV.same_self, Bool.and_self]); (first | (with_reducible refine Nz.go ?_) | refine Hold_some ?_)))
    refine ⟨L.length - k - (r + 1), by omega, d + 1, r + 1, L'.set d y, rfl, by omega, by omega, by omega, by omega, by simp only [ev, sop, bounds, loI, hiI, fillParts, binSV, intBin, unSV, simprocAttr, ev2, ev4, g0], by simp only [ev, sop, bounds, loI, hiI, fillParts, binSV, intBin, unSV, simprocAttr, ev2, ev4], by simp only [ev, sop, bounds, loI, hiI, fillParts, binSV, intBin, unSV, simprocAttr, ev2, ev4, g4], by simp only [ev, sop, bounds, loI, hiI, fillParts, binSV, intBin, unSV, simprocAttr, ev2, ev4], by simp (disch := first | omega | (simp only [nx_push, nx_set]; done) | (simp only [nx_push, nx_set]; omega)) only [cells_push_ne, cells_push_eq, cells_set_ne, cells_set_eq], by simp [hl1], ?_, fun j hj => ?_⟩
    · rw [show k + (r + 1) = k + r + 1 by omega, compactK_new hy hz2 e, ← hI, List.take_add_one, List.getElem?_set_self hdL, List.take_set_of_le (Nat.le_refl d)]
      rfl
    · rw [List.getElem?_set_ne (by omega)]
      exact hsame j (by omega)
end Go.Proofs.Ytojjhcgbbmknmaa.Sh

/- All blocks of a tile. -/
namespace Go.Proofs.Ytojjhcgbbmknmaa.Sh
set_option linter.unusedSimpArgs false
set_option linter.unusedVariables false
open Go Go.Proofs

/-- A row of numbers, as a value: nil, or one that lies in a block of its own. -/
def RowV (σ : St) (v : SV) (lo : Nat) (L : List Int) : Prop := (v = .sc .nilsl ∧ L = []) ∨ ∃ id, v = .sl id 0 L.length 1 ∧ lo ≤ id ∧ id < σ.next ∧ cellsOf σ id = some (L.map SV.int)
theorem RowV.keeps {σ σ' : St} {v : SV} {lo : Nat} {L : List Int} (h : RowV σ v lo L) (k : Keeps σ σ') : RowV σ' v lo L := by
  rcases h with h | ⟨id, h1, h2, h3, h4⟩
  · exact .inl h
  · exact .inr ⟨id, h1, h2, Nat.lt_of_lt_of_le h3 k.1, by rw [k.cells h3]; exact h4⟩
theorem RowV.set {σ : St} {v : SV} {lo j : Nat} {o : Ob} {L : List Int} (h : RowV σ v lo L) (hj : j < lo) : RowV (σ.set j o) v lo L := by
  rcases h with h | ⟨id, h1, h2, h3, h4⟩
  · exact .inl h
  · exact .inr ⟨id, h1, h2, h3, by rw [cells_set_ne (by omega)]; exact h4⟩
theorem RowV.less {σ : St} {v : SV} {lo lo' : Nat} {L : List Int} (h : RowV σ v lo L) (hl : lo' ≤ lo) : RowV σ v lo' L := by
  rcases h with h | ⟨id, h1, h2, h3, h4⟩
  · exact .inl h
  · exact .inr ⟨id, h1, by omega, h3, h4⟩

theorem c_cloneV {m : Nat} {o : Option (List Int)} {σ : St} (hl : (ol o).length ≤ 2 ^ 36) : WPF (EV m) 47 [intsV o] σ (fun v σ' => Keeps σ σ' ∧ RowV σ' v σ.next (ol o)) := by
  cases o with
  | none =>
    refine inline_fn rfl rfl rfl rfl ?_
    rw [show intsV none = .sc .nilsl from rfl]
    have h : binSV 3 1 .eql (.sc .nilsl) (.sc .nilsl) = some (.sc (.bool true)) := rfl
    repeat (first | (with_reducible refine Nx.go ?_) | ((with_reducible refine Ny.go ?_); (conv => arg 1; simp only [ev, sop, bounds, loI, hiI, fillParts, binSV, intBin, unSV, simprocAttr, ev2, ev4, h, recheck, wantedS, SV.same_self, Bool.and_self]); (first | (with_reducible refine Nz.go ?_) | refine Hold_some ?_)))
    (refine Hold1_of ?_; (conv => arg 1; simp only [ev, sop, bounds, loI, hiI, fillParts, binSV, intBin, unSV, simprocAttr, ev2, ev4, resultsSV, resMany, resOne]); refine Hold1_some ?_)
    exact ⟨Keeps.refl _, .inl ⟨rfl, rfl⟩⟩
  | some l =>
    refine (c_clone (v := intsV (some l)) (cs := l.map SV.int) (n := l.length) rfl rfl (by simp) hl (by simp [intsV])).mono ?_
    rintro v σ' ⟨rfl, rfl⟩
    refine ⟨(((Keeps.refl σ).push _).set _ (Nat.le_refl _)).push _, .inr ⟨σ.next + 1, rfl, by omega, by simp [next_push, next_set], ?_⟩⟩
    simp (disch := first | omega | (simp only [nx_push, nx_set]; done) | (simp only [nx_push, nx_set]; omega)) only [cells_push_ne, cells_push_eq, cells_set_ne, cells_set_eq]
    rfl

theorem sortInts_len (L : List Int) : (sortInts L).length = L.length := by simp [sortInts]
theorem sortInts_nil : sortInts [] = [] := by simp [sortInts]
theorem sortInts_mem {L : List Int} {x : Int} : x ∈ sortInts L ↔ x ∈ L := by simp [sortInts]
theorem sortInts_le (L : List Int) : (sortInts L).Pairwise (· ≤ ·) := by
  have := List.pairwise_mergeSort (le := fun x y : Int => decide (x ≤ y)) (fun a b c h1 h2 => by simp at h1 h2 ⊢; omega) (fun a b => by simp; omega) L
  exact this.imp (fun h => by simpa using h)
theorem c_sort {m lo : Nat} {v : SV} {L : List Int} {σ : St} (hm : 0 < m) (h : RowV σ v lo L) (hl : L.length ≤ 2 ^ 40) :
    WPF (EV m) 48 [v] σ (fun u σ' => u = .tup [] ∧ RowV σ' v lo (sortInts L)) := by
  have he : (EV m).ext 48 = some sortG := envAt_base (f := 48) rfl hm
  rcases h with ⟨rfl, rfl⟩ | ⟨id, rfl, h2, h3, h4⟩
  · exact WPF_ext he (v := .tup []) (σ' := σ) rfl ⟨rfl, .inl ⟨rfl, sortInts_nil⟩⟩
  · by_cases h0 : L.length = 0
    · have hL : L = [] := List.length_eq_zero_iff.1 h0
      subst hL
      refine WPF_ext he (v := .tup []) (σ' := σ) ?_ ⟨rfl, .inr ⟨id, ?_, h2, h3, ?_⟩⟩
      · unfold sortG
        simp
      · rw [sortInts_nil]
      · rw [sortInts_nil]; exact h4
    · refine WPF_ext he (v := .tup []) (σ' := σ.set id (.cells ((sortInts L).map SV.int))) ?_ ⟨rfl, .inr ⟨id, by rw [sortInts_len], h2, h3, by simp (disch := first | omega | (simp only [nx_push, nx_set]; done) | (simp only [nx_push, nx_set]; omega)) only [cells_push_ne, cells_push_eq, cells_set_ne, cells_set_eq]⟩⟩
      unfold sortG
      have hc : cut (L.map SV.int) 0 L.length = some (L.map SV.int) := cut_whole (by simp)
      simp only [h0, if_false, h4, Option.bind_some, hc, intsOf_map, Option.map_some]
      rw [if_pos ⟨trivial, by omega⟩, paste_whole (by simp [sortInts_len])]

theorem c_compactV {m lo : Nat} {v : SV} {L : List Int} {σ : St} (h : RowV σ v lo L) (hl : L.length ≤ 2 ^ 40) :
    WPF (EV m) 49 [v] σ (fun v σ' => ∃ r, frz σ' 20 v = some (intsV r) ∧ ol r = compactK L L.length) := by
  rcases h with ⟨rfl, rfl⟩ | ⟨id, rfl, h2, h3, h4⟩
  · refine inline_fn rfl rfl rfl rfl ?_
    repeat (first | (with_reducible refine Nx.go ?_) | ((with_reducible refine Ny.go ?_); (conv => arg 1; simp only [ev, sop, bounds, loI, hiI, fillParts, binSV, intBin, unSV, simprocAttr, ev2, ev4, recheck, wantedS, SV.same_self, Bool.and_self]); (first | (with_reducible refine Nz.go ?_) | refine Hold_some ?_)))
    (refine Hold1_of ?_; (conv => arg 1; simp only [ev, sop, bounds, loI, hiI, fillParts, binSV, intBin, unSV, simprocAttr, ev2, ev4, resultsSV, resMany, resOne]); refine Hold1_some ?_)
    exact ⟨none, frz_of_pure rfl, rfl⟩
  · exact (c_compact hl h4).mono fun v σ' h => ⟨_, h, rfl⟩

/-! ### Tiles below a tile -/
def belowK (l : List TileD) (k : Nat) : Nat → List Nat
  | 0 => [k]
  | m + 1 => belowK l k m ++ (match l[m]? with
    | some t => if 0 ≤ t.parent ∧ t.parent.toNat ∈ belowK l k m then [m] else []
    | none => [])
def rawK (l : List TileD) (k : Nat) : Nat → List Int
  | 0 => match l[k]? with
    | some t => ol t.blocks
    | none => []
  | m + 1 => rawK l k m ++ (match l[m]? with
    | some t => if 0 ≤ t.parent ∧ t.parent.toNat ∈ belowK l k m then ol t.blocks else []
    | none => [])
def allL (l : List TileD) (k : Nat) : List Int := compactK (sortInts (rawK l k l.length)) (rawK l k l.length).length
theorem rawK_len (l : List TileD) (k : Nat) : ∀ m, (rawK l k m).length ≤ (blocksOf l).length + (blocksOf (l.take m)).length
  | 0 => by
    rw [rawK]
    cases h : l[k]? with
    | none => simp
    | some t =>
      have h1 := (List.getElem?_eq_some_iff.1 h)
      have : (blocksOf (l.take (k + 1))).length ≤ (blocksOf l).length := by
        conv => rhs; rw [← List.take_append_drop (k + 1) l]
        unfold blocksOf
        rw [List.flatMap_append, List.length_append]; omega
      rw [blocksOf_take h, List.length_append] at this
      simp only; omega
  | m + 1 => by
    have ih := rawK_len l k m
    rw [rawK, List.length_append]
    cases h : l[m]? with
    | none =>
      have : l.take (m + 1) = l.take m := by
        rw [List.getElem?_eq_none_iff] at h
        rw [List.take_of_length_le h, List.take_of_length_le (by omega)]
      rw [this]; simpa using ih
    | some t =>
      rw [blocksOf_take h, List.length_append]
      simp only
      split <;> simp <;> omega
def bm (B : List Nat) : List (SV × SV) := B.map fun b : Nat => (.sc (.int .i64 (b : Int)), .sc (.int .i64 1))
theorem bm_keys (B : List Nat) : allKeys .i64 (bm B) = true := by simp [allKeys, bm]
theorem bm_find (a : Nat) : ∀ B : List Nat, findKey (.sc (.int .i64 (a : Int))) (bm B) = if a ∈ B then some (.sc (.int .i64 1)) else none
  | [] => rfl
  | b :: B => by
    show (if (a : Int) = (b : Int) then _ else findKey (.sc (.int .i64 (a : Int))) (bm B)) = _
    rw [bm_find a B]
    by_cases e : a = b
    · subst e; simp
    · have : ¬ (a : Int) = (b : Int) := by omega
      simp [e, this]
theorem bm_set (a : Nat) : ∀ B : List Nat, a ∉ B → setKey (.sc (.int .i64 (a : Int))) (.sc (.int .i64 1)) (bm B) = bm (B ++ [a])
  | [], _ => rfl
  | b :: B, h => by
    have h1 : ¬ (a : Int) = (b : Int) := by simp at h; omega
    show (if (a : Int) = (b : Int) then _ else _ :: setKey (.sc (.int .i64 (a : Int))) (.sc (.int .i64 1)) (bm B)) = _
    rw [if_neg h1, bm_set a B (by simp at h; exact h.2)]
    rfl
/-- Tiles below one come behind it. -/
theorem belowK_range {l : List TileD} (hp : parentsOk l) {k : Nat} (hk : k < l.length) : ∀ m, m ≤ l.length → ∀ b ∈ belowK l k m, b = k ∨ (k < b ∧ b < m)
  | 0, _, b, h => by simp [belowK] at h; exact .inl h
  | m + 1, hm, b, h => by
    have ih := belowK_range hp hk m (by omega)
    rw [belowK, List.mem_append] at h
    rcases h with h | h
    · rcases ih b h with h | h
      · exact .inl h
      · exact .inr ⟨h.1, by omega⟩
    · obtain ⟨t, ht⟩ := get_of_lt (show m < l.length by omega)
      rw [ht] at h
      simp only at h
      split at h
      · rename_i hc
        simp at h; subst h
        have h1 := hp b t ht
        rcases ih _ hc.2 with h2 | h2 <;> exact .inr ⟨by omega, by omega⟩
      · simp at h

set_option maxHeartbeats 8000000 in
theorem t_tAll (o : Option (List TileD)) (k : Int) (hl : tilesWithin (2 ^ 30) (ol o)) (htot : (blocksOf (ol o)).length ≤ 2 ^ 34) :
    ∃ r, Tells 22 [tilesV o, .sc (.int .i64 k)] (intsV r) ∧ (∀ j : Nat, k = (j : Int) → j < (ol o).length → parentsOk (ol o) → ol r = allL (ol o) j) ∧ ((k < 0 ∨ ((ol o).length : Int) ≤ k ∨ ¬ parentsOk (ol o)) → ol r = []) := by
  suffices h : WPF (EV 9) 22 [tilesV o, .sc (.int .i64 k)] St.empty (fun v σ => ∃ r, frz σ 20 v = some (intsV r) ∧ (∀ j : Nat, k = (j : Int) → j < (ol o).length → parentsOk (ol o) → ol r = allL (ol o) j) ∧ ((k < 0 ∨ ((ol o).length : Int) ≤ k ∨ ¬ parentsOk (ol o)) → ol r = [])) by
    obtain ⟨q, v, σ, h1, r, h2, h3⟩ := h
    exact ⟨r, ⟨_, rfl, q, v, σ, h1, h2⟩, h3⟩
  refine told_fn rfl rfl rfl rfl ?_
  have hlen : lenSV (tilesV o) = some (ol o).length := lenSV_rec o
  have hll := hl.1
  have hpar := t_parents o (by omega)
  by_cases h0 : k < 0
  · repeat (first | (with_reducible refine Nx.go ?_) | ((with_reducible refine Ny.go ?_); (conv => arg 1; simp only [ev, sop, bounds, loI, hiI, fillParts, binSV, intBin, unSV, simprocAttr, ev2, ev4, h0, recheck, wantedS, SV.same_self, Bool.and_self]); (first | (with_reducible refine Nz.go ?_) | refine Hold_some ?_)))
    (refine Hold1_of ?_; (conv => arg 1; simp only [ev, sop, bounds, loI, hiI, fillParts, binSV, intBin, unSV, simprocAttr, ev2, ev4, resultsSV, resMany, resOne]); refine Hold1_some ?_)
    exact ⟨none, frz_of_pure rfl, fun j hj => by omega, fun _ => rfl⟩
  by_cases h1 : ((ol o).length : Int) ≤ k
  · have h1' : k ≥ ((ol o).length : Int) := h1
    repeat (first | (with_reducible refine Nx.go ?_) | ((with_reducible refine Ny.go ?_); (conv => arg 1; simp only [ev, sop, bounds, loI, hiI, fillParts, binSV, intBin, unSV, simprocAttr, ev2, ev4, h0, hlen, h1', recheck, wantedS, SV.same_self, Bool.and_self]); (first | (with_reducible refine Nz.go ?_) | refine Hold_some ?_)))
    (refine Hold1_of ?_; (conv => arg 1; simp only [ev, sop, bounds, loI, hiI, fillParts, binSV, intBin, unSV, simprocAttr, ev2, ev4, resultsSV, resMany, resOne]); refine Hold1_some ?_)
    exact ⟨none, frz_of_pure rfl, fun j hj => by omega, fun _ => rfl⟩
  have h1' : ¬ k ≥ ((ol o).length : Int) := h1
  by_cases hp : parentsOk (ol o)
  rotate_left
  · have hB := parentsB_false hp
    repeat (first | (with_reducible refine Nx.go ?_) | ((with_reducible refine Ny.go ?_); (conv => arg 1; simp only [ev, sop, bounds, loI, hiI, fillParts, binSV, intBin, unSV, simprocAttr, ev2, ev4, h0, hlen, h1', recheck, wantedS, SV.same_self, Bool.and_self]); (first | (with_reducible refine Nz.go ?_) | refine Hold_some ?_)))
    refine st_tellp (hpar) ⟨_, rfl, by first | omega | decide⟩ wantedS_none (by simp only [ev, sop, bounds, loI, hiI, fillParts, binSV, intBin, unSV, simprocAttr, ev2, ev4, h0, hlen, h1'] <;> rfl) (by first | rfl | simp [pures, SV.pure, *, pure_func, pure_ints, pure_blks, pure_insV, pure_rows, pure_tiles, pure_set, pures_set]) (by first | with_reducible exact recheck_nil | (simp only [recheck, wantedS]; simp only [ev, sop, bounds, loI, hiI, fillParts, binSV, intBin, unSV, simprocAttr, ev2, ev4, h0, hlen, h1']; simp only [SV.same_self, Bool.and_self, beq_self_eq_true])) ?_
    repeat (first | (with_reducible refine Nx.go ?_) | ((with_reducible refine Ny.go ?_); (conv => arg 1; simp only [ev, sop, bounds, loI, hiI, fillParts, binSV, intBin, unSV, simprocAttr, ev2, ev4, hB, recheck, wantedS, SV.same_self, Bool.and_self]); (first | (with_reducible refine Nz.go ?_) | refine Hold_some ?_)))
    (refine Hold1_of ?_; (conv => arg 1; simp only [ev, sop, bounds, loI, hiI, fillParts, binSV, intBin, unSV, simprocAttr, ev2, ev4, resultsSV, resMany, resOne]); refine Hold1_some ?_)
    exact ⟨none, frz_of_pure rfl, fun j _ _ h => absurd h hp, fun _ => rfl⟩
  have hB := parentsB_iff.2 hp
  obtain ⟨a, rfl⟩ := Int.eq_ofNat_of_zero_le (show 0 ≤ k by omega)
  have ha : a < (ol o).length := by omega
  obtain ⟨x, hx⟩ := get_of_lt ha
  have hxl := hl.2 x (List.mem_of_getElem? hx)
  have hca : cut ((ol o).flatMap TileD.cells) (a * 3 + 2) 1 = some [intsV x.blocks] := cut_tile2 hx
  have ha0 : 0 ≤ (a : Int) := by omega
  repeat (first | (with_reducible refine Nx.go ?_) | ((with_reducible refine Ny.go ?_); (conv => arg 1; simp only [ev, sop, bounds, loI, hiI, fillParts, binSV, intBin, unSV, simprocAttr, ev2, ev4, h0, hlen, h1', recheck, wantedS, SV.same_self, Bool.and_self]); (first | (with_reducible refine Nz.go ?_) | refine Hold_some ?_)))
  refine st_tellp (hpar) ⟨_, rfl, by first | omega | decide⟩ wantedS_none (by simp only [ev, sop, bounds, loI, hiI, fillParts, binSV, intBin, unSV, simprocAttr, ev2, ev4, h0, hlen, h1'] <;> rfl) (by first | rfl | simp [pures, SV.pure, *, pure_func, pure_ints, pure_blks, pure_insV, pure_rows, pure_tiles, pure_set, pures_set]) (by first | with_reducible exact recheck_nil | (simp only [recheck, wantedS]; simp only [ev, sop, bounds, loI, hiI, fillParts, binSV, intBin, unSV, simprocAttr, ev2, ev4, h0, hlen, h1']; simp only [SV.same_self, Bool.and_self, beq_self_eq_true])) ?_
  have hlen2 : (a : Int) < ((ol o).length : Int) := by omega
  have hv := tiles_of_lt ha
  repeat (first | (with_reducible refine Nx.go ?_) | ((with_reducible refine Ny.go ?_); (conv => arg 1; simp only [ev, sop, bounds, loI, hiI, fillParts, binSV, intBin, unSV, simprocAttr, ev2, ev4, hB, St.get_push, St.get_set, bm_keys, hv, hlen2, ha, ha0, hca, recheck, wantedS, SV.same_self, Bool.and_self]); (first | (with_reducible refine Nz.go ?_) | refine Hold_some ?_)))
  refine st_callf (by first | with_reducible exact wantedS_none | (refine wantedS_some ?_; simp only [ev, sop, bounds, loI, hiI, fillParts, binSV, intBin, unSV, simprocAttr, ev2, ev4]; done)) (by simp only [ev, sop, bounds, loI, hiI, fillParts, binSV, intBin, unSV, simprocAttr, ev2, ev4] <;> rfl) (by simp only [ev, sop, bounds, loI, hiI, fillParts, binSV, intBin, unSV, simprocAttr, ev2, ev4] <;> rfl) ?_
  refine (c_cloneV (o := x.blocks) (by omega)).mono ?_
  rintro v σ1 ⟨hk, hrow⟩
  refine ⟨recheck_nil, ?_⟩
  have hM : σ1.get 0 = some (.map (bm [a])) := by rw [hk.2 0 (by simp [next_push, next_set, next_empty])]; exact get_set_eq
  have hnx : 1 ≤ σ1.next := hk.1
  replace hrow : RowV σ1 v 1 (rawK (ol o) a 0) := by
    rw [rawK, hx]
    exact hrow
  clear hk
  repeat (first | (with_reducible refine Nx.go ?_) | ((with_reducible refine Ny.go ?_); (conv => arg 1; simp only [ev, sop, bounds, loI, hiI, fillParts, binSV, intBin, unSV, simprocAttr, ev2, ev4, hlen, recheck, wantedS, SV.same_self, Bool.and_self]); (first | (with_reducible refine Nz.go ?_) | refine Hold_some ?_)))
  refine WP_range (N := (ol o).length) (fun j t σ => getT t 5 = .mp 0 ∧ getT t 31 = tilesV o ∧ 1 ≤ σ.next ∧ σ.get 0 = some (.map (bm (belowK (ol o) a j))) ∧ ∃ v, getT t 6 = v ∧ RowV σ v 1 (rawK (ol o) a j)) (by omega) (by simp only [ev, sop, bounds, loI, hiI, fillParts, binSV, intBin, unSV, simprocAttr, ev2, ev4]) (by simp only [ev, sop, bounds, loI, hiI, fillParts, binSV, intBin, unSV, simprocAttr, ev2, ev4]) (by decide)
    ⟨by simp only [ev, sop, bounds, loI, hiI, fillParts, binSV, intBin, unSV, simprocAttr, ev2, ev4], by simp only [ev, sop, bounds, loI, hiI, fillParts, binSV, intBin, unSV, simprocAttr, ev2, ev4], hnx, hM, v, by simp only [ev, sop, bounds, loI, hiI, fillParts, binSV, intBin, unSV, simprocAttr, ev2, ev4], hrow⟩ ?_ ?_
  · clear hM hnx hrow v
    rintro j t σ hj h32 h33 ⟨g5, g31, hnx, hM, v, g6, hrow⟩
    obtain ⟨y, hy⟩ := get_of_lt hj
    have hpy := hp j y hy
    rw [hv] at g31
    have hcy := cut_tile hy
    have hyl := hl.2 y (List.mem_of_getElem? hy)
    have m0 : (0 = σ.next) = False := by simp; omega
    have hbk : belowK (ol o) a (j + 1) = belowK (ol o) a j ++ (if 0 ≤ y.parent ∧ y.parent.toNat ∈ belowK (ol o) a j then [j] else []) := by rw [belowK, hy]
    have hrk : rawK (ol o) a (j + 1) = rawK (ol o) a j ++ (if 0 ≤ y.parent ∧ y.parent.toNat ∈ belowK (ol o) a j then ol y.blocks else []) := by rw [rawK, hy]
    have hkeep : ∀ cs ds, Keeps σ ((σ.push (.cells cs)).set σ.next (.cells ds)) := fun cs ds => ((Keeps.refl σ).push _).set _ (Nat.le_refl _)
    by_cases hp0 : y.parent < 0
    · have hp0' : ¬ y.parent ≥ 0 := by omega
      repeat (first | (with_reducible refine Nx.go ?_) | ((with_reducible refine Ny.go ?_); (conv => arg 1; simp only [ev, sop, bounds, loI, hiI, fillParts, binSV, intBin, unSV, simprocAttr, ev2, ev4, g5, g6, g31, h32, h33, hj, hcy, hp0', recheck, wantedS, SV.same_self, Bool.and_self]); (first | (with_reducible refine Nz.go ?_) | refine Hold_some ?_)))
      refine ⟨by simp only [ev, sop, bounds, loI, hiI, fillParts, binSV, intBin, unSV, simprocAttr, ev2, ev4, h32], by simp only [ev, sop, bounds, loI, hiI, fillParts, binSV, intBin, unSV, simprocAttr, ev2, ev4, h33], fun _ _ => ⟨by simp only [ev, sop, bounds, loI, hiI, fillParts, binSV, intBin, unSV, simprocAttr, ev2, ev4, g5], by simp only [ev, sop, bounds, loI, hiI, fillParts, binSV, intBin, unSV, simprocAttr, ev2, ev4, g31]; exact hv.symm, by simp [next_push, next_set], by simp (disch := first | omega | (simp only [nx_push, nx_set]; done) | (simp only [nx_push, nx_set]; omega)) only [get_push_ne, get_set_ne, get_set_same, hM]; rw [hbk, if_neg (by omega), List.append_nil], v, by simp only [ev, sop, bounds, loI, hiI, fillParts, binSV, intBin, unSV, simprocAttr, ev2, ev4, g6], by rw [hrk, if_neg (by omega), List.append_nil]; exact hrow.keeps (hkeep _ _)⟩⟩
    have hp0' : y.parent ≥ 0 := by omega
    obtain ⟨q, hq⟩ := Int.eq_ofNat_of_zero_le hp0'
    have hfind := bm_find q (belowK (ol o) a j)
    by_cases hin : q ∈ belowK (ol o) a j
    rotate_left
    · rw [if_neg hin] at hfind
      rw [hq] at hp0' hcy
      repeat (first | (with_reducible refine Nx.go ?_) | ((with_reducible refine Ny.go ?_); (conv => arg 1; simp only [ev, sop, bounds, loI, hiI, fillParts, binSV, intBin, unSV, simprocAttr, ev2, ev4, g5, g6, g31, h32, h33, hj, hcy, hp0', St.get_push, St.get_set, m0, hM, bm_keys, hfind, recheck, wantedS, SV.same_self, Bool.and_self]); (first | (with_reducible refine Nz.go ?_) | refine Hold_some ?_)))
      refine ⟨by simp only [ev, sop, bounds, loI, hiI, fillParts, binSV, intBin, unSV, simprocAttr, ev2, ev4, h32], by simp only [ev, sop, bounds, loI, hiI, fillParts, binSV, intBin, unSV, simprocAttr, ev2, ev4, h33], fun _ _ => ⟨by simp only [ev, sop, bounds, loI, hiI, fillParts, binSV, intBin, unSV, simprocAttr, ev2, ev4, g5], by simp only [ev, sop, bounds, loI, hiI, fillParts, binSV, intBin, unSV, simprocAttr, ev2, ev4, g31]; exact hv.symm, by simp [next_push, next_set], by simp (disch := first | omega | (simp only [nx_push, nx_set]; done) | (simp only [nx_push, nx_set]; omega)) only [get_push_ne, get_set_ne, get_set_same, hM]; rw [hbk, if_neg (by rw [hq]; simp [hin]), List.append_nil], v, by simp only [ev, sop, bounds, loI, hiI, fillParts, binSV, intBin, unSV, simprocAttr, ev2, ev4, g6], by rw [hrk, if_neg (by rw [hq]; simp [hin]), List.append_nil]; exact hrow.keeps (hkeep _ _)⟩⟩
    rw [if_pos hin] at hfind
    have hcond : 0 ≤ y.parent ∧ y.parent.toNat ∈ belowK (ol o) a j := by rw [hq]; exact ⟨by omega, by simpa using hin⟩
    have hjn : j ∉ belowK (ol o) a j := by
      intro h
      rcases belowK_range hp ha j (by omega) j h with h1 | h1
      · rcases belowK_range hp ha j (by omega) q hin with h2 | h2 <;> omega
      · omega
    have hset := bm_set j _ hjn
    rw [hq] at hp0' hcy
    rw [hbk, if_pos hcond, hrk, if_pos hcond]
    have hR := rawK_len (ol o) a j
    have hRl : (blocksOf ((ol o).take j)).length ≤ (blocksOf (ol o)).length := by
      conv => rhs; rw [← List.take_append_drop j (ol o)]
      unfold blocksOf
      rw [List.flatMap_append, List.length_append]; omega
    have hone : (1 : Int) > 0 := by omega
    have hnz : (σ.next = 0) = False := by simp; omega
    rcases hrow with ⟨rfl, hnil⟩ | ⟨id, rfl, h2, h3, h4⟩
    · rw [hnil, List.nil_append]
      by_cases hb0 : (ol y.blocks).length = 0
      · have hbl : ol y.blocks = [] := List.length_eq_zero_iff.1 hb0
        repeat (first | (with_reducible refine Nx.go ?_) | ((with_reducible refine Ny.go ?_); (conv => arg 1; simp only [ev, sop, bounds, loI, hiI, fillParts, binSV, intBin, unSV, simprocAttr, ev2, ev4, g5, g6, g31, h32, h33, hj, hcy, hp0', St.get_push, St.get_set, m0, hM, bm_keys, hfind, hset, hone, hnz, rowSV_ints, hb0, recheck, wantedS, SV.same_self, Bool.and_self]); (first | (with_reducible refine Nz.go ?_) | refine Hold_some ?_)))
        refine ⟨by simp only [ev, sop, bounds, loI, hiI, fillParts, binSV, intBin, unSV, simprocAttr, ev2, ev4, h32], by simp only [ev, sop, bounds, loI, hiI, fillParts, binSV, intBin, unSV, simprocAttr, ev2, ev4, h33], fun _ _ => ⟨by simp only [ev, sop, bounds, loI, hiI, fillParts, binSV, intBin, unSV, simprocAttr, ev2, ev4, g5], by simp only [ev, sop, bounds, loI, hiI, fillParts, binSV, intBin, unSV, simprocAttr, ev2, ev4, g31]; exact hv.symm, by simp [next_push, next_set], get_set_eq, .sc .nilsl, by simp only [ev, sop, bounds, loI, hiI, fillParts, binSV, intBin, unSV, simprocAttr, ev2, ev4], .inl ⟨rfl, hbl⟩⟩⟩
      · have hmb : (ol y.blocks).length * 8 ≤ 1099511627776 ∧ (ol y.blocks).length ≤ 1099511627776 := by omega
        repeat (first | (with_reducible refine Nx.go ?_) | ((with_reducible refine Ny.go ?_); (conv => arg 1; simp only [ev, sop, bounds, loI, hiI, fillParts, binSV, intBin, unSV, simprocAttr, ev2, ev4, g5, g6, g31, h32, h33, hj, hcy, hp0', St.get_push, St.get_set, m0, hM, bm_keys, hfind, hset, hone, hnz, rowSV_ints, hb0, hmb, List.length_map, recheck, wantedS, SV.same_self, Bool.and_self]); (first | (with_reducible refine Nz.go ?_) | refine Hold_some ?_)))
        refine ⟨by simp only [ev, sop, bounds, loI, hiI, fillParts, binSV, intBin, unSV, simprocAttr, ev2, ev4, h32], by simp only [ev, sop, bounds, loI, hiI, fillParts, binSV, intBin, unSV, simprocAttr, ev2, ev4, h33], fun _ _ => ⟨by simp only [ev, sop, bounds, loI, hiI, fillParts, binSV, intBin, unSV, simprocAttr, ev2, ev4, g5], by simp only [ev, sop, bounds, loI, hiI, fillParts, binSV, intBin, unSV, simprocAttr, ev2, ev4, g31]; exact hv.symm, by simp [next_push, next_set], by simp (disch := first | omega | (simp only [nx_push, nx_set]; done) | (simp only [nx_push, nx_set]; omega)) only [get_push_ne, get_set_ne, get_set_same], .sl (σ.next + 1) 0 (ol y.blocks).length 1, by simp only [ev, sop, bounds, loI, hiI, fillParts, binSV, intBin, unSV, simprocAttr, ev2, ev4], .inr ⟨σ.next + 1, rfl, by omega, by simp [next_push, next_set], by simp (disch := first | omega | (simp only [nx_push, nx_set]; done) | (simp only [nx_push, nx_set]; omega)) only [cells_push_ne, cells_push_eq, cells_set_ne, cells_set_eq]⟩⟩⟩
    · have n0 : (id = 0) = False := by simp; omega
      have n1 : (id = σ.next) = False := by simp; omega
      have hmb : ((rawK (ol o) a j).length + (ol y.blocks).length) * 8 ≤ 1099511627776 ∧ (rawK (ol o) a j).length + (ol y.blocks).length ≤ 1099511627776 := by omega
      have hcw : cut ((rawK (ol o) a j).map SV.int) 0 (rawK (ol o) a j).length = some ((rawK (ol o) a j).map SV.int) := cut_whole (by simp)
      repeat (first | (with_reducible refine Nx.go ?_) | ((with_reducible refine Ny.go ?_); (conv => arg 1; simp only [ev, sop, bounds, loI, hiI, fillParts, binSV, intBin, unSV, simprocAttr, ev2, ev4, g5, g6, g31, h32, h33, hj, hcy, hp0', St.get_push, St.get_set, m0, hM, bm_keys, hfind, hset, hone, hnz, rowSV_ints, h4, n0, n1, hcw, hmb, List.length_map, recheck, wantedS, SV.same_self, Bool.and_self]); (first | (with_reducible refine Nz.go ?_) | refine Hold_some ?_)))
      refine ⟨by simp only [ev, sop, bounds, loI, hiI, fillParts, binSV, intBin, unSV, simprocAttr, ev2, ev4, h32], by simp only [ev, sop, bounds, loI, hiI, fillParts, binSV, intBin, unSV, simprocAttr, ev2, ev4, h33], fun _ _ => ⟨by simp only [ev, sop, bounds, loI, hiI, fillParts, binSV, intBin, unSV, simprocAttr, ev2, ev4, g5], by simp only [ev, sop, bounds, loI, hiI, fillParts, binSV, intBin, unSV, simprocAttr, ev2, ev4, g31]; exact hv.symm, by simp [next_push, next_set], by simp (disch := first | omega | (simp only [nx_push, nx_set]; done) | (simp only [nx_push, nx_set]; omega)) only [get_push_ne, get_set_ne, get_set_same], .sl (σ.next + 1) 0 ((rawK (ol o) a j).length + (ol y.blocks).length) 1, by simp only [ev, sop, bounds, loI, hiI, fillParts, binSV, intBin, unSV, simprocAttr, ev2, ev4], .inr ⟨σ.next + 1, by rw [List.length_append], by omega, by simp [next_push, next_set], by simp (disch := first | omega | (simp only [nx_push, nx_set]; done) | (simp only [nx_push, nx_set]; omega)) only [cells_push_ne, cells_push_eq, cells_set_ne, cells_set_eq]; simp⟩⟩⟩
  · clear hM hnx hrow v
    rintro t σ ⟨g5, g31, hnx, hM, v, g6, hrow⟩
    have hR := rawK_len (ol o) a (ol o).length
    rw [List.take_length] at hR
    repeat (first | (with_reducible refine Nx.go ?_) | ((with_reducible refine Ny.go ?_); (conv => arg 1; simp only [ev, sop, bounds, loI, hiI, fillParts, binSV, intBin, unSV, simprocAttr, ev2, ev4, g6, recheck, wantedS, SV.same_self, Bool.and_self]); (first | (with_reducible refine Nz.go ?_) | refine Hold_some ?_)))
    refine st_callf (by first | with_reducible exact wantedS_none | (refine wantedS_some ?_; simp only [ev, sop, bounds, loI, hiI, fillParts, binSV, intBin, unSV, simprocAttr, ev2, ev4, g6]; done)) (by simp only [ev, sop, bounds, loI, hiI, fillParts, binSV, intBin, unSV, simprocAttr, ev2, ev4, g6] <;> rfl) (by simp only [ev, sop, bounds, loI, hiI, fillParts, binSV, intBin, unSV, simprocAttr, ev2, ev4, g6] <;> rfl) ?_
    refine (c_sort (by decide) hrow (by omega)).mono ?_
    rintro u σ2 ⟨rfl, hrow2⟩
    refine ⟨recheck_nil, ?_⟩
    repeat (first | (with_reducible refine Nx.go ?_) | ((with_reducible refine Ny.go ?_); (conv => arg 1; simp only [ev, sop, bounds, loI, hiI, fillParts, binSV, intBin, unSV, simprocAttr, ev2, ev4, g6, recheck, wantedS, SV.same_self, Bool.and_self]); (first | (with_reducible refine Nz.go ?_) | refine Hold_some ?_)))
    refine st_callf (by first | with_reducible exact wantedS_none | (refine wantedS_some ?_; simp only [ev, sop, bounds, loI, hiI, fillParts, binSV, intBin, unSV, simprocAttr, ev2, ev4, g6]; done)) (by simp only [ev, sop, bounds, loI, hiI, fillParts, binSV, intBin, unSV, simprocAttr, ev2, ev4, g6] <;> rfl) (by simp only [ev, sop, bounds, loI, hiI, fillParts, binSV, intBin, unSV, simprocAttr, ev2, ev4, g6] <;> rfl) ?_
    refine (c_compactV hrow2 (by rw [sortInts_len]; omega)).mono ?_
    rintro u σ3 ⟨r, hr1, hr2⟩
    refine ⟨recheck_nil, ?_⟩
    repeat (first | (with_reducible refine Nx.go ?_) | ((with_reducible refine Ny.go ?_); (conv => arg 1; simp only [ev, sop, bounds, loI, hiI, fillParts, binSV, intBin, unSV, simprocAttr, ev2, ev4, recheck, wantedS, SV.same_self, Bool.and_self]); (first | (with_reducible refine Nz.go ?_) | refine Hold_some ?_)))
    (refine Hold1_of ?_; (conv => arg 1; simp only [ev, sop, bounds, loI, hiI, fillParts, binSV, intBin, unSV, simprocAttr, ev2, ev4, resultsSV, resMany, resOne]); refine Hold1_some ?_)
    refine ⟨r, hr1, fun j hj hjl _ => ?_, fun h => ?_⟩
    · have : a = j := by omega
      subst this
      rw [hr2, sortInts_len]; rfl
    · rcases h with h | h | h
      · omega
      · omega
      · exact absurd hp h
end Go.Proofs.Ytojjhcgbbmknmaa.Sh

/- Are tiles right? -/
namespace Go.Proofs.Ytojjhcgbbmknmaa.Sh
set_option linter.unusedSimpArgs false
set_option linter.unusedVariables false
open Go Go.Proofs

theorem pures_tiles (l : List TileD) : pures (l.flatMap TileD.cells) = true := pures_flat pures_tile l
theorem rawK_own {l : List TileD} {k : Nat} {x : TileD} (hx : l[k]? = some x) : ∀ m, ∀ y ∈ ol x.blocks, y ∈ rawK l k m
  | 0, y, h => by rw [rawK, hx]; exact h
  | m + 1, y, h => by rw [rawK]; exact List.mem_append_left _ (rawK_own hx m y h)
theorem allL_mem {l : List TileD} {k : Nat} {y : Int} : y ∈ allL l k ↔ y ∈ rawK l k l.length := by
  unfold allL
  rw [compactK_mem (by rw [sortInts_len]; exact Nat.le_refl _), ← sortInts_len, List.take_length, sortInts_mem]
theorem allL_own {l : List TileD} {k : Nat} {x : TileD} (hx : l[k]? = some x) {y : Int} (h : y ∈ ol x.blocks) : y ∈ allL l k := allL_mem.2 (rawK_own hx _ y h)
theorem allL_rises (l : List TileD) (k : Nat) : (allL l k).Pairwise (· < ·) := compactK_rises (sortInts_le _) (by rw [sortInts_len]; exact Nat.le_refl _)
theorem allL_len (l : List TileD) (k : Nat) : (allL l k).length ≤ (blocksOf l).length + (blocksOf l).length := by
  refine Nat.le_trans (compactK_len _ _) ?_
  have := rawK_len l k l.length
  rwa [List.take_length] at this
theorem members_first {s : Nat → Bool} {b : Nat} {r : List Nat} (h : members s = b :: r) {y : Nat} (hy : y < 200) (hs : s y = true) : b ≤ y := by
  have hm : y ∈ members s := mem_members.2 ⟨hy, hs⟩
  have hp : (members s).Pairwise (· < ·) := List.Pairwise.filter _ List.pairwise_lt_range
  rw [h] at hm hp
  rcases List.mem_cons.1 hm with rfl | hm
  · exact Nat.le_refl _
  · exact Nat.le_of_lt (List.rel_of_pairwise_cons hp hm)
/-- Each block is just one tile's. -/
theorem Parts.one {n : Nat} {l : List TileD} (h : Parts n l) {b k k' : Nat} {x x' : TileD} (hb : b < n) (hx : l[k]? = some x) (hx' : l[k']? = some x') (h1 : (b : Int) ∈ ol x.blocks) (h2 : (b : Int) ∈ ol x'.blocks) : k = k' := by
  have key : ∀ {i j : Nat} {y z : TileD}, i < j → l[i]? = some y → l[j]? = some z → (b : Int) ∈ ol y.blocks → (b : Int) ∈ ol z.blocks → False := by
    intro i j y z hij hy hz g1 g2
    have e1 : l = l.take j ++ z :: l.drop (j + 1) := by
      conv => lhs; rw [← List.take_append_drop j l]
      rw [List.drop_eq_getElem_cons (List.getElem?_eq_some_iff.1 hz).1, (List.getElem?_eq_some_iff.1 hz).2]
    have h3 := h.1
    unfold inR blocksOf at h3
    rw [e1, List.flatMap_append, List.flatMap_cons, List.filter_append, List.filter_append, List.nodup_append] at h3
    refine h3.2.2 (b : Int) (List.mem_filter.2 ⟨List.mem_flatMap.2 ⟨y, ?_, g1⟩, by simp; omega⟩) (b : Int) (List.mem_append_left _ (List.mem_filter.2 ⟨g2, by simp; omega⟩)) rfl
    refine List.mem_iff_getElem?.2 ⟨i, ?_⟩
    rw [List.getElem?_take, if_pos hij]; exact hy
  rcases Nat.lt_trichotomy k k' with h3 | h3 | h3
  · exact (key h3 hx hx' h1 h2).elim
  · exact h3
  · exact (key h3 hx' hx h2 h1).elim

theorem FuncD.rowsTo {f : FuncD} (h : f.fits1) : RowsIn f.bl.length f.to := ⟨f.to_len, fun l hl => by have := h.to_ok l hl; rw [f.to_len] at this; exact this⟩
theorem FuncD.rowsFrom {f : FuncD} (h : f.fits1) : RowsIn f.bl.length f.from_ := by
  refine ⟨by simp [FuncD.from_, FuncD.froms, fromsK_len], fun l hl => ?_⟩
  obtain ⟨L, hL, rfl⟩ := List.mem_map.1 hl
  rw [ol_nilRow]
  obtain ⟨x, hx⟩ := List.mem_iff_getElem?.1 hL
  have hxn : x < f.bl.length := by
    have := (List.getElem?_eq_some_iff.1 hx).1
    simpa [FuncD.froms, fromsK_len] using this
  have e := fromsK_get (rows := f.to) hxn f.bl.length
  unfold FuncD.froms at hx
  rw [hx] at e
  cases e
  refine ⟨?_, fun y hy => ?_⟩
  · refine Nat.le_trans (comes_len (fun r hr => ?_) x _) (by have := h.2.1; omega)
    obtain ⟨b, hb, rfl⟩ := List.mem_map.1 hr
    exact term_to_len b.term
  · unfold comes at hy
    obtain ⟨i, hi, hy⟩ := List.mem_flatMap.1 hy
    obtain ⟨z, _, rfl⟩ := List.mem_map.1 hy
    have := List.mem_range.1 hi
    omega

structure RightP (f : FuncD) (l : List TileD) : Prop where
  fits : f.fits
  len : l.length ≤ 200
  par : parentsOk l
  parts : Parts f.bl.length l
  first : ∃ x, l[0]? = some x ∧ (0 : Int) ∈ ol x.blocks
  all : ∀ k x, l[k]? = some x → Stands f.bl.length l k x ∧ holdsS (ofS (allL l k)) f.to f.from_ x.kind (ol x.blocks) = true

set_option maxHeartbeats 8000000 in
theorem t_Right (f : FuncD) (o : Option (List TileD)) (hl : f.bl.length ≤ 2 ^ 47) (ht : tilesWithin (2 ^ 30) (ol o)) (htot : (blocksOf (ol o)).length ≤ 2 ^ 34) :
    ∃ r, Tells 12 [f.sv, tilesV o] (.sc (.bool r)) ∧ (r = true ↔ RightP f (ol o)) := by
  suffices h : WPF (EV 10) 12 [f.sv, tilesV o] St.empty (fun v σ => ∃ r, v = .sc (.bool r) ∧ (r = true ↔ RightP f (ol o))) by
    obtain ⟨q, v, σ, h1, r, rfl, h3⟩ := h
    exact ⟨r, ⟨_, rfl, q, _, σ, h1, frz_of_pure rfl⟩, h3⟩
  refine told_fn rfl rfl rfl rfl ?_
  have bad : ¬ RightP f (ol o) → ∃ r, (SV.sc (.bool false)) = .sc (.bool r) ∧ (r = true ↔ RightP f (ol o)) := fun h => ⟨false, rfl, by simp [h]⟩
  obtain ⟨w, hw4, hw, ho⟩ := t_over f hl
  have hlen : lenSV (tilesV o) = some (ol o).length := lenSV_rec o
  have ht47 : tilesWithin (2 ^ 47) (ol o) := ⟨by have := ht.1; omega, fun t h => by have := ht.2 t h; omega⟩
  match w, hw4 with
  | [a, b, c, d], _ =>
  rw [show f.sv = .agg [intsV f.params, blksV f.blocks] from rfl] at *
  by_cases hf : f.fits
  rotate_left
  · have hB := FuncD.fitsB_no hf
    repeat (first | (with_reducible refine Nx.go ?_) | ((with_reducible refine Ny.go ?_); (conv => arg 1; simp only [ev, sop, bounds, loI, hiI, fillParts, binSV, intBin, unSV, simprocAttr, ev2, ev4, recheck, wantedS, SV.same_self, Bool.and_self]); (first | (with_reducible refine Nz.go ?_) | refine Hold_some ?_)))
    refine st_tellp (ho) ⟨_, rfl, by first | omega | decide⟩ wantedS_none (by simp only [ev, sop, bounds, loI, hiI, fillParts, binSV, intBin, unSV, simprocAttr, ev2, ev4] <;> rfl) (by first | rfl | simp [pures, SV.pure, *, pure_func, pure_ints, pure_blks, pure_insV, pure_rows, pure_tiles, pure_set, pures_set, pures_tiles]) (by first | with_reducible exact recheck_nil | (simp only [recheck, wantedS]; simp only [ev, sop, bounds, loI, hiI, fillParts, binSV, intBin, unSV, simprocAttr, ev2, ev4]; simp only [SV.same_self, Bool.and_self, beq_self_eq_true])) ?_
    repeat (first | (with_reducible refine Nx.go ?_) | ((with_reducible refine Ny.go ?_); (conv => arg 1; simp only [ev, sop, bounds, loI, hiI, fillParts, binSV, intBin, unSV, simprocAttr, ev2, ev4, hB, recheck, wantedS, SV.same_self, Bool.and_self]); (first | (with_reducible refine Nz.go ?_) | refine Hold_some ?_)))
    (refine Hold1_of ?_; (conv => arg 1; simp only [ev, sop, bounds, loI, hiI, fillParts, binSV, intBin, unSV, simprocAttr, ev2, ev4, resultsSV, resMany, resOne]); refine Hold1_some ?_)
    exact bad (fun h => hf h.fits)
  have hB := FuncD.fitsB_iff.2 hf
  have hw := hw hf
  unfold FuncD.walker at hw
  injection hw with hw
  injection hw with e1 hw; injection hw with e2 hw; injection hw with e3 hw; injection hw with e4 _
  subst e1 e2 e3 e4
  have n1 := hf.1.1
  have n2 := hf.1.2.1
  by_cases hn : (ol o).length > 200
  · have hn' : ((ol o).length : Int) > 200 := by omega
    repeat (first | (with_reducible refine Nx.go ?_) | ((with_reducible refine Ny.go ?_); (conv => arg 1; simp only [ev, sop, bounds, loI, hiI, fillParts, binSV, intBin, unSV, simprocAttr, ev2, ev4, recheck, wantedS, SV.same_self, Bool.and_self]); (first | (with_reducible refine Nz.go ?_) | refine Hold_some ?_)))
    refine st_tellp (ho) ⟨_, rfl, by first | omega | decide⟩ wantedS_none (by simp only [ev, sop, bounds, loI, hiI, fillParts, binSV, intBin, unSV, simprocAttr, ev2, ev4] <;> rfl) (by first | rfl | simp [pures, SV.pure, *, pure_func, pure_ints, pure_blks, pure_insV, pure_rows, pure_tiles, pure_set, pures_set, pures_tiles]) (by first | with_reducible exact recheck_nil | (simp only [recheck, wantedS]; simp only [ev, sop, bounds, loI, hiI, fillParts, binSV, intBin, unSV, simprocAttr, ev2, ev4]; simp only [SV.same_self, Bool.and_self, beq_self_eq_true])) ?_
    repeat (first | (with_reducible refine Nx.go ?_) | ((with_reducible refine Ny.go ?_); (conv => arg 1; simp only [ev, sop, bounds, loI, hiI, fillParts, binSV, intBin, unSV, simprocAttr, ev2, ev4, hB, hlen, hn', recheck, wantedS, SV.same_self, Bool.and_self]); (first | (with_reducible refine Nz.go ?_) | refine Hold_some ?_)))
    (refine Hold1_of ?_; (conv => arg 1; simp only [ev, sop, bounds, loI, hiI, fillParts, binSV, intBin, unSV, simprocAttr, ev2, ev4, resultsSV, resMany, resOne]); refine Hold1_some ?_)
    exact bad (fun h => by have := h.len; omega)
  have hn' : ¬ ((ol o).length : Int) > 200 := by omega
  have hpar := t_parents o ht47.1
  by_cases hp : parentsOk (ol o)
  rotate_left
  · have hpB := parentsB_false hp
    repeat (first | (with_reducible refine Nx.go ?_) | ((with_reducible refine Ny.go ?_); (conv => arg 1; simp only [ev, sop, bounds, loI, hiI, fillParts, binSV, intBin, unSV, simprocAttr, ev2, ev4, recheck, wantedS, SV.same_self, Bool.and_self]); (first | (with_reducible refine Nz.go ?_) | refine Hold_some ?_)))
    refine st_tellp (ho) ⟨_, rfl, by first | omega | decide⟩ wantedS_none (by simp only [ev, sop, bounds, loI, hiI, fillParts, binSV, intBin, unSV, simprocAttr, ev2, ev4] <;> rfl) (by first | rfl | simp [pures, SV.pure, *, pure_func, pure_ints, pure_blks, pure_insV, pure_rows, pure_tiles, pure_set, pures_set, pures_tiles]) (by first | with_reducible exact recheck_nil | (simp only [recheck, wantedS]; simp only [ev, sop, bounds, loI, hiI, fillParts, binSV, intBin, unSV, simprocAttr, ev2, ev4]; simp only [SV.same_self, Bool.and_self, beq_self_eq_true])) ?_
    repeat (first | (with_reducible refine Nx.go ?_) | ((with_reducible refine Ny.go ?_); (conv => arg 1; simp only [ev, sop, bounds, loI, hiI, fillParts, binSV, intBin, unSV, simprocAttr, ev2, ev4, hB, hlen, hn', recheck, wantedS, SV.same_self, Bool.and_self]); (first | (with_reducible refine Nz.go ?_) | refine Hold_some ?_)))
    refine st_tellp (hpar) ⟨_, rfl, by first | omega | decide⟩ wantedS_none (by simp only [ev, sop, bounds, loI, hiI, fillParts, binSV, intBin, unSV, simprocAttr, ev2, ev4, hlen, hn'] <;> rfl) (by first | rfl | simp [pures, SV.pure, *, pure_func, pure_ints, pure_blks, pure_insV, pure_rows, pure_tiles, pure_set, pures_set, pures_tiles]) (by first | with_reducible exact recheck_nil | (simp only [recheck, wantedS]; simp only [ev, sop, bounds, loI, hiI, fillParts, binSV, intBin, unSV, simprocAttr, ev2, ev4, hlen, hn']; simp only [SV.same_self, Bool.and_self, beq_self_eq_true])) ?_
    repeat (first | (with_reducible refine Nx.go ?_) | ((with_reducible refine Ny.go ?_); (conv => arg 1; simp only [ev, sop, bounds, loI, hiI, fillParts, binSV, intBin, unSV, simprocAttr, ev2, ev4, hpB, recheck, wantedS, SV.same_self, Bool.and_self]); (first | (with_reducible refine Nz.go ?_) | refine Hold_some ?_)))
    (refine Hold1_of ?_; (conv => arg 1; simp only [ev, sop, bounds, loI, hiI, fillParts, binSV, intBin, unSV, simprocAttr, ev2, ev4, resultsSV, resMany, resOne]); refine Hold1_some ?_)
    exact bad (fun h => hp h.par)
  have hpB := parentsB_iff.2 hp
  obtain ⟨r, hown, hr⟩ := t_own (o := o) (walker_pure f) (walker_one f) (blks_len f) n1 n2 ht47
  have h := eql_nil r
  cases r with
  | none =>
    simp only [Option.isNone_none] at h
    repeat (first | (with_reducible refine Nx.go ?_) | ((with_reducible refine Ny.go ?_); (conv => arg 1; simp only [ev, sop, bounds, loI, hiI, fillParts, binSV, intBin, unSV, simprocAttr, ev2, ev4, recheck, wantedS, SV.same_self, Bool.and_self]); (first | (with_reducible refine Nz.go ?_) | refine Hold_some ?_)))
    refine st_tellp (ho) ⟨_, rfl, by first | omega | decide⟩ wantedS_none (by simp only [ev, sop, bounds, loI, hiI, fillParts, binSV, intBin, unSV, simprocAttr, ev2, ev4] <;> rfl) (by first | rfl | simp [pures, SV.pure, *, pure_func, pure_ints, pure_blks, pure_insV, pure_rows, pure_tiles, pure_set, pures_set, pures_tiles]) (by first | with_reducible exact recheck_nil | (simp only [recheck, wantedS]; simp only [ev, sop, bounds, loI, hiI, fillParts, binSV, intBin, unSV, simprocAttr, ev2, ev4]; simp only [SV.same_self, Bool.and_self, beq_self_eq_true])) ?_
    repeat (first | (with_reducible refine Nx.go ?_) | ((with_reducible refine Ny.go ?_); (conv => arg 1; simp only [ev, sop, bounds, loI, hiI, fillParts, binSV, intBin, unSV, simprocAttr, ev2, ev4, hB, hlen, hn', recheck, wantedS, SV.same_self, Bool.and_self]); (first | (with_reducible refine Nz.go ?_) | refine Hold_some ?_)))
    refine st_tellp (hpar) ⟨_, rfl, by first | omega | decide⟩ wantedS_none (by simp only [ev, sop, bounds, loI, hiI, fillParts, binSV, intBin, unSV, simprocAttr, ev2, ev4, hlen, hn'] <;> rfl) (by first | rfl | simp [pures, SV.pure, *, pure_func, pure_ints, pure_blks, pure_insV, pure_rows, pure_tiles, pure_set, pures_set, pures_tiles]) (by first | with_reducible exact recheck_nil | (simp only [recheck, wantedS]; simp only [ev, sop, bounds, loI, hiI, fillParts, binSV, intBin, unSV, simprocAttr, ev2, ev4, hlen, hn']; simp only [SV.same_self, Bool.and_self, beq_self_eq_true])) ?_
    repeat (first | (with_reducible refine Nx.go ?_) | ((with_reducible refine Ny.go ?_); (conv => arg 1; simp only [ev, sop, bounds, loI, hiI, fillParts, binSV, intBin, unSV, simprocAttr, ev2, ev4, hpB, recheck, wantedS, SV.same_self, Bool.and_self]); (first | (with_reducible refine Nz.go ?_) | refine Hold_some ?_)))
    refine st_tellp (hown) ⟨_, rfl, by first | omega | decide⟩ wantedS_none (by simp only [ev, sop, bounds, loI, hiI, fillParts, binSV, intBin, unSV, simprocAttr, ev2, ev4] <;> rfl) (by first | rfl | simp [pures, SV.pure, *, pure_func, pure_ints, pure_blks, pure_insV, pure_rows, pure_tiles, pure_set, pures_set, pures_tiles]) (by first | with_reducible exact recheck_nil | (simp only [recheck, wantedS]; simp only [ev, sop, bounds, loI, hiI, fillParts, binSV, intBin, unSV, simprocAttr, ev2, ev4]; simp only [SV.same_self, Bool.and_self, beq_self_eq_true])) ?_
    repeat (first | (with_reducible refine Nx.go ?_) | ((with_reducible refine Ny.go ?_); (conv => arg 1; simp only [ev, sop, bounds, loI, hiI, fillParts, binSV, intBin, unSV, simprocAttr, ev2, ev4, h, recheck, wantedS, SV.same_self, Bool.and_self]); (first | (with_reducible refine Nz.go ?_) | refine Hold_some ?_)))
    (refine Hold1_of ?_; (conv => arg 1; simp only [ev, sop, bounds, loI, hiI, fillParts, binSV, intBin, unSV, simprocAttr, ev2, ev4, resultsSV, resMany, resOne]); refine Hold1_some ?_)
    exact bad (fun h => hr.no rfl h.parts)
  | some out =>
  simp only [Option.isNone_some] at h
  obtain ⟨hparts, hol, hoat⟩ := hr.yes out rfl
  obtain ⟨k0, x0, hx0, hb0, hk0⟩ := hoat 0 (by omega)
  have hc0 := cut_intsN hk0
  have hol0 : (0 : Int) < (out.length : Int) := by omega
  have hol1 : 0 < out.length := by omega
  have hfirst : k0 = 0 ↔ ∃ x, (ol o)[0]? = some x ∧ (0 : Int) ∈ ol x.blocks := by
    constructor
    · rintro rfl; exact ⟨x0, hx0, hb0⟩
    · rintro ⟨x, hx, h0⟩
      exact hparts.one (b := 0) (by omega) hx0 hx hb0 h0
  repeat (first | (with_reducible refine Nx.go ?_) | ((with_reducible refine Ny.go ?_); (conv => arg 1; simp only [ev, sop, bounds, loI, hiI, fillParts, binSV, intBin, unSV, simprocAttr, ev2, ev4, recheck, wantedS, SV.same_self, Bool.and_self]); (first | (with_reducible refine Nz.go ?_) | refine Hold_some ?_)))
  refine st_tellp (ho) ⟨_, rfl, by first | omega | decide⟩ wantedS_none (by simp only [ev, sop, bounds, loI, hiI, fillParts, binSV, intBin, unSV, simprocAttr, ev2, ev4] <;> rfl) (by first | rfl | simp [pures, SV.pure, *, pure_func, pure_ints, pure_blks, pure_insV, pure_rows, pure_tiles, pure_set, pures_set, pures_tiles]) (by first | with_reducible exact recheck_nil | (simp only [recheck, wantedS]; simp only [ev, sop, bounds, loI, hiI, fillParts, binSV, intBin, unSV, simprocAttr, ev2, ev4]; simp only [SV.same_self, Bool.and_self, beq_self_eq_true])) ?_
  repeat (first | (with_reducible refine Nx.go ?_) | ((with_reducible refine Ny.go ?_); (conv => arg 1; simp only [ev, sop, bounds, loI, hiI, fillParts, binSV, intBin, unSV, simprocAttr, ev2, ev4, hB, hlen, hn', recheck, wantedS, SV.same_self, Bool.and_self]); (first | (with_reducible refine Nz.go ?_) | refine Hold_some ?_)))
  refine st_tellp (hpar) ⟨_, rfl, by first | omega | decide⟩ wantedS_none (by simp only [ev, sop, bounds, loI, hiI, fillParts, binSV, intBin, unSV, simprocAttr, ev2, ev4, hlen, hn'] <;> rfl) (by first | rfl | simp [pures, SV.pure, *, pure_func, pure_ints, pure_blks, pure_insV, pure_rows, pure_tiles, pure_set, pures_set, pures_tiles]) (by first | with_reducible exact recheck_nil | (simp only [recheck, wantedS]; simp only [ev, sop, bounds, loI, hiI, fillParts, binSV, intBin, unSV, simprocAttr, ev2, ev4, hlen, hn']; simp only [SV.same_self, Bool.and_self, beq_self_eq_true])) ?_
  repeat (first | (with_reducible refine Nx.go ?_) | ((with_reducible refine Ny.go ?_); (conv => arg 1; simp only [ev, sop, bounds, loI, hiI, fillParts, binSV, intBin, unSV, simprocAttr, ev2, ev4, hpB, recheck, wantedS, SV.same_self, Bool.and_self]); (first | (with_reducible refine Nz.go ?_) | refine Hold_some ?_)))
  refine st_tellp (hown) ⟨_, rfl, by first | omega | decide⟩ wantedS_none (by simp only [ev, sop, bounds, loI, hiI, fillParts, binSV, intBin, unSV, simprocAttr, ev2, ev4] <;> rfl) (by first | rfl | simp [pures, SV.pure, *, pure_func, pure_ints, pure_blks, pure_insV, pure_rows, pure_tiles, pure_set, pures_set, pures_tiles]) (by first | with_reducible exact recheck_nil | (simp only [recheck, wantedS]; simp only [ev, sop, bounds, loI, hiI, fillParts, binSV, intBin, unSV, simprocAttr, ev2, ev4]; simp only [SV.same_self, Bool.and_self, beq_self_eq_true])) ?_
  have hio : intsV (some out) = .lst out.length 1 (out.map SV.int) := rfl
  by_cases hkz : k0 = 0
  rotate_left
  · have hkz' : ((k0 : Int) != 0) = true := by simpa using hkz
    repeat (first | (with_reducible refine Nx.go ?_) | ((with_reducible refine Ny.go ?_); (conv => arg 1; simp only [ev, sop, bounds, loI, hiI, fillParts, binSV, intBin, unSV, simprocAttr, ev2, ev4, h, hio, hol0, hol1, hc0, hkz', recheck, wantedS, SV.same_self, Bool.and_self]); (first | (with_reducible refine Nz.go ?_) | refine Hold_some ?_)))
    (refine Hold1_of ?_; (conv => arg 1; simp only [ev, sop, bounds, loI, hiI, fillParts, binSV, intBin, unSV, simprocAttr, ev2, ev4, resultsSV, resMany, resOne]); refine Hold1_some ?_)
    exact bad (fun h => hkz (hfirst.2 h.first))
  have hkz' : ((k0 : Int) != 0) = false := by simpa using hkz
  repeat (first | (with_reducible refine Nx.go ?_) | ((with_reducible refine Ny.go ?_); (conv => arg 1; simp only [ev, sop, bounds, loI, hiI, fillParts, binSV, intBin, unSV, simprocAttr, ev2, ev4, h, hio, hol0, hol1, hc0, hkz', hlen, recheck, wantedS, SV.same_self, Bool.and_self]); (first | (with_reducible refine Nz.go ?_) | refine Hold_some ?_)))
  refine WP_range (N := (ol o).length) (fun k t σ => getT t 1 = tilesV o ∧ getT t 5 = .ptr 1 0 ∧ cellsOf σ 1 = some [intsV f.params, blksV f.blocks, rowsV f.to, rowsV f.from_] ∧
      ∀ (j : Nat) (x : TileD), j < k → (ol o)[j]? = some x → Stands f.bl.length (ol o) j x ∧ holdsS (ofS (allL (ol o) j)) f.to f.from_ x.kind (ol x.blocks) = true) (by have := ht47.1; omega) (by simp only [ev, sop, bounds, loI, hiI, fillParts, binSV, intBin, unSV, simprocAttr, ev2, ev4]) (by simp only [ev, sop, bounds, loI, hiI, fillParts, binSV, intBin, unSV, simprocAttr, ev2, ev4]) (by decide)
    ⟨by simp only [ev, sop, bounds, loI, hiI, fillParts, binSV, intBin, unSV, simprocAttr, ev2, ev4], by simp only [ev, sop, bounds, loI, hiI, fillParts, binSV, intBin, unSV, simprocAttr, ev2, ev4], by simp only [ev, sop, bounds, loI, hiI, fillParts, binSV, intBin, unSV, simprocAttr, ev2, ev4], fun j x h => by omega⟩ ?_ ?_
  · rintro k t σ hk h38 h39 ⟨g1, g5, c1, hI⟩
    obtain ⟨x, hx⟩ := get_of_lt hk
    have hcx := cut_tile hx
    obtain ⟨sb, hst, hsi⟩ := t_stands (ps := intsV f.params) (tr := rowsV f.to) (fr := rowsV f.from_) (walker_pure f) (walker_one f) (blks_len f) ht47 hp hx
    by_cases hS : Stands f.bl.length (ol o) k x
    rotate_left
    · have hsb : sb = false := by rw [← Bool.not_eq_true, hsi]; exact hS
      subst hsb
      repeat (first | (with_reducible refine Nx.go ?_) | ((with_reducible refine Ny.go ?_); (conv => arg 1; simp only [ev, sop, bounds, loI, hiI, fillParts, binSV, intBin, unSV, simprocAttr, ev2, ev4, g1, g5, h39, c1, recheck, wantedS, SV.same_self, Bool.and_self]); (first | (with_reducible refine Nz.go ?_) | refine Hold_some ?_)))
      refine st_tellp (hst) ⟨_, rfl, by first | omega | decide⟩ wantedS_none (by simp only [ev, sop, bounds, loI, hiI, fillParts, binSV, intBin, unSV, simprocAttr, ev2, ev4, g1, g5, h39, c1] <;> rfl) (by first | rfl | simp [pures, SV.pure, *, pure_func, pure_ints, pure_blks, pure_insV, pure_rows, pure_tiles, pure_set, pures_set, pures_tiles]) (by first | with_reducible exact recheck_nil | (simp only [recheck, wantedS]; simp only [ev, sop, bounds, loI, hiI, fillParts, binSV, intBin, unSV, simprocAttr, ev2, ev4, g1, g5, h39, c1]; simp only [SV.same_self, Bool.and_self, beq_self_eq_true])) ?_
      repeat (first | (with_reducible refine Nx.go ?_) | ((with_reducible refine Ny.go ?_); (conv => arg 1; simp only [ev, sop, bounds, loI, hiI, fillParts, binSV, intBin, unSV, simprocAttr, ev2, ev4, recheck, wantedS, SV.same_self, Bool.and_self]); (first | (with_reducible refine Nz.go ?_) | refine Hold_some ?_)))
      (refine Hold1_of ?_; (conv => arg 1; simp only [ev, sop, bounds, loI, hiI, fillParts, binSV, intBin, unSV, simprocAttr, ev2, ev4, resultsSV, resMany, resOne]); refine Hold1_some ?_)
      exact bad (fun h => hS (h.all k x hx).1)
    have hsb := hsi.2 hS
    subst hsb
    obtain ⟨r, hall, hr1, _⟩ := t_tAll o (k : Int) ht htot
    have hr1 := hr1 k rfl hk hp
    have hof := t_of r (by rw [hr1]; have := allL_len (ol o) k; omega)
    rw [hr1] at hof
    have hbx : ∀ y ∈ ol x.blocks, 0 ≤ y ∧ y < (f.bl.length : Int) := hS.rise.1
    have hxl := ht47.2 x (List.mem_of_getElem? hx)
    have hhs := t_holds (ps := intsV f.params) (bs := blksV f.blocks) (s := ofS (allL (ol o) k)) (kind := x.kind) (parent := x.parent) (o := x.blocks) (pure_ints _) (pure_blks _) (one_ints _) (one_recV _) (f.rowsTo hf.1) (f.rowsFrom hf.1) n2 (fun b rr hm => by
      obtain ⟨y, hy⟩ := List.exists_mem_of_ne_nil _ hS.some_
      have hyr := hbx y hy
      obtain ⟨z, rfl⟩ := Int.eq_ofNat_of_zero_le hyr.1
      have := members_first hm (y := z) (by omega) (by unfold ofS; exact decide_eq_true (allL_own hx hy))
      omega) (by omega) hbx
    repeat (first | (with_reducible refine Nx.go ?_) | ((with_reducible refine Ny.go ?_); (conv => arg 1; simp only [ev, sop, bounds, loI, hiI, fillParts, binSV, intBin, unSV, simprocAttr, ev2, ev4, g1, g5, h39, c1, recheck, wantedS, SV.same_self, Bool.and_self]); (first | (with_reducible refine Nz.go ?_) | refine Hold_some ?_)))
    refine st_tellp (hst) ⟨_, rfl, by first | omega | decide⟩ wantedS_none (by simp only [ev, sop, bounds, loI, hiI, fillParts, binSV, intBin, unSV, simprocAttr, ev2, ev4, g1, g5, h39, c1] <;> rfl) (by first | rfl | simp [pures, SV.pure, *, pure_func, pure_ints, pure_blks, pure_insV, pure_rows, pure_tiles, pure_set, pures_set, pures_tiles]) (by first | with_reducible exact recheck_nil | (simp only [recheck, wantedS]; simp only [ev, sop, bounds, loI, hiI, fillParts, binSV, intBin, unSV, simprocAttr, ev2, ev4, g1, g5, h39, c1]; simp only [SV.same_self, Bool.and_self, beq_self_eq_true])) ?_
    have hv := tiles_of_lt hk
    have hkl : (k : Int) < ((ol o).length : Int) := by omega
    have hk00 : 0 ≤ (k : Int) := by omega
    rw [hv] at g1 hall
    repeat (first | (with_reducible refine Nx.go ?_) | ((with_reducible refine Ny.go ?_); (conv => arg 1; simp only [ev, sop, bounds, loI, hiI, fillParts, binSV, intBin, unSV, simprocAttr, ev2, ev4, g1, g5, h39, c1, hk, hkl, hk00, hcx, recheck, wantedS, SV.same_self, Bool.and_self]); (first | (with_reducible refine Nz.go ?_) | refine Hold_some ?_)))
    refine st_tellp (hall) ⟨_, rfl, by first | omega | decide⟩ wantedS_none (by simp only [ev, sop, bounds, loI, hiI, fillParts, binSV, intBin, unSV, simprocAttr, ev2, ev4, g1, g5, h39, c1, hk, hkl, hk00, hcx] <;> rfl) (by first | rfl | simp [pures, SV.pure, *, pure_func, pure_ints, pure_blks, pure_insV, pure_rows, pure_tiles, pure_set, pures_set, pures_tiles]) (by first | with_reducible exact recheck_nil | (simp only [recheck, wantedS]; simp only [ev, sop, bounds, loI, hiI, fillParts, binSV, intBin, unSV, simprocAttr, ev2, ev4, g1, g5, h39, c1, hk, hkl, hk00, hcx]; simp only [SV.same_self, Bool.and_self, beq_self_eq_true])) ?_
    repeat (first | (with_reducible refine Nx.go ?_) | ((with_reducible refine Ny.go ?_); (conv => arg 1; simp only [ev, sop, bounds, loI, hiI, fillParts, binSV, intBin, unSV, simprocAttr, ev2, ev4, g1, g5, h39, c1, hk, hkl, hk00, hcx, recheck, wantedS, SV.same_self, Bool.and_self]); (first | (with_reducible refine Nz.go ?_) | refine Hold_some ?_)))
    refine st_tellp (hof) ⟨_, rfl, by first | omega | decide⟩ wantedS_none (by simp only [ev, sop, bounds, loI, hiI, fillParts, binSV, intBin, unSV, simprocAttr, ev2, ev4, g1, g5, h39, c1, hk, hkl, hk00, hcx] <;> rfl) (by first | rfl | simp [pures, SV.pure, *, pure_func, pure_ints, pure_blks, pure_insV, pure_rows, pure_tiles, pure_set, pures_set, pures_tiles]) (by first | with_reducible exact recheck_nil | (simp only [recheck, wantedS]; simp only [ev, sop, bounds, loI, hiI, fillParts, binSV, intBin, unSV, simprocAttr, ev2, ev4, g1, g5, h39, c1, hk, hkl, hk00, hcx]; simp only [SV.same_self, Bool.and_self, beq_self_eq_true])) ?_
    unfold setV at hof hhs
    repeat (first | (with_reducible refine Nx.go ?_) | ((with_reducible refine Ny.go ?_); (conv => arg 1; simp only [ev, sop, bounds, loI, hiI, fillParts, binSV, intBin, unSV, simprocAttr, ev2, ev4, g1, g5, h39, c1, hk, hkl, hk00, hcx, recheck, wantedS, SV.same_self, Bool.and_self]); (first | (with_reducible refine Nz.go ?_) | refine Hold_some ?_)))
    refine st_tellp (hhs) ⟨_, rfl, by first | omega | decide⟩ wantedS_none (by simp only [ev, sop, bounds, loI, hiI, fillParts, binSV, intBin, unSV, simprocAttr, ev2, ev4, g1, g5, h39, c1, hk, hkl, hk00, hcx] <;> rfl) (by first | rfl | simp [pures, SV.pure, *, pure_func, pure_ints, pure_blks, pure_insV, pure_rows, pure_tiles, pure_set, pures_set, pures_tiles]) (by first | with_reducible exact recheck_nil | (simp only [recheck, wantedS]; simp only [ev, sop, bounds, loI, hiI, fillParts, binSV, intBin, unSV, simprocAttr, ev2, ev4, g1, g5, h39, c1, hk, hkl, hk00, hcx]; simp only [SV.same_self, Bool.and_self, beq_self_eq_true])) ?_
    by_cases hH : holdsS (ofS (allL (ol o) k)) f.to f.from_ x.kind (ol x.blocks) = true
    rotate_left
    · have hH' : holdsS (ofS (allL (ol o) k)) f.to f.from_ x.kind (ol x.blocks) = false := by simpa using hH
      repeat (first | (with_reducible refine Nx.go ?_) | ((with_reducible refine Ny.go ?_); (conv => arg 1; simp only [ev, sop, bounds, loI, hiI, fillParts, binSV, intBin, unSV, simprocAttr, ev2, ev4, hH', recheck, wantedS, SV.same_self, Bool.and_self]); (first | (with_reducible refine Nz.go ?_) | refine Hold_some ?_)))
      (refine Hold1_of ?_; (conv => arg 1; simp only [ev, sop, bounds, loI, hiI, fillParts, binSV, intBin, unSV, simprocAttr, ev2, ev4, resultsSV, resMany, resOne]); refine Hold1_some ?_)
      exact bad (fun h => hH (h.all k x hx).2)
    repeat (first | (with_reducible refine Nx.go ?_) | ((with_reducible refine Ny.go ?_); (conv => arg 1; simp only [ev, sop, bounds, loI, hiI, fillParts, binSV, intBin, unSV, simprocAttr, ev2, ev4, hH, recheck, wantedS, SV.same_self, Bool.and_self]); (first | (with_reducible refine Nz.go ?_) | refine Hold_some ?_)))
    refine ⟨by simp only [ev, sop, bounds, loI, hiI, fillParts, binSV, intBin, unSV, simprocAttr, ev2, ev4, h38], by simp only [ev, sop, bounds, loI, hiI, fillParts, binSV, intBin, unSV, simprocAttr, ev2, ev4, h39], fun _ _ => ⟨by simp only [ev, sop, bounds, loI, hiI, fillParts, binSV, intBin, unSV, simprocAttr, ev2, ev4, g1]; exact hv.symm, by simp only [ev, sop, bounds, loI, hiI, fillParts, binSV, intBin, unSV, simprocAttr, ev2, ev4, g5], c1, fun j y hj hy => ?_⟩⟩
    by_cases e : j = k
    · subst e; rw [hx] at hy; cases hy; exact ⟨hS, hH⟩
    · exact hI j y (by omega) hy
  · rintro t σ ⟨g1, g5, c1, hI⟩
    repeat (first | (with_reducible refine Nx.go ?_) | ((with_reducible refine Ny.go ?_); (conv => arg 1; simp only [ev, sop, bounds, loI, hiI, fillParts, binSV, intBin, unSV, simprocAttr, ev2, ev4, recheck, wantedS, SV.same_self, Bool.and_self]); (first | (with_reducible refine Nz.go ?_) | refine Hold_some ?_)))
    (refine Hold1_of ?_; (conv => arg 1; simp only [ev, sop, bounds, loI, hiI, fillParts, binSV, intBin, unSV, simprocAttr, ev2, ev4, resultsSV, resMany, resOne]); refine Hold1_some ?_)
    refine ⟨true, rfl, fun _ => ⟨hf, by omega, hp, hparts, hfirst.1 hkz, fun k x hx => hI k x (List.getElem?_eq_some_iff.1 hx).1 hx⟩, fun _ => rfl⟩
end Go.Proofs.Ytojjhcgbbmknmaa.Sh

/- Right tiles: what follows of them (no program in sight). -/
namespace Go.Proofs.Ytojjhcgbbmknmaa.Sh
set_option linter.unusedSimpArgs false
set_option linter.unusedVariables false
open Go Go.Proofs

theorem nodup_len {α : Type} [DecidableEq α] : ∀ {l m : List α}, l.Nodup → (∀ x ∈ l, x ∈ m) → l.length ≤ m.length
  | [], m, _, _ => by simp
  | a :: l, m, hn, hs => by
    rw [List.nodup_cons] at hn
    have h1 := nodup_len (m := m.erase a) hn.2 (fun x hx => (List.mem_erase_of_ne (fun e => hn.1 (by rw [← e]; exact hx))).2 (hs x (by simp [hx])))
    have ha := hs a (by simp)
    rw [List.length_erase_of_mem ha] at h1
    have : 0 < m.length := List.length_pos_of_mem ha
    simp only [List.length_cons]; omega

theorem rawK_mem {l : List TileD} {k : Nat} {y : Int} : ∀ {m : Nat}, y ∈ rawK l k m ↔ ∃ (b : Nat) (t : TileD), b ∈ belowK l k m ∧ l[b]? = some t ∧ y ∈ ol t.blocks
  | 0 => by
    rw [rawK]
    constructor
    · intro h
      cases e : l[k]? with
      | none => rw [e] at h; simp at h
      | some t => rw [e] at h; exact ⟨k, t, by simp [belowK], e, h⟩
    · rintro ⟨b, t, hb, ht, hy⟩
      simp [belowK] at hb
      subst hb
      rw [ht]; exact hy
  | m + 1 => by
    have ih := rawK_mem (l := l) (k := k) (y := y) (m := m)
    rw [rawK, List.mem_append, ih]
    constructor
    · rintro (⟨b, t, h1, h2, h3⟩ | h)
      · exact ⟨b, t, by rw [belowK]; exact List.mem_append_left _ h1, h2, h3⟩
      · cases e : l[m]? with
        | none => rw [e] at h; simp at h
        | some t =>
          rw [e] at h
          simp only at h
          split at h
          · rename_i hc
            exact ⟨m, t, by rw [belowK, e]; simp [hc.1, hc.2], e, h⟩
          · simp at h
    · rintro ⟨b, t, h1, h2, h3⟩
      rw [belowK, List.mem_append] at h1
      rcases h1 with h1 | h1
      · exact .inl ⟨b, t, h1, h2, h3⟩
      · right
        cases e : l[m]? with
        | none => rw [e] at h1; simp at h1
        | some t' =>
          rw [e] at h1
          simp only at h1 ⊢
          split at h1
          · rename_i hc
            simp at h1; subst h1
            rw [if_pos hc]
            rw [h2] at e; cases e; exact h3
          · simp at h1
theorem belowK_mono {l : List TileD} {k b : Nat} {m : Nat} (h : b ∈ belowK l k m) : ∀ {m' : Nat}, m ≤ m' → b ∈ belowK l k m'
  | 0, hm => by rw [Nat.le_zero.1 hm] at h; exact h
  | m' + 1, hm => by
    by_cases e : m = m' + 1
    · subst e; exact h
    · rw [belowK]; exact List.mem_append_left _ (belowK_mono h (by omega))
theorem belowK_step {l : List TileD} {k m : Nat} {t : TileD} (ht : l[m]? = some t) (h0 : 0 ≤ t.parent) (h : t.parent.toNat ∈ belowK l k m) : m ∈ belowK l k (m + 1) := by
  rw [belowK, ht]; simp [h0, h]

theorem RightP.below {f : FuncD} {l : List TileD} (h : RightP f l) : ∀ m, m ≤ l.length → ∀ j, j < m → j ∈ belowK l 0 m
  | 0, _, j, hj => by omega
  | m + 1, hm, j, hj => by
    have ih := RightP.below h m (by omega)
    by_cases e : j = m
    rotate_left
    · exact belowK_mono (ih j (by omega)) (by omega)
    · subst e
      by_cases h0 : j = 0
      · subst h0; exact belowK_mono (m := 0) (by simp [belowK]) (by omega)
      · obtain ⟨t, ht⟩ := get_of_lt (show j < l.length by omega)
        have hp := h.par j t ht
        have hs := (h.all j t ht).1.top
        have : t.parent ≠ -1 := fun e => h0 (hs.2 e)
        exact belowK_step ht (by omega) (ih _ (by omega))
theorem RightP.range {f : FuncD} {l : List TileD} (h : RightP f l) {y : Int} : y ∈ blocksOf l ↔ 0 ≤ y ∧ y < (f.bl.length : Int) := by
  constructor
  · intro hy
    obtain ⟨t, ht, hy⟩ := List.mem_flatMap.1 hy
    obtain ⟨k, hk⟩ := List.mem_iff_getElem?.1 ht
    exact (h.all k t hk).1.rise.1 y hy
  · rintro ⟨h1, h2⟩
    obtain ⟨b, rfl⟩ := Int.eq_ofNat_of_zero_le h1
    exact h.parts.2 b (by omega)
theorem RightP.root {f : FuncD} {l : List TileD} (h : RightP f l) {y : Int} : y ∈ allL l 0 ↔ 0 ≤ y ∧ y < (f.bl.length : Int) := by
  rw [allL_mem, rawK_mem, ← h.range]
  constructor
  · rintro ⟨b, t, _, h2, h3⟩
    exact List.mem_flatMap.2 ⟨t, List.mem_of_getElem? h2, h3⟩
  · intro hy
    obtain ⟨t, ht, hy⟩ := List.mem_flatMap.1 hy
    obtain ⟨k, hk⟩ := List.mem_iff_getElem?.1 ht
    exact ⟨k, t, h.below _ (Nat.le_refl _) k (List.getElem?_eq_some_iff.1 hk).1, hk, hy⟩
theorem RightP.root_len {f : FuncD} {l : List TileD} (h : RightP f l) : (allL l 0).length = f.bl.length := by
  have h1 : (allL l 0).Nodup := (allL_rises l 0).imp (fun h => by omega)
  have h2 : ((List.range f.bl.length).map fun b : Nat => (b : Int)).Nodup := by
    rw [List.nodup_iff_pairwise_ne, List.pairwise_map]
    exact List.pairwise_lt_range.imp (fun h => by omega)
  have hm : ∀ x : Int, x ∈ allL l 0 ↔ x ∈ (List.range f.bl.length).map fun b : Nat => (b : Int) := by
    intro x
    rw [h.root]
    simp only [List.mem_map, List.mem_range]
    constructor
    · rintro ⟨g1, g2⟩
      obtain ⟨b, rfl⟩ := Int.eq_ofNat_of_zero_le g1
      exact ⟨b, by omega, rfl⟩
    · rintro ⟨b, hb, rfl⟩
      omega
  have h3 := nodup_len h1 (fun x hx => (hm x).1 hx)
  have h4 := nodup_len h2 (fun x hx => (hm x).2 hx)
  simp at h3 h4
  omega
/-- All blocks of a tile are its parent's. -/
theorem belowK_up {l : List TileD} (hp : parentsOk l) {k p : Nat} {x : TileD} (hx : l[k]? = some x) (hxp : x.parent = (p : Int)) : ∀ m, m ≤ l.length → (∀ b ∈ belowK l k m, b ≠ k → b ∈ belowK l p m) ∧ (k < m → k ∈ belowK l p m)
  | 0, _ => ⟨fun b hb hk => absurd (by simpa [belowK] using hb) hk, fun h => by omega⟩
  | m + 1, hm => by
    obtain ⟨i1, i2⟩ := belowK_up hp hx hxp m (by omega)
    have hk : k < l.length := (List.getElem?_eq_some_iff.1 hx).1
    have hpk := hp k x hx
    have two : k < m + 1 → k ∈ belowK l p (m + 1) := by
      intro h
      by_cases e : k = m
      · subst e
        exact belowK_step hx (by omega) (by rw [hxp]; exact belowK_mono (m := 0) (by simp [belowK]) (by omega))
      · exact belowK_mono (i2 (by omega)) (by omega)
    refine ⟨fun b hb hbk => ?_, two⟩
    rw [belowK, List.mem_append] at hb
    rcases hb with hb | hb
    · exact belowK_mono (i1 b hb hbk) (by omega)
    · obtain ⟨t, ht⟩ := get_of_lt (show m < l.length by omega)
      rw [ht] at hb
      simp only at hb
      split at hb
      · rename_i hc
        simp at hb; subst hb
        refine belowK_step ht hc.1 ?_
        by_cases e : t.parent.toNat = k
        · rw [e]
          have h1 := hp b t ht
          exact i2 (by omega)
        · exact i1 _ hc.2 e
      · simp at hb
theorem allL_up {l : List TileD} (hp : parentsOk l) {k p : Nat} {x : TileD} (hx : l[k]? = some x) (hxp : x.parent = (p : Int)) {y : Int} (h : y ∈ allL l k) : y ∈ allL l p := by
  rw [allL_mem, rawK_mem] at h ⊢
  obtain ⟨b, t, h1, h2, h3⟩ := h
  obtain ⟨i1, i2⟩ := belowK_up hp hx hxp l.length (Nat.le_refl _)
  refine ⟨b, t, ?_, h2, h3⟩
  by_cases e : b = k
  · subst e; exact i2 (List.getElem?_eq_some_iff.1 hx).1
  · exact i1 b h1 e
/-- One block less: they do not part the blocks. -/
theorem Parts.less {n : Nat} {l : List TileD} (h : Parts n l) {k : Nat} {x : TileD} (hx : l[k]? = some x) {y : Int} {r : List Int} (hb : ol x.blocks = y :: r) (hr : Rises n (ol x.blocks)) : ¬ Parts n (l.set k { x with blocks := some r }) := by
  intro h'
  have hy := hr.1 y (by rw [hb]; simp)
  obtain ⟨b, rfl⟩ := Int.eq_ofNat_of_zero_le hy.1
  have hbn : b < n := by omega
  obtain ⟨t, ht, hm⟩ := List.mem_flatMap.1 (h'.2 b hbn)
  obtain ⟨j, hj⟩ := List.mem_iff_getElem?.1 ht
  by_cases e : j = k
  · subst e
    rw [List.getElem?_set_self (List.getElem?_eq_some_iff.1 hx).1] at hj
    cases hj
    have h2 := hr.2
    rw [hb] at h2
    have := List.rel_of_pairwise_cons h2 hm
    omega
  · rw [List.getElem?_set_ne (by omega)] at hj
    exact e (h.one hbn hj hx hm (by rw [hb]; simp))
/-- One told twice: neither. -/
theorem Parts.twice {n : Nat} {l : List TileD} {k : Nat} {x : TileD} (hx : l[k]? = some x) {y : Int} {r : List Int} (hb : ol x.blocks = y :: r) (hr : Rises n (ol x.blocks)) : ¬ Parts n (l.set k { x with blocks := some (ol x.blocks ++ [y]) }) := by
  intro h'
  have hy := hr.1 y (by rw [hb]; simp)
  have hk : k < l.length := (List.getElem?_eq_some_iff.1 hx).1
  have h1 := h'.1
  rw [List.set_eq_take_append_cons_drop, if_pos hk] at h1
  unfold inR blocksOf at h1
  rw [List.flatMap_append, List.flatMap_cons, List.filter_append, List.filter_append, List.nodup_append, List.nodup_append] at h1
  have h2 := h1.2.1.1
  simp only [ol, Option.getD_some] at h2
  rw [List.filter_append, List.nodup_append] at h2
  refine h2.2.2 y (List.mem_filter.2 ⟨?_, by simp; omega⟩) y (List.mem_filter.2 ⟨by simp, by simp; omega⟩) rfl
  have : y ∈ ol x.blocks := by rw [hb]; simp
  simpa [ol] using this
end Go.Proofs.Ytojjhcgbbmknmaa.Sh
