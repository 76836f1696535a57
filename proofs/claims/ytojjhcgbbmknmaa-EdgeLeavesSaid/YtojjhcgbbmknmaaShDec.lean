/- Arguments, as they are read: a function, tiles, an edge. -/
import Derived.Test.YtojjhcgbbmknmaaX8
import Derived.Test.YtojjhcgbbmknmaaX5
import Derived.Test.YtojjhcgbbmknmaaRows
namespace Go.Proofs.Ytojjhcgbbmknmaa.Sh
set_option linter.unusedSimpArgs false
set_option linter.unusedVariables false
open Go Go.Proofs
set_option maxRecDepth 100000

/-- What counts of a type. -/
inductive TK where
  | b | i (k : IntKind) | sl (e n : Nat) | st (l : List (Nat × Nat × Nat)) | arr (n e k : Nat) | other
def tk (P : Program) (t : TypeId) : TK := match P.underlying t with
  | some .bool => .b
  | some (.int k) => .i k
  | some (.slice e) => .sl e (P.cellsOf e)
  | some (.struct fs) => .st (fs.toList.map fun f => (f.type, f.offset, P.cellsOf f.type))
  | some (.array n e) => .arr n e (P.cellsOf e)
  | _ => .other
section
variable {P : Program}
theorem rd_int {d : Nat} {t : TypeId} {k : IntKind} {ss : List SV} (h : tk P t = .i k) (r : Rd P (d + 1) t ss) : ∃ n, ss = [.sc (.int k n)] := by
  unfold tk at h
  unfold Rd at r
  split at h <;> simp_all
  obtain ⟨n, h, _⟩ := r
  exact ⟨n, h⟩
theorem rd_st {d : Nat} {t : TypeId} {l : List (Nat × Nat × Nat)} {ss : List SV} (h : tk P t = .st l) (r : Rd P (d + 1) t ss) : ss.length = P.cellsOf t ∧ ∀ p ∈ l, Rd P d p.1 ((ss.drop p.2.1).take p.2.2) := by
  unfold tk at h
  unfold Rd at r
  split at h
  all_goals first | (cases h; done) | skip
  rename_i fs hu
  cases h
  rw [hu] at r
  refine ⟨r.1, fun p hp => ?_⟩
  obtain ⟨f, hf, rfl⟩ := List.mem_map.1 hp
  exact r.2 f hf
theorem rd_arr {d n e k : Nat} {t : TypeId} {ss : List SV} (h : tk P t = .arr n e k) (r : Rd P (d + 1) t ss) : ss.length = P.cellsOf t ∧ ∀ i, i < n → Rd P d e ((ss.drop (i * k)).take k) := by
  unfold tk at h
  unfold Rd at r
  split at h
  all_goals first | (cases h; done) | skip
  rename_i n' e' hu
  cases h
  rw [hu] at r
  exact r
theorem rd_sl {α : Type} {enc : α → List SV} {Q : α → Prop} {d e n : Nat} {t : TypeId} {ss : List SV} (h : tk P t = .sl e n) (he : ∀ l, l.length = n → Rd P d e l → ∃ x, l = enc x ∧ Q x) (r : Rd P (d + 1) t ss) :
    ∃ o : Option (List α), ss = [recV n enc o] ∧ (ol o).length ≤ 2 ^ 47 ∧ ∀ x ∈ ol o, Q x := by
  unfold tk at h
  unfold Rd at r
  split at h
  all_goals first | (cases h; done) | skip
  rename_i e' hu
  cases h
  rw [hu] at r
  rcases r with rfl | ⟨ls, rfl, hl, hr⟩
  · exact ⟨none, rfl, by simp [ol], by simp [ol]⟩
  · have key : ∀ ls : List (List SV), (∀ l ∈ ls, l.length = P.cellsOf e ∧ Rd P d e l) → ∃ xs : List α, xs.length = ls.length ∧ ls.flatten = xs.flatMap enc ∧ ∀ x ∈ xs, Q x := by
      intro ls
      induction ls with
      | nil => intro _; exact ⟨[], rfl, rfl, by simp⟩
      | cons l ls ih =>
        intro h
        obtain ⟨xs, h1, h2, h3⟩ := ih (fun l hl => h l (by simp [hl]))
        obtain ⟨x, h4, h5⟩ := he l (h l (by simp)).1 (h l (by simp)).2
        refine ⟨x :: xs, by simp [h1], by simp [h2, h4], fun y hy => ?_⟩
        rcases List.mem_cons.1 hy with rfl | hy
        · exact h5
        · exact h3 y hy
    obtain ⟨xs, h1, h2, h3⟩ := key ls hr
    refine ⟨some xs, ?_, by simpa [ol, h1] using hl, by simpa [ol] using h3⟩
    simp [recV, h1, h2]
end

theorem flat_single : ∀ l : List Int, (l.flatMap fun n => [SV.int n]) = l.map SV.int
  | [] => rfl
  | x :: l => by rw [List.flatMap_cons, flat_single l]; rfl
theorem tk_int : tk Try.prog 3 = .i .i64 := by kernel_rfl
theorem rd_ints {d : Nat} {ss : List SV} (r : Rd Try.prog (d + 2) 22 ss) : ∃ o, ss = [intsV o] ∧ (ol o).length ≤ 2 ^ 47 := by
  obtain ⟨o, h1, h2, _⟩ := rd_sl (P := Try.prog) (d := d + 1) (enc := fun n : Int => [SV.int n]) (Q := fun _ => True) (e := 3) (n := 1) (by kernel_rfl) (fun l hl r => by
    obtain ⟨n, h⟩ := rd_int tk_int r
    exact ⟨n, h, trivial⟩) r
  refine ⟨o, ?_, h2⟩
  rw [h1]
  cases o with
  | none => rfl
  | some l => show [SV.lst l.length 1 (l.flatMap fun n => [SV.int n])] = [SV.lst l.length 1 (l.map SV.int)]; rw [flat_single]

theorem tk_kind : tk Try.prog 109 = .i .i64 := by kernel_rfl
theorem tk_arr : tk Try.prog 110 = .arr 2 3 1 := by kernel_rfl
theorem tk_term : tk Try.prog 112 = .st [(109, 0, 1), (3, 1, 1), (110, 2, 2)] := by kernel_rfl
theorem len_term : Try.prog.cellsOf 112 = 4 := by kernel_rfl
theorem list_4 {l : List SV} (h : l.length = 4) : ∃ a b c d, l = [a, b, c, d] := by
  match l, h with
  | [a, b, c, d], _ => exact ⟨a, b, c, d, rfl⟩
theorem list_5 {l : List SV} (h : l.length = 5) : ∃ a b c d e, l = [a, b, c, d, e] := by
  match l, h with
  | [a, b, c, d, e], _ => exact ⟨a, b, c, d, e, rfl⟩
theorem list_2 {l : List SV} (h : l.length = 2) : ∃ a b, l = [a, b] := by
  match l, h with
  | [a, b], _ => exact ⟨a, b, rfl⟩
theorem list_3 {l : List SV} (h : l.length = 3) : ∃ a b c, l = [a, b, c] := by
  match l, h with
  | [a, b, c], _ => exact ⟨a, b, c, rfl⟩
theorem list_8 {l : List SV} (h : l.length = 8) : ∃ a b c d e f g i, l = [a, b, c, d, e, f, g, i] := by
  match l, h with
  | [a, b, c, d, e, f, g, i], _ => exact ⟨a, b, c, d, e, f, g, i, rfl⟩
theorem rd_term {d : Nat} {ss : List SV} (r : Rd Try.prog (d + 3) 112 ss) : ∃ x : TermD, ss = x.cells := by
  obtain ⟨hl, h⟩ := rd_st (P := Try.prog) tk_term r
  rw [len_term] at hl
  obtain ⟨a, b, c, e, rfl⟩ := list_4 hl
  obtain ⟨k, h1⟩ := rd_int tk_kind (h (109, 0, 1) (by simp))
  obtain ⟨n, h2⟩ := rd_int tk_int (h (3, 1, 1) (by simp))
  obtain ⟨_, h3⟩ := rd_arr (P := Try.prog) tk_arr (h (110, 2, 2) (by simp))
  obtain ⟨x, h4⟩ := rd_int tk_int (h3 0 (by omega))
  obtain ⟨y, h5⟩ := rd_int tk_int (h3 1 (by omega))
  simp at h1 h2 h4 h5
  exact ⟨⟨k, n, x, y⟩, by simp [TermD.cells, h1, h2, h4, h5]⟩
theorem tk_op : tk Try.prog 143 = .i .i64 := by kernel_rfl
theorem tk_ins : tk Try.prog 145 = .st [(143, 0, 1), (3, 1, 1), (3, 2, 1), (3, 3, 1), (3, 4, 1), (3, 5, 1), (22, 6, 1), (3, 7, 1)] := by kernel_rfl
theorem len_ins : Try.prog.cellsOf 145 = 8 := by kernel_rfl
theorem rd_ins {d : Nat} {ss : List SV} (r : Rd Try.prog (d + 3) 145 ss) : ∃ x : InsD, ss = x.cells ∧ (ol x.args).length ≤ 2 ^ 47 := by
  obtain ⟨hl, h⟩ := rd_st (P := Try.prog) tk_ins r
  rw [len_ins] at hl
  obtain ⟨a, b, c, e, f, g, i, j, rfl⟩ := list_8 hl
  obtain ⟨x0, h0⟩ := rd_int tk_op (h (143, 0, 1) (by simp))
  obtain ⟨x1, h1⟩ := rd_int tk_int (h (3, 1, 1) (by simp))
  obtain ⟨x2, h2⟩ := rd_int tk_int (h (3, 2, 1) (by simp))
  obtain ⟨x3, h3⟩ := rd_int tk_int (h (3, 3, 1) (by simp))
  obtain ⟨x4, h4⟩ := rd_int tk_int (h (3, 4, 1) (by simp))
  obtain ⟨x5, h5⟩ := rd_int tk_int (h (3, 5, 1) (by simp))
  obtain ⟨x6, h6, h6'⟩ := rd_ints (h (22, 6, 1) (by simp))
  obtain ⟨x7, h7⟩ := rd_int tk_int (h (3, 7, 1) (by simp))
  simp at h0 h1 h2 h3 h4 h5 h6 h7
  exact ⟨⟨x0, x1, x2, x3, x4, x5, x6, x7⟩, by simp [InsD.cells, h0, h1, h2, h3, h4, h5, h6, h7], h6'⟩
theorem tk_block : tk Try.prog 115 = .st [(113, 0, 1), (112, 1, 4)] := by kernel_rfl
theorem tk_inss : tk Try.prog 113 = .sl 145 8 := by kernel_rfl
theorem len_block : Try.prog.cellsOf 115 = 5 := by kernel_rfl
theorem rd_block {d : Nat} {ss : List SV} (r : Rd Try.prog (d + 5) 115 ss) : ∃ x : BlkD, ss = x.cells ∧ insWithin (2 ^ 47) (ol x.ins) := by
  obtain ⟨hl, h⟩ := rd_st (P := Try.prog) tk_block r
  rw [len_block] at hl
  obtain ⟨a, b, c, e, f, rfl⟩ := list_5 hl
  obtain ⟨o, h1, h2, h3⟩ := rd_sl (P := Try.prog) (enc := InsD.cells) (Q := fun x => (ol x.args).length ≤ 2 ^ 47) tk_inss (fun l _ r => rd_ins (d := d) r) (h (113, 0, 1) (by simp))
  obtain ⟨t, h4⟩ := rd_term (h (112, 1, 4) (by simp))
  simp at h1
  simp [TermD.cells] at h4
  exact ⟨⟨o, t⟩, by simp [BlkD.cells, insV, h1, h4], h2, h3⟩
theorem tk_func : tk Try.prog 25 = .st [(22, 0, 1), (23, 1, 1)] := by kernel_rfl
theorem tk_blocks : tk Try.prog 23 = .sl 115 5 := by kernel_rfl
theorem len_func : Try.prog.cellsOf 25 = 2 := by kernel_rfl
theorem rd_func {d : Nat} {ss : List SV} (r : Rd Try.prog (d + 7) 25 ss) : ∃ f : FuncD, ss = f.cells ∧ f.within (2 ^ 47) := by
  obtain ⟨hl, h⟩ := rd_st (P := Try.prog) tk_func r
  rw [len_func] at hl
  obtain ⟨a, b, rfl⟩ := list_2 hl
  obtain ⟨o, h1, h2⟩ := rd_ints (h (22, 0, 1) (by simp))
  obtain ⟨p, h3, h4, h5⟩ := rd_sl (P := Try.prog) (enc := BlkD.cells) (Q := fun x => insWithin (2 ^ 47) (ol x.ins)) tk_blocks (fun l _ r => rd_block (d := d) r) (h (23, 1, 1) (by simp))
  simp at h1 h3
  exact ⟨⟨o, p⟩, by simp [FuncD.cells, blksV, h1, h3], h2, h4, h5⟩
theorem tk_tile : tk Try.prog 53 = .st [(51, 0, 1), (3, 1, 1), (22, 2, 1)] := by kernel_rfl
theorem tk_tkind : tk Try.prog 51 = .i .i64 := by kernel_rfl
theorem tk_tiles : tk Try.prog 26 = .sl 53 3 := by kernel_rfl
theorem len_tile : Try.prog.cellsOf 53 = 3 := by kernel_rfl
theorem rd_tile {d : Nat} {ss : List SV} (r : Rd Try.prog (d + 3) 53 ss) : ∃ x : TileD, ss = x.cells ∧ (ol x.blocks).length ≤ 2 ^ 47 := by
  obtain ⟨hl, h⟩ := rd_st (P := Try.prog) tk_tile r
  rw [len_tile] at hl
  obtain ⟨a, b, c, rfl⟩ := list_3 hl
  obtain ⟨x0, h0⟩ := rd_int tk_tkind (h (51, 0, 1) (by simp))
  obtain ⟨x1, h1⟩ := rd_int tk_int (h (3, 1, 1) (by simp))
  obtain ⟨x2, h2, h2'⟩ := rd_ints (h (22, 2, 1) (by simp))
  simp at h0 h1 h2
  exact ⟨⟨x0, x1, x2⟩, by simp [TileD.cells, h0, h1, h2], h2'⟩
theorem rd_tiles {d : Nat} {ss : List SV} (r : Rd Try.prog (d + 4) 26 ss) : ∃ o : Option (List TileD), ss = [tilesV o] ∧ tilesWithin (2 ^ 47) (ol o) := by
  obtain ⟨o, h1, h2, h3⟩ := rd_sl (P := Try.prog) (enc := TileD.cells) (Q := fun x => (ol x.blocks).length ≤ 2 ^ 47) tk_tiles (fun l _ r => rd_tile (d := d) r) r
  exact ⟨o, h1, h2, h3⟩
theorem st_agg {d t : Nat} {l : List (Nat × Nat × Nat)} {s : SV} (h : tk Try.prog t = .st l) (r : RdV Try.prog d t s) : ∃ ss, s = .agg ss ∧ Rd Try.prog d t ss := by
  unfold tk at h
  unfold RdV at r
  split at h
  all_goals first | (cases h; done) | skip
  rename_i fs hu
  rw [hu] at r
  exact r
theorem sl_one {d t e n : Nat} {s : SV} (h : tk Try.prog t = .sl e n) (r : RdV Try.prog d t s) : Rd Try.prog d t [s] := by
  unfold tk at h
  unfold RdV at r
  split at h
  all_goals first | (cases h; done) | skip
  rename_i e' hu
  rw [hu] at r
  exact r
theorem rdA_three {P : Program} {d t1 t2 t3 : Nat} {ss : List SV} (h : RdA P d [t1, t2, t3] ss) : ∃ s1 s2 s3, ss = [s1, s2, s3] ∧ RdV P d t1 s1 ∧ RdV P d t2 s2 ∧ RdV P d t3 s3 := by
  cases ss with
  | nil => exact h.elim
  | cons s1 ss =>
    cases ss with
    | nil => exact h.2.elim
    | cons s2 ss =>
      cases ss with
      | nil => exact h.2.2.elim
      | cons s3 ss =>
        cases ss with
        | nil => exact ⟨s1, s2, s3, rfl, h.1, h.2.1, h.2.2.1⟩
        | cons s4 ss => exact h.2.2.2.elim
theorem rdA_two {P : Program} {d t1 t2 : Nat} {ss : List SV} (h : RdA P d [t1, t2] ss) : ∃ s1 s2, ss = [s1, s2] ∧ RdV P d t1 s1 ∧ RdV P d t2 s2 := by
  cases ss with
  | nil => exact h.elim
  | cons s1 ss =>
    cases ss with
    | nil => exact h.2.elim
    | cons s2 ss =>
      cases ss with
      | nil => exact ⟨s1, s2, rfl, h.1, h.2.1⟩
      | cons s3 ss => exact h.2.2.elim
theorem i_one {d t : Nat} {k : IntKind} {s : SV} (h : tk Try.prog t = .i k) (r : RdV Try.prog d t s) : Rd Try.prog d t [s] := by
  unfold tk at h
  unfold RdV at r
  split at h
  all_goals first | (cases h; done) | skip
  rename_i e' hu
  rw [hu] at r
  exact r
theorem arg_int {s : SV} (r : RdV Try.prog 12 3 s) : ∃ n : Int, s = .sc (.int .i64 n) := by
  obtain ⟨n, h⟩ := rd_int (d := 11) tk_int (i_one tk_int r)
  simp at h
  exact ⟨n, h⟩
theorem arg_func {s : SV} (r : RdV Try.prog 12 25 s) : ∃ f : FuncD, s = f.sv ∧ f.within (2 ^ 47) := by
  obtain ⟨ss, rfl, h⟩ := st_agg tk_func r
  obtain ⟨f, rfl, h2⟩ := rd_func (d := 5) h
  exact ⟨f, rfl, h2⟩
theorem arg_tiles {s : SV} (r : RdV Try.prog 12 26 s) : ∃ o : Option (List TileD), s = tilesV o ∧ tilesWithin (2 ^ 47) (ol o) := by
  obtain ⟨o, h1, h2⟩ := rd_tiles (d := 8) (sl_one tk_tiles r)
  simp at h1
  exact ⟨o, h1, h2⟩
end Go.Proofs.Ytojjhcgbbmknmaa.Sh
