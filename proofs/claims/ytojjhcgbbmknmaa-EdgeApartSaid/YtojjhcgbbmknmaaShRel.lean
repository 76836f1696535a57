/- The relation between the shadow and the machine: values, states, and what a step of the shadow asks of the machine. -/
import Derived.RangeFuncRecord
import Derived.OrdersIn
import Derived.ArgAppend
import Derived.Below
import Derived.Test.YtojjhcgbbmknmaaShCore
namespace Go.Proofs.Ytojjhcgbbmknmaa.Sh
set_option linter.unusedSimpArgs false
set_option linter.unusedVariables false
open Go Go.RowKit

/-- Where a block of the shadow lies: the machine's block, its first cell there, how many cells that block has. -/
structure Pl where
  blk : Nat
  base : Nat
  size : Nat
/-- Where the shadow's blocks lie, and which cells hold what for good. -/
structure Rho where
  pl : Nat → Option Pl
  fz : Addr → Value → Prop
instance : CoeFun Rho (fun _ => Nat → Option Pl) := ⟨Rho.pl⟩

def Sc.val : Sc → Value
  | .int k n => .int k n
  | .bool b => .bool b
  | .str s => .string s
  | .nilsl => .slice none 0 0
  | .nilptr => .pointer none
  | .nilmap => .map none
  | .nilfn => .nilFunc
  | .nilif => .nilIface
  | .undef => Go.undef

/-- Cells that stay: of the first world, or held for good. -/
def Lies (w0 : World) (ρ : Rho) (a : Addr) (vs : List Value) : Prop :=
  (vs ≠ [] → a.spot = none) ∧ ∀ i v, vs[i]? = some v → w0.cell? ⟨a.block, a.off + i, none⟩ = some v ∨ ρ.fz ⟨a.block, a.off + i, none⟩ v

mutual
def VR (w0 : World) (ρ : Rho) : SV → Value → Prop
  | .sc s, u => u = s.val
  | .agg cs, u => ∃ a : Array Value, u = .agg a ∧ VRs w0 ρ cs a.toList
  | .tup cs, u => ∃ a : Array Value, u = .tuple a ∧ VRs w0 ρ cs a.toList
  | .sl id off len sz, u => ∃ p cap o, ρ id = some p ∧ u = .slice (some ⟨p.blk, o, none⟩) len cap ∧ (o = p.base + off ∨ cap = 0) ∧ len ≤ cap ∧ 0 < sz ∧ (0 < cap → p.base + off + cap * sz ≤ p.size)
  | .lst len sz cs, u => ∃ a cap vs, u = .slice (some a) len cap ∧ len ≤ cap ∧ VRs w0 ρ cs vs ∧ Lies w0 ρ a vs ∧ cs.length = len * sz ∧ 0 < sz
  | .ptr id off, u => ∃ p, ρ id = some p ∧ u = .pointer (some ⟨p.blk, p.base + off, none⟩)
  | .iptr cs off, u => ∃ a vs, u = .pointer (some ⟨a.block, a.off + off, none⟩) ∧ VRs w0 ρ cs vs ∧ Lies w0 ρ a vs
  | .fn f first cap, u => ∃ a b : Array Value, u = .func (.func f) a b ∧ VRs w0 ρ first a.toList ∧ VRs w0 ρ cap b.toList
  | .yld l, u => ∃ p, ρ l = some p ∧ u = .func (.yield p.blk) #[] #[]
  | .mp id, u => ∃ p, ρ id = some p ∧ u = .map (some p.blk)
def VRs (w0 : World) (ρ : Rho) : List SV → List Value → Prop
  | [], vs => vs = []
  | c :: cs, vs => ∃ v r, vs = v :: r ∧ VR w0 ρ c v ∧ VRs w0 ρ cs r
end

structure Ext (ρ ρ' : Rho) : Prop where
  pl : ∀ i p, ρ i = some p → ρ' i = some p
  fz : ∀ a v, ρ.fz a v → ρ'.fz a v
instance (ρ ρ' : Rho) : CoeFun (Ext ρ ρ') (fun _ => ∀ i p, ρ i = some p → ρ' i = some p) := ⟨Ext.pl⟩
theorem Ext.refl (ρ : Rho) : Ext ρ ρ := ⟨fun _ _ h => h, fun _ _ h => h⟩
theorem Ext.trans {a b c : Rho} (h : Ext a b) (k : Ext b c) : Ext a c := ⟨fun i p e => k i p (h i p e), fun a v e => k.fz a v (h.fz a v e)⟩
theorem Lies.mono {w0 : World} {ρ ρ' : Rho} {a : Addr} {vs : List Value} (h : Ext ρ ρ') (k : Lies w0 ρ a vs) : Lies w0 ρ' a vs := ⟨k.1, fun i v e => (k.2 i v e).imp id (h.fz _ _)⟩

section
variable {w0 : World} {ρ ρ' : Rho}
mutual
theorem VR.mono (h : Ext ρ ρ') : ∀ {s : SV} {u : Value}, VR w0 ρ s u → VR w0 ρ' s u
  | .sc _, _, k => by simpa [VR] using k
  | .agg cs, _, k => by
    simp only [VR] at k ⊢
    obtain ⟨a, e, k⟩ := k
    exact ⟨a, e, VRs.mono h k⟩
  | .tup cs, _, k => by
    simp only [VR] at k ⊢
    obtain ⟨a, e, k⟩ := k
    exact ⟨a, e, VRs.mono h k⟩
  | .sl .., _, k => by
    simp only [VR] at k ⊢
    obtain ⟨p, cap, o, k1, k⟩ := k
    exact ⟨p, cap, o, h _ _ k1, k⟩
  | .lst _ _ cs, _, k => by
    simp only [VR] at k ⊢
    obtain ⟨a, cap, vs, k1, k2, k3, k4, k⟩ := k
    exact ⟨a, cap, vs, k1, k2, VRs.mono h k3, k4.mono h, k⟩
  | .ptr .., _, k => by
    simp only [VR] at k ⊢
    obtain ⟨p, k1, k⟩ := k
    exact ⟨p, h _ _ k1, k⟩
  | .iptr cs _, _, k => by
    simp only [VR] at k ⊢
    obtain ⟨a, vs, k1, k3, k⟩ := k
    exact ⟨a, vs, k1, VRs.mono h k3, k.mono h⟩
  | .fn _ a b, _, k => by
    simp only [VR] at k ⊢
    obtain ⟨x, y, k1, k2, k3⟩ := k
    exact ⟨x, y, k1, VRs.mono h k2, VRs.mono h k3⟩
  | .yld _, _, k => by
    simp only [VR] at k ⊢
    obtain ⟨p, k1, k⟩ := k
    exact ⟨p, h _ _ k1, k⟩
  | .mp _, _, k => by
    simp only [VR] at k ⊢
    obtain ⟨p, k1, k⟩ := k
    exact ⟨p, h _ _ k1, k⟩
theorem VRs.mono (h : Ext ρ ρ') : ∀ {s : List SV} {u : List Value}, VRs w0 ρ s u → VRs w0 ρ' s u
  | [], _, k => by simpa [VRs] using k
  | c :: cs, _, k => by
    simp only [VRs] at k ⊢
    obtain ⟨v, r, e, k1, k2⟩ := k
    exact ⟨v, r, e, VR.mono h k1, VRs.mono h k2⟩
end

theorem VRs.len : ∀ {s : List SV} {u : List Value}, VRs w0 ρ s u → u.length = s.length
  | [], _, k => by simp only [VRs] at k; simp [k]
  | c :: cs, _, k => by
    simp only [VRs] at k
    obtain ⟨v, r, rfl, _, k2⟩ := k
    simp [VRs.len k2]
theorem VRs.nil : VRs w0 ρ [] [] := by simp [VRs]
theorem VRs.cons {c : SV} {v : Value} {cs : List SV} {vs : List Value} (h : VR w0 ρ c v) (k : VRs w0 ρ cs vs) : VRs w0 ρ (c :: cs) (v :: vs) := by
  simp only [VRs]; exact ⟨v, vs, rfl, h, k⟩
theorem VRs.append : ∀ {s s' : List SV} {u u' : List Value}, VRs w0 ρ s u → VRs w0 ρ s' u' → VRs w0 ρ (s ++ s') (u ++ u')
  | [], _, _, _, k, k' => by simp only [VRs] at k; subst k; simpa using k'
  | c :: cs, _, _, _, k, k' => by
    simp only [VRs] at k
    obtain ⟨v, r, rfl, k1, k2⟩ := k
    exact VRs.cons k1 (VRs.append k2 k')
theorem VRs.take : ∀ {s : List SV} {u : List Value} (n : Nat), VRs w0 ρ s u → VRs w0 ρ (s.take n) (u.take n)
  | [], _, n, k => by simp only [VRs] at k; subst k; simp [VRs]
  | c :: cs, _, 0, k => by simp [VRs]
  | c :: cs, _, n + 1, k => by
    simp only [VRs] at k
    obtain ⟨v, r, rfl, k1, k2⟩ := k
    exact VRs.cons k1 (VRs.take n k2)
theorem VRs.drop : ∀ {s : List SV} {u : List Value} (n : Nat), VRs w0 ρ s u → VRs w0 ρ (s.drop n) (u.drop n)
  | [], _, n, k => by simp only [VRs] at k; subst k; simp [VRs]
  | c :: cs, _, 0, k => by simpa using k
  | c :: cs, _, n + 1, k => by
    simp only [VRs] at k
    obtain ⟨v, r, rfl, k1, k2⟩ := k
    simpa using VRs.drop n k2
theorem VRs.get : ∀ {s : List SV} {u : List Value} {i : Nat} {x : SV}, VRs w0 ρ s u → s[i]? = some x → ∃ v, u[i]? = some v ∧ VR w0 ρ x v
  | [], _, i, x, _, h => by simp at h
  | c :: cs, _, 0, x, k, h => by
    simp only [VRs] at k
    obtain ⟨v, r, rfl, k1, k2⟩ := k
    simp at h; subst h
    exact ⟨v, by simp, k1⟩
  | c :: cs, _, i + 1, x, k, h => by
    simp only [VRs] at k
    obtain ⟨v, r, rfl, k1, k2⟩ := k
    simp at h
    obtain ⟨v', h1, h2⟩ := VRs.get k2 h
    exact ⟨v', by simpa using h1, h2⟩
theorem VRs.one {x : SV} {u : List Value} (k : VRs w0 ρ [x] u) : ∃ v, u = [v] ∧ VR w0 ρ x v := by
  simp only [VRs] at k
  obtain ⟨v, r, rfl, k1, rfl⟩ := k
  exact ⟨v, rfl, k1⟩
theorem VRs.flatten_replicate {zs : List SV} {us : List Value} (h : VRs w0 ρ zs us) : ∀ n : Nat, VRs w0 ρ (List.replicate n zs).flatten (List.replicate n us).flatten
  | 0 => by simp [VRs]
  | n + 1 => by simpa [List.replicate_succ] using VRs.append h (VRs.flatten_replicate h n)

theorem VR.one {s : SV} {u : Value} (h : VR w0 ρ s u) (k : s.one = true) : u.oneCell' = true := by
  cases s with
  | sc s => simp only [VR] at h; subst h; cases s <;> simp_all [Sc.val, Value.oneCell', SV.one]
  | agg => simp [SV.one] at k
  | tup => simp [SV.one] at k
  | sl => simp only [VR] at h; obtain ⟨p, c, o, _, rfl, _⟩ := h; rfl
  | lst => simp only [VR] at h; obtain ⟨p, c, o, rfl, _⟩ := h; rfl
  | ptr => simp only [VR] at h; obtain ⟨p, _, rfl⟩ := h; rfl
  | iptr => simp only [VR] at h; obtain ⟨p, c, rfl, _⟩ := h; rfl
  | fn => simp only [VR] at h; obtain ⟨p, c, rfl, _⟩ := h; rfl
  | yld => simp only [VR] at h; obtain ⟨p, _, rfl⟩ := h; rfl
  | mp => simp only [VR] at h; obtain ⟨p, _, rfl⟩ := h; rfl
end

/-- All are of one cell, and so is all that lies in lists and aggregates among them. -/
def allOne (cs : List SV) : Prop := ∀ c ∈ cs, c.one = true

mutual
/-- Cells within values are cells. -/
def SV.wf : SV → Prop
  | .agg cs => allOne cs ∧ wfs cs
  | .tup cs => wfs cs
  | .lst _ _ cs => allOne cs ∧ wfs cs
  | .iptr cs _ => allOne cs ∧ wfs cs
  | .fn _ a b => wfs a ∧ wfs b
  | _ => True
def wfs : List SV → Prop
  | [] => True
  | c :: cs => c.wf ∧ wfs cs
end
theorem wfs_iff : ∀ {l : List SV}, wfs l ↔ ∀ c ∈ l, c.wf
  | [] => by simp [wfs]
  | c :: l => by simp [wfs, wfs_iff (l := l)]

/-- A value and what it is in the machine. -/
def OK (w0 : World) (ρ : Rho) (s : SV) (u : Value) : Prop := VR w0 ρ s u ∧ s.wf
def OKs (w0 : World) (ρ : Rho) (s : List SV) (u : List Value) : Prop := VRs w0 ρ s u ∧ wfs s
theorem OK.mono {w0 : World} {ρ ρ' : Rho} {s : SV} {u : Value} (h : Ext ρ ρ') (k : OK w0 ρ s u) : OK w0 ρ' s u := ⟨k.1.mono h, k.2⟩
theorem OKs.mono {w0 : World} {ρ ρ' : Rho} {s : List SV} {u : List Value} (h : Ext ρ ρ') (k : OKs w0 ρ s u) : OKs w0 ρ' s u := ⟨k.1.mono h, k.2⟩

end Go.Proofs.Ytojjhcgbbmknmaa.Sh
