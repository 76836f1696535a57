/- The library's sort lies in the program as the kit's contract knows it (written by genlay.py). -/
import Derived.Test.YtojjhcgbbmknmaaShSort
import Derived.Test.YtojjhcgbbmknmaaX6
import Derived.Test.YtojjhcgbbmknmaaShFnsOk
import Derived.Test.YtojjhcgbbmknmaaRows
namespace Go.Proofs.Ytojjhcgbbmknmaa.Sh
open Go Go.Proofs Go.Shelf
set_option maxRecDepth 100000
def sortRen : Ren :=
{
  f := fun x =>
    match x with
    | 189 => 48
    | 125 => 80
    | 257 => 79
    | 128 => 108
    | 129 => 109
    | 294 => 99
    | 295 => 100
    | 296 => 101
    | 297 => 102
    | 298 => 103
    | 299 => 104
    | 216 => 105
    | 300 => 106
    | 301 => 107
    | 328 => 117
    | 329 => 118
    | 330 => 119
    | 331 => 120
    | 332 => 121
    | 215 => 86
    | 343 => 123
    | n => n,
  t := fun x =>
    match x with
    | 28 => 22
    | 3 => 3
    | 46 => 134
    | 0 => 0
    | 51 => 162
    | 53 => 164
    | 4 => 4
    | 183 => 154
    | 182 => 153
    | 131 => 159
    | 5 => 5
    | 9 => 9
    | 218 => 173
    | 222 => 177
    | 228 => 179
    | 229 => 85
    | n => n,
  g := fun x => x }
theorem sortLays : Lays.n189 Try.prog sortRen :=
{ mixed := Eq.refl true, f125 := Eq.trans Try.func80 (congrArg some (Eq.refl (Body.n125 sortRen))),
  f128 := Eq.trans Try.func108 (congrArg some (Eq.refl (Body.n128 sortRen))),
  f129 := Eq.trans Try.func109 (congrArg some (Eq.refl (Body.n129 sortRen))),
  f189 := Eq.trans Try.func48 (congrArg some (Eq.refl (Body.n189 sortRen))),
  f215 := Eq.trans Try.func86 (congrArg some (Eq.refl (Body.n215 sortRen))),
  f216 := Eq.trans Try.func105 (congrArg some (Eq.refl (Body.n216 sortRen))),
  f257 := Eq.trans Try.func79 (congrArg some (Eq.refl (Body.n257 sortRen))),
  f294 := Eq.trans Try.func99 (congrArg some (Eq.refl (Body.n294 sortRen))),
  f295 := Eq.trans Try.func100 (congrArg some (Eq.refl (Body.n295 sortRen))),
  f296 := Eq.trans Try.func101 (congrArg some (Eq.refl (Body.n296 sortRen))),
  f297 := Eq.trans Try.func102 (congrArg some (Eq.refl (Body.n297 sortRen))),
  f298 := Eq.trans Try.func103 (congrArg some (Eq.refl (Body.n298 sortRen))),
  f299 := Eq.trans Try.func104 (congrArg some (Eq.refl (Body.n299 sortRen))),
  f300 := Eq.trans Try.func106 (congrArg some (Eq.refl (Body.n300 sortRen))),
  f301 := Eq.trans Try.func107 (congrArg some (Eq.refl (Body.n301 sortRen))),
  f328 := Eq.trans Try.func117 (congrArg some (Eq.refl (Body.n328 sortRen))),
  f329 := Eq.trans Try.func118 (congrArg some (Eq.refl (Body.n329 sortRen))),
  f330 := Eq.trans Try.func119 (congrArg some (Eq.refl (Body.n330 sortRen))),
  f331 := Eq.trans Try.func120 (congrArg some (Eq.refl (Body.n331 sortRen))),
  f332 := Eq.trans Try.func121 (congrArg some (Eq.refl (Body.n332 sortRen))),
  f343 := Eq.trans Try.func123 (congrArg some (Eq.refl (Body.n343 sortRen))), t0 := Try.underlying0,
  a0 := Try.isAgg0, z0 := Try.sizeOf0, v0 := Try.zeroValue0, t3 := Try.underlying3, a3 := Try.isAgg3, z3 := Try.sizeOf3,
  v3 := Try.zeroValue3, t4 := Try.underlying4, a4 := Try.isAgg4, z4 := Try.sizeOf4, v4 := Try.zeroValue4,
  t5 := Try.underlying5, a5 := Try.isAgg5, z5 := Try.sizeOf5, v5 := Try.zeroValue5, t9 := Try.underlying9,
  a9 := Try.isAgg9, z9 := Try.sizeOf9, v9 := Try.zeroValue9, t28 := Try.underlying22, a28 := Try.isAgg22,
  z28 := Try.sizeOf22, v28 := Try.zeroValue22, t46 := Try.underlying134, a46 := Try.isAgg134, z46 := Try.sizeOf134,
  v46 := Try.zeroValue134, t51 := Try.underlying162, a51 := Try.isAgg162, z51 := Try.sizeOf162, v51 := Try.zeroValue162,
  t53 := Try.underlying164, a53 := Try.isAgg164, z53 := Try.sizeOf164, v53 := Try.zeroValue164,
  t131 := Try.underlying159, a131 := Try.isAgg159, z131 := Try.sizeOf159, v131 := Try.zeroValue159,
  t182 := Try.underlying153, a182 := Try.isAgg153, z182 := Try.sizeOf153, v182 := Try.zeroValue153,
  t183 := Try.underlying154, a183 := Try.isAgg154, z183 := Try.sizeOf154, v183 := Try.zeroValue154,
  t218 := Try.underlying173, a218 := Try.isAgg173, z218 := Try.sizeOf173, v218 := Try.zeroValue173,
  t222 := Try.underlying177, a222 := Try.isAgg177, z222 := Try.sizeOf177, v222 := Try.zeroValue177,
  t228 := Try.underlying179, a228 := Try.isAgg179, z228 := Try.sizeOf179, v228 := Try.zeroValue179,
  t229 := Try.underlying85, a229 := Try.isAgg85, z229 := Try.sizeOf85, v229 := Try.zeroValue85 }
theorem base_ok : BaseOK Try.prog BS := by
  have hm : Try.prog.follows .mixedOrders = true := by kernel_rfl
  intro f g h
  unfold BS at h
  cases hf : Nat.beq f 48 with
  | true =>
    rw [hf] at h
    cases h
    cases Nat.eq_of_beq_eq_true hf
    refine ⟨fun vals w => ?_, fun W args σ v σ' h ro m ρ w vals sr ha => ?_⟩
    · obtain ⟨F, h2, h3⟩ := FT_ok 48 F48 rfl
      exact callFunc_ok h2 h3 vals w
    · exact sort_ok (F := 48) (fun b off cap zs w hH hb hl => calls_of_every_depth fun D => AnyS.slices_Sort_int_alone sortLays D b off cap zs w hH hb hl)
        (fun p cap w => calls_of_every_depth fun D => AnyS.slices_Sort_int_none_alone sortLays D p cap w) h sr ha
  | false => rw [hf] at h; cases h
end Go.Proofs.Ytojjhcgbbmknmaa.Sh
