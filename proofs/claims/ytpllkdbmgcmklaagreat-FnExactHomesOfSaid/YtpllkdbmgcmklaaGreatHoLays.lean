/- A part of the proof of FnExactHomesOfSaid. -/
import Derived.Test.YtpllkdbmgcmklaaGreatChecked
import Derived.Test.YtpllkdbmgcmklaaGreatWkAd
/- The library functions that sort and compact, at this program. -/
namespace Go.Proofs
open Go Go.Shelf
def Tryz.lays189_ren : Ren := ⟨fun | 189 => 100 | 125 => 147 | 257 => 146 | 128 => 218 | 129 => 219 | 294 => 209 | 295 => 210 | 296 => 211 | 297 => 212 | 298 => 213 | 299 => 214 | 216 => 215 | 300 => 216 | 301 => 217 | 328 => 271 | 329 => 272 | 330 => 273 | 331 => 274 | 332 => 275 | 215 => 276 | 343 => 305 | n => n, fun | 28 => 37 | 3 => 3 | 46 => 159 | 0 => 0 | 51 => 207 | 53 => 209 | 4 => 4 | 183 => 200 | 182 => 199 | 131 => 204 | 5 => 5 | 9 => 9 | 218 => 245 | 222 => 129 | 228 => 273 | 229 => 232 | n => n, fun | n => n⟩
theorem Tryz.lays189 : Lays.n189 Tryz.prog Tryz.lays189_ren where
  mixed := by kernel_rfl
  f125 := Tryz.func147.trans (congrArg some (by kernel_rfl))
  f128 := Tryz.func218.trans (congrArg some (by kernel_rfl))
  f129 := Tryz.func219.trans (congrArg some (by kernel_rfl))
  f189 := Tryz.func100.trans (congrArg some (by kernel_rfl))
  f215 := Tryz.func276.trans (congrArg some (by kernel_rfl))
  f216 := Tryz.func215.trans (congrArg some (by kernel_rfl))
  f257 := Tryz.func146.trans (congrArg some (by kernel_rfl))
  f294 := Tryz.func209.trans (congrArg some (by kernel_rfl))
  f295 := Tryz.func210.trans (congrArg some (by kernel_rfl))
  f296 := Tryz.func211.trans (congrArg some (by kernel_rfl))
  f297 := Tryz.func212.trans (congrArg some (by kernel_rfl))
  f298 := Tryz.func213.trans (congrArg some (by kernel_rfl))
  f299 := Tryz.func214.trans (congrArg some (by kernel_rfl))
  f300 := Tryz.func216.trans (congrArg some (by kernel_rfl))
  f301 := Tryz.func217.trans (congrArg some (by kernel_rfl))
  f328 := Tryz.func271.trans (congrArg some (by kernel_rfl))
  f329 := Tryz.func272.trans (congrArg some (by kernel_rfl))
  f330 := Tryz.func273.trans (congrArg some (by kernel_rfl))
  f331 := Tryz.func274.trans (congrArg some (by kernel_rfl))
  f332 := Tryz.func275.trans (congrArg some (by kernel_rfl))
  f343 := Tryz.func305.trans (congrArg some (by kernel_rfl))
  t0 := Tryz.underlying0
  a0 := Tryz.isAgg0
  z0 := Tryz.sizeOf0
  v0 := Tryz.zeroValue0
  t3 := Tryz.underlying3
  a3 := Tryz.isAgg3
  z3 := Tryz.sizeOf3
  v3 := Tryz.zeroValue3
  t4 := Tryz.underlying4
  a4 := Tryz.isAgg4
  z4 := Tryz.sizeOf4
  v4 := Tryz.zeroValue4
  t5 := Tryz.underlying5
  a5 := Tryz.isAgg5
  z5 := Tryz.sizeOf5
  v5 := Tryz.zeroValue5
  t9 := Tryz.underlying9
  a9 := Tryz.isAgg9
  z9 := Tryz.sizeOf9
  v9 := Tryz.zeroValue9
  t28 := Tryz.underlying37
  a28 := Tryz.isAgg37
  z28 := Tryz.sizeOf37
  v28 := Tryz.zeroValue37
  t46 := Tryz.underlying159
  a46 := Tryz.isAgg159
  z46 := Tryz.sizeOf159
  v46 := Tryz.zeroValue159
  t51 := Tryz.underlying207
  a51 := Tryz.isAgg207
  z51 := Tryz.sizeOf207
  v51 := Tryz.zeroValue207
  t53 := Tryz.underlying209
  a53 := Tryz.isAgg209
  z53 := Tryz.sizeOf209
  v53 := Tryz.zeroValue209
  t131 := Tryz.underlying204
  a131 := Tryz.isAgg204
  z131 := Tryz.sizeOf204
  v131 := Tryz.zeroValue204
  t182 := Tryz.underlying199
  a182 := Tryz.isAgg199
  z182 := Tryz.sizeOf199
  v182 := Tryz.zeroValue199
  t183 := Tryz.underlying200
  a183 := Tryz.isAgg200
  z183 := Tryz.sizeOf200
  v183 := Tryz.zeroValue200
  t218 := Tryz.underlying245
  a218 := Tryz.isAgg245
  z218 := Tryz.sizeOf245
  v218 := Tryz.zeroValue245
  t222 := Tryz.underlying129
  a222 := Tryz.isAgg129
  z222 := Tryz.sizeOf129
  v222 := Tryz.zeroValue129
  t228 := Tryz.underlying273
  a228 := Tryz.isAgg273
  z228 := Tryz.sizeOf273
  v228 := Tryz.zeroValue273
  t229 := Tryz.underlying232
  a229 := Tryz.isAgg232
  z229 := Tryz.sizeOf232
  v229 := Tryz.zeroValue232
def Tryz.lays2_20_ren : Ren := ⟨fun | 20 => 182 | n => n, fun | 22 => 37 | 3 => 3 | 4 => 4 | 0 => 0 | n => n, fun | n => n⟩
theorem Tryz.lays2_20 : Lays2.n20 Tryz.prog Tryz.lays2_20_ren where
  mixed := by kernel_rfl
  f20 := Tryz.func182.trans (congrArg some (by kernel_rfl))
  t0 := Tryz.underlying0
  a0 := Tryz.isAgg0
  z0 := Tryz.sizeOf0
  v0 := Tryz.zeroValue0
  t3 := Tryz.underlying3
  a3 := Tryz.isAgg3
  z3 := Tryz.sizeOf3
  v3 := Tryz.zeroValue3
  t4 := Tryz.underlying4
  a4 := Tryz.isAgg4
  z4 := Tryz.sizeOf4
  v4 := Tryz.zeroValue4
  t22 := Tryz.underlying37
  a22 := Tryz.isAgg37
  z22 := Tryz.sizeOf37
  v22 := Tryz.zeroValue37
  i3 := by kernel_rfl
end Go.Proofs
