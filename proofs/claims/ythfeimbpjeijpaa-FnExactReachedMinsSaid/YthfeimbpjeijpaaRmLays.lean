/- A part of the proof of FnExactReachedMinsSaid. -/
import Derived.Test.YthfeimbpjeijpaaChecked
import Derived.Test.YthfeimbpjeijpaaWkAd
/- The library functions that sort and compact, at this program. -/
namespace Go.Proofs
open Go Go.Shelf
def Try.lays189_ren : Ren := ⟨fun | 189 => 74 | 125 => 104 | 257 => 103 | 128 => 137 | 129 => 138 | 294 => 128 | 295 => 129 | 296 => 130 | 297 => 131 | 298 => 132 | 299 => 133 | 216 => 134 | 300 => 135 | 301 => 136 | 328 => 142 | 329 => 143 | 330 => 144 | 331 => 145 | 332 => 146 | 215 => 147 | 343 => 148 | n => n, fun | 28 => 26 | 3 => 3 | 46 => 147 | 0 => 0 | 51 => 168 | 53 => 170 | 4 => 4 | 183 => 161 | 182 => 160 | 131 => 125 | 5 => 5 | 9 => 9 | 218 => 172 | 222 => 124 | 228 => 177 | 229 => 152 | n => n, fun | n => n⟩
theorem Try.lays189 : Lays.n189 Try.prog Try.lays189_ren where
  mixed := by kernel_rfl
  f125 := Try.func104.trans (congrArg some (by kernel_rfl))
  f128 := Try.func137.trans (congrArg some (by kernel_rfl))
  f129 := Try.func138.trans (congrArg some (by kernel_rfl))
  f189 := Try.func74.trans (congrArg some (by kernel_rfl))
  f215 := Try.func147.trans (congrArg some (by kernel_rfl))
  f216 := Try.func134.trans (congrArg some (by kernel_rfl))
  f257 := Try.func103.trans (congrArg some (by kernel_rfl))
  f294 := Try.func128.trans (congrArg some (by kernel_rfl))
  f295 := Try.func129.trans (congrArg some (by kernel_rfl))
  f296 := Try.func130.trans (congrArg some (by kernel_rfl))
  f297 := Try.func131.trans (congrArg some (by kernel_rfl))
  f298 := Try.func132.trans (congrArg some (by kernel_rfl))
  f299 := Try.func133.trans (congrArg some (by kernel_rfl))
  f300 := Try.func135.trans (congrArg some (by kernel_rfl))
  f301 := Try.func136.trans (congrArg some (by kernel_rfl))
  f328 := Try.func142.trans (congrArg some (by kernel_rfl))
  f329 := Try.func143.trans (congrArg some (by kernel_rfl))
  f330 := Try.func144.trans (congrArg some (by kernel_rfl))
  f331 := Try.func145.trans (congrArg some (by kernel_rfl))
  f332 := Try.func146.trans (congrArg some (by kernel_rfl))
  f343 := Try.func148.trans (congrArg some (by kernel_rfl))
  t0 := Try.underlying0
  a0 := Try.isAgg0
  z0 := Try.sizeOf0
  v0 := Try.zeroValue0
  t3 := Try.underlying3
  a3 := Try.isAgg3
  z3 := Try.sizeOf3
  v3 := Try.zeroValue3
  t4 := Try.underlying4
  a4 := Try.isAgg4
  z4 := Try.sizeOf4
  v4 := Try.zeroValue4
  t5 := Try.underlying5
  a5 := Try.isAgg5
  z5 := Try.sizeOf5
  v5 := Try.zeroValue5
  t9 := Try.underlying9
  a9 := Try.isAgg9
  z9 := Try.sizeOf9
  v9 := Try.zeroValue9
  t28 := Try.underlying26
  a28 := Try.isAgg26
  z28 := Try.sizeOf26
  v28 := Try.zeroValue26
  t46 := Try.underlying147
  a46 := Try.isAgg147
  z46 := Try.sizeOf147
  v46 := Try.zeroValue147
  t51 := Try.underlying168
  a51 := Try.isAgg168
  z51 := Try.sizeOf168
  v51 := Try.zeroValue168
  t53 := Try.underlying170
  a53 := Try.isAgg170
  z53 := Try.sizeOf170
  v53 := Try.zeroValue170
  t131 := Try.underlying125
  a131 := Try.isAgg125
  z131 := Try.sizeOf125
  v131 := Try.zeroValue125
  t182 := Try.underlying160
  a182 := Try.isAgg160
  z182 := Try.sizeOf160
  v182 := Try.zeroValue160
  t183 := Try.underlying161
  a183 := Try.isAgg161
  z183 := Try.sizeOf161
  v183 := Try.zeroValue161
  t218 := Try.underlying172
  a218 := Try.isAgg172
  z218 := Try.sizeOf172
  v218 := Try.zeroValue172
  t222 := Try.underlying124
  a222 := Try.isAgg124
  z222 := Try.sizeOf124
  v222 := Try.zeroValue124
  t228 := Try.underlying177
  a228 := Try.isAgg177
  z228 := Try.sizeOf177
  v228 := Try.zeroValue177
  t229 := Try.underlying152
  a229 := Try.isAgg152
  z229 := Try.sizeOf152
  v229 := Try.zeroValue152
end Go.Proofs
