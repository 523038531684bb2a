/- A part of the proof of FnExactOrderUnitSaid. -/
import Derived.Test.YtjkdjdicpfjifaaGreatChecked
import Derived.Test.YtjkdjdicpfjifaaGreatWkAd
/- The library functions that sort and compact, at this program. -/
namespace Go.Proofs
open Go Go.Shelf
def Tryz.lays189_ren : Ren := ⟨fun | 189 => 114 | 125 => 165 | 257 => 164 | 128 => 208 | 129 => 209 | 294 => 199 | 295 => 200 | 296 => 201 | 297 => 202 | 298 => 203 | 299 => 204 | 216 => 205 | 300 => 206 | 301 => 207 | 328 => 228 | 329 => 229 | 330 => 230 | 331 => 231 | 332 => 232 | 215 => 233 | 343 => 237 | n => n, fun | 28 => 47 | 3 => 3 | 46 => 160 | 0 => 0 | 51 => 196 | 53 => 198 | 4 => 4 | 183 => 190 | 182 => 189 | 131 => 73 | 5 => 5 | 9 => 9 | 218 => 213 | 222 => 217 | 228 => 222 | 229 => 219 | n => n, fun | n => n⟩
def Tryz.lays2_20_ren : Ren := ⟨fun | 20 => 115 | n => n, fun | 22 => 47 | 3 => 3 | 4 => 4 | 0 => 0 | n => n, fun | n => n⟩
end Go.Proofs
