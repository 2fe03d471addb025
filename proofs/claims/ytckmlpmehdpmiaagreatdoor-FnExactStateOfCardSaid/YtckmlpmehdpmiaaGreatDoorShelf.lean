/-
  DERIVED: THE SHELF's CONTRACTS AT THIS DUMP, IN PLAIN WORDS (tools/lay-plain.mjs out of 'TryzSh0.lean', which tools/lay-shelf.mjs wrote): THE SAME DECLARATIONS UNDER THE SAME NAMES: 'import', 'namespace', 'open', 'def', 'theorem' AND NOTHING ELSE: no command of the shelf's: FOR A HAND-IN. Each laying: the table of numbers ('.._ren') and one theorem, a field a fact of the dump's own or the kernel's comparison; each contract: ONE APPLICATION.
-/
import Derived.Shelf.Strings.Builder1
import Derived.Shelf.Strings.Builder2
import Derived.Shelf.Strings.OnBuilder
import Derived.Shelf.Strings.BuilderF
import Derived.Shelf.Strconv.Atoi
import Derived.Shelf.Strconv.Itoa0
import Derived.Shelf.Strconv.Itoa1
import Derived.Shelf.LaysM
import Derived.Shelf.Strconv.Itoa2
import Derived.Shelf.Strconv.Itoa3
import Derived.Shelf.Strconv.AtoiErrFast
import Derived.Shelf.Strconv.ParseIntEmpty
import Derived.Shelf.Strconv.AtoiFail
import Derived.Shelf.Strconv.Clone
import Derived.Shelf.Strconv.SyntaxError
import Derived.Shelf.LaysC
import Derived.Shelf.Strconv.ToError
import Derived.Shelf.Strconv.Lower
import Derived.Shelf.Strconv.ParseUint10
import Derived.Shelf.Strconv.ParseUint10Empty
import Derived.Shelf.Strconv.ParseUint10Any
import Derived.Shelf.Strconv.ParseInt10
import Derived.Shelf.Strconv.AtoiLong
import Derived.Shelf.Strconv.AtoiInnerAll
import Derived.Shelf.Strconv.RangeError
import Derived.Shelf.Strconv.ToErrorRange
import Derived.Shelf.Strconv.AtoiAll
import Derived.Shelf.Strings.Search1
import Derived.Shelf.Strings.Search2
import Derived.Shelf.Strings.Cut
import Derived.Shelf.Strings.Shaped
import Derived.Test.YtckmlpmehdpmiaaGreatDoorProg
namespace Go.Proofs
open Go.Shelf
def Tryz.lays156_ren : Go.Shelf.Ren := ⟨fun | 156 => 109 | 165 => 143 | 166 => 144 | 169 => 145 | 240 => 168 | 241 => 169 | 276 => 193 | 277 => 194 | n => n, fun | 31 => 24 | 9 => 9 | 3 => 3 | 4 => 4 | 0 => 0 | 20 => 20 | 72 => 179 | 76 => 183 | 70 => 177 | 37 => 22 | 75 => 182 | 127 => 199 | 164 => 211 | 5 => 5 | 80 => 185 | n => n, fun | n => n⟩
theorem Tryz.lays156 : Go.Proofs.Lays.n156 Tryz.prog Tryz.lays156_ren := by
  repeat' first | kernel_rfl | (intro _; kernel_rfl) | decide | constructor
theorem Tryz.Builder_Extra_156 : Builder.Extra Tryz.prog Tryz.lays156_ren := by
  repeat' first | kernel_rfl | (intro _; kernel_rfl) | decide | constructor
def Tryz.laysM171_ren : Go.Shelf.Ren := ⟨fun | 171 => 192 | 243 => 211 | 246 => 226 | 283 => 236 | 284 => 237 | 285 => 238 | 286 => 239 | 129 => 244 | 317 => 243 | 318 => 245 | 319 => 246 | 320 => 247 | 337 => 248 | 338 => 249 | n => n, fun | 3 => 3 | 9 => 9 | 2 => 2 | 4 => 4 | 171 => 240 | 0 => 0 | 53 => 232 | 37 => 22 | 5 => 5 | 173 => 243 | 212 => 249 | 51 => 218 | 20 => 20 | 213 => 250 | 46 => 93 | 232 => 253 | 233 => 254 | n => n, fun | 17 => 3 | 18 => 4 | 19 => 5 | n => n⟩
theorem Tryz.laysM171 : Go.Proofs.LaysM.n171 Tryz.prog Tryz.laysM171_ren := by
  repeat' first | kernel_rfl | (intro _; kernel_rfl) | decide | constructor
def Tryz.laysC172_ren : Go.Shelf.Ren := ⟨fun | 172 => 181 | 244 => 203 | 245 => 204 | 247 => 215 | 279 => 216 | 280 => 217 | 281 => 218 | 282 => 219 | 287 => 227 | 316 => 228 | 171 => 192 | 205 => 229 | 321 => 240 | 322 => 241 | 243 => 211 | 246 => 226 | 283 => 236 | 284 => 237 | 285 => 238 | 286 => 239 | 129 => 244 | 317 => 243 | 318 => 245 | 319 => 246 | 320 => 247 | 337 => 248 | 338 => 249 | n => n, fun | 9 => 9 | 3 => 3 | 75 => 182 | 76 => 183 | 4 => 4 | 5 => 5 | 167 => 225 | 37 => 22 | 0 => 0 | 85 => 226 | 2 => 2 | 168 => 228 | 53 => 232 | 175 => 233 | 46 => 93 | 210 => 237 | 127 => 199 | 145 => 248 | 143 => 246 | 21 => 21 | 171 => 240 | 173 => 243 | 212 => 249 | 51 => 218 | 20 => 20 | 213 => 250 | 232 => 253 | 233 => 254 | 80 => 185 | n => n, fun | 15 => 1 | 16 => 2 | 17 => 3 | 18 => 4 | 19 => 5 | n => n⟩
theorem Tryz.laysC172 : Go.Proofs.LaysC.n172 Tryz.prog Tryz.laysC172_ren := by
  repeat' first | kernel_rfl | (intro _; kernel_rfl) | decide | constructor
def Tryz.lays145_ren : Go.Shelf.Ren := ⟨fun | 145 => 97 | 220 => 132 | 219 => 156 | 217 => 177 | 225 => 178 | 224 => 179 | 267 => 180 | 266 => 201 | 314 => 202 | n => n, fun | 9 => 9 | 4 => 4 | 59 => 148 | 3 => 3 | 5 => 5 | 46 => 93 | 146 => 219 | 51 => 218 | n => n, fun | 1 => 0 | n => n⟩
theorem Tryz.lays145 : Go.Proofs.Lays.n145 Tryz.prog Tryz.lays145_ren := by
  repeat' first | kernel_rfl | (intro _; kernel_rfl) | decide | constructor
end Go.Proofs
