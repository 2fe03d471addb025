/- The functions of the code, as functions of data. Printed by program. -/

import Derived.Test.YtejkhekgflacaaaVkJ

namespace Go.Vk



noncomputable def laws_toByteS_L1 (p0 : List Int) : Nat → (List Int) → Int → Option (List Int)
  | 0, _, _ => none
  | k1 + 1, l10, i11 =>
    if decide (i11 < (p0.length : Int)) then (idx p0 i11).bind fun e18 => (idx l10 i11).bind fun _ => (laws_toByteS_L1 p0 k1) (l10.set i11.toNat e18) (IntKind.i64.wrap (i11 + 1)) else some l10

noncomputable def laws_toByteS (p0 : List Int) : Option (List Int) :=
  (mk (0 : Int) (p0.length : Int)).bind fun l1 => laws_toByteS_L1 p0 Fuel l1 0


noncomputable def laws_eqByteS_L1 (p0 : List Int) (p1 : List Int) : Nat → Int → Option (Bool)
  | 0, _ => none
  | k1 + 1, i7 =>
    if decide (i7 < (p0.length : Int)) then (idx p0 i7).bind fun e14 => (idx p1 i7).bind fun e17 => if (e14 != e17) then some false else (laws_eqByteS_L1 p0 p1 k1) (IntKind.i64.wrap (i7 + 1)) else some true

noncomputable def laws_eqByteS (p0 : List Int) (p1 : List Int) : Option (Bool) :=
  if ((p0.length : Int) != (p1.length : Int)) then some false else laws_eqByteS_L1 p0 p1 Fuel 0


noncomputable def spec_Crc_L2 (R1 : Int → Int → Option (Int)) (i7 : Int) : Nat → Int → Int → Option (Int)
  | 0, _, _ => none
  | k2 + 1, i16, i17 =>
    if decide (i17 < 8) then if ((Int.tmod i16 2) == 1) then (spec_Crc_L2 R1 i7 k2) (ibits .xor .i64 (IntKind.i64.wrap (Int.tdiv i16 2)) 3988292384) (IntKind.i64.wrap (i17 + 1)) else (spec_Crc_L2 R1 i7 k2) (IntKind.i64.wrap (Int.tdiv i16 2)) (IntKind.i64.wrap (i17 + 1)) else R1 i16 (IntKind.i64.wrap (i7 + 1))

noncomputable def spec_Crc_L1 (p0 : List Int) : Nat → Int → Int → Option (Int)
  | 0, _, _ => none
  | k1 + 1, i6, i7 =>
    if decide (i7 < (p0.length : Int)) then (idx p0 i7).bind fun e13 => spec_Crc_L2 (spec_Crc_L1 p0 k1) i7 Fuel (ibits .xor .i64 i6 (IntKind.i64.wrap e13)) 0 else some (ibits .xor .i64 i6 4294967295)

noncomputable def spec_Crc (p0 : List Int) : Option (Int) :=
  spec_Crc_L1 p0 Fuel 4294967295 0


noncomputable def impl_Crc_L2 (R1 : Int → Int → Option (Int)) (i7 : Int) : Nat → Int → Int → Option (Int)
  | 0, _, _ => none
  | k2 + 1, i16, i17 =>
    if decide (i17 < 8) then if ((ibits .and .i64 i16 1) == 1) then (impl_Crc_L2 R1 i7 k2) (ibits .xor .i64 (ishr .i64 i16 1) 3988292384) (IntKind.i64.wrap (i17 + 1)) else (impl_Crc_L2 R1 i7 k2) (ishr .i64 i16 1) (IntKind.i64.wrap (i17 + 1)) else R1 i16 (IntKind.i64.wrap (i7 + 1))

noncomputable def impl_Crc_L1 (p0 : List Int) : Nat → Int → Int → Option (Int)
  | 0, _, _ => none
  | k1 + 1, i6, i7 =>
    if decide (i7 < (p0.length : Int)) then (idx p0 i7).bind fun e13 => impl_Crc_L2 (impl_Crc_L1 p0 k1) i7 Fuel (ibits .xor .i64 i6 (IntKind.i64.wrap e13)) 0 else some (ibits .xor .i64 i6 4294967295)

noncomputable def impl_Crc (p0 : List Int) : Option (Int) :=
  impl_Crc_L1 p0 Fuel 4294967295 0


noncomputable def laws_FnExactCrc (p0 : List Int) : Option (Bool) :=
  if decide ((p0.length : Int) > 1048576) then some true else (laws_toByteS p0).bind fun y1 => (spec_Crc y1).bind fun y6 => (laws_toByteS p0).bind fun y8 => (impl_Crc y8).bind fun y13 => if (y13 != y6) then some false else (laws_toByteS p0).bind fun y15 => (laws_eqByteS y8 y15).bind fun y20 => if (!y20) then some false else some true


noncomputable def spec_l32Sign (p0 : Int) : Option (Int) :=
  if decide (p0 < 10) then some (IntKind.u8.wrap (IntKind.i64.wrap (48 + p0))) else some (IntKind.u8.wrap (IntKind.i64.wrap (87 + p0)))


noncomputable def spec_HexText_L1 (p0 : List Int) : Nat → (List Int) → Int → Option (List UInt8)
  | 0, _, _ => none
  | k1 + 1, l18, i22 =>
    if decide (i22 < (p0.length : Int)) then (idx p0 i22).bind fun e39 => (idx p0 i22).bind fun e42 => (spec_l32Sign (IntKind.i64.wrap (Int.tdiv (IntKind.i64.wrap e39) 16))).bind fun y45 => (spec_l32Sign (Int.tmod (IntKind.i64.wrap e42) 16)).bind fun y47 => (app l18 ([y45, y47] : List Int)).bind fun l50 => (spec_HexText_L1 p0 k1) l50 (IntKind.i64.wrap (i22 + 1)) else some (bytesOf l18)

noncomputable def spec_HexText (p0 : List Int) : Option (List UInt8) :=
  spec_HexText_L1 p0 Fuel ([] : List Int) 0


noncomputable def impl_HexText_L1 (p0 : List Int) : Nat → (List Int) → Int → Option (List UInt8)
  | 0, _, _ => none
  | k1 + 1, l15, i19 =>
    if decide (i19 < (p0.length : Int)) then (idx p0 i19).bind fun e33 => (idx ([48, 49, 50, 51, 52, 53, 54, 55, 56, 57, 97, 98, 99, 100, 101, 102] : List UInt8) (ishr .u8 e33 4)).bind fun b36 => (idx ([48, 49, 50, 51, 52, 53, 54, 55, 56, 57, 97, 98, 99, 100, 101, 102] : List UInt8) (ibits .and .u8 e33 15)).bind fun b38 => (app l15 ([(b36.toNat : Int), (b38.toNat : Int)] : List Int)).bind fun l41 => (impl_HexText_L1 p0 k1) l41 (IntKind.i64.wrap (i19 + 1)) else some (bytesOf l15)

noncomputable def impl_HexText (p0 : List Int) : Option (List UInt8) :=
  impl_HexText_L1 p0 Fuel ([] : List Int) 0


noncomputable def laws_FnExactHexText (p0 : List Int) : Option (Bool) :=
  if decide ((p0.length : Int) > 1048576) then some true else (laws_toByteS p0).bind fun y1 => (spec_HexText y1).bind fun y6 => (laws_toByteS p0).bind fun y8 => (impl_HexText y8).bind fun y13 => if (!(y13 == y6)) then some false else (laws_toByteS p0).bind fun y15 => (laws_eqByteS y8 y15).bind fun y20 => if (!y20) then some false else some true


noncomputable def laws_heldByteS_L1 (p0 : List Int) : Nat → Int → Int → Option (Int)
  | 0, _, _ => none
  | k1 + 1, i4, i5 =>
    if decide (i5 < (p0.length : Int)) then (idx p0 i5).bind fun e9 => if (e9 != (IntKind.u8.wrap i4)) then some (-1) else (laws_heldByteS_L1 p0 k1) (IntKind.i64.wrap (i4 + 1)) (IntKind.i64.wrap (i5 + 1)) else some i4

noncomputable def laws_heldByteS (p0 : List Int) (p1 : Int) : Option (Int) :=
  laws_heldByteS_L1 p0 Fuel p1 0


noncomputable def laws_big (p0 : List Int) : Option (Bool) :=
  some (decide ((p0.length : Int) > 1048576))


noncomputable def laws_at0 (p0 : List Int) (p1 : Int) : Option (Int) :=
  if decide (p1 < (p0.length : Int)) then (idx p0 p1).bind fun e1 => some (IntKind.i64.wrap e1) else some (Int.tmod (IntKind.i64.wrap ((IntKind.i64.wrap (p1 * 7)) + (p0.length : Int))) 256)


noncomputable def laws_bit_L1 (p0 : Int) : Nat → Int → Int → Option (Int)
  | 0, _, _ => none
  | k1 + 1, i1, i2 =>
    if decide (i2 < (Int.tmod p0 8)) then (laws_bit_L1 p0 k1) (IntKind.i64.wrap (2 * i1)) (IntKind.i64.wrap (i2 + 1)) else some (IntKind.u8.wrap i1)

noncomputable def laws_bit (p0 : Int) : Option (Int) :=
  laws_bit_L1 p0 Fuel 1 0


noncomputable def spec_l32Half (p0 : Int) : Option (Int) :=
  if ((decide (p0 ≥ 48)) && (decide (p0 ≤ 57))) then some (IntKind.i64.wrap ((IntKind.i64.wrap p0) - 48)) else if ((decide (p0 ≥ 97)) && (decide (p0 ≤ 102))) then some (IntKind.i64.wrap ((IntKind.i64.wrap p0) - 87)) else some (-1)


noncomputable def impl_within (p0 : Int) (p1 : Int) (p2 : Int) : Option (Bool) :=
  some ((decide (p0 ≥ p1)) && (decide (p0 ≤ p2)))


noncomputable def spec_l1In (p0 : Int) (p1 : Int) (p2 : Int) : Option (Bool) :=
  some ((decide (p0 ≥ p1)) && (decide (p0 ≤ p2)))


noncomputable def spec_PutNum_L1  : Nat → (List Int) → Int → Option (List Int)
  | 0, _, _ => none
  | k1 + 1, l16, i20 =>
    if decide (i20 > 127) then (app l16 ([IntKind.u8.wrap (IntKind.i64.wrap ((Int.tmod i20 128) + 128))] : List Int)).bind fun l34 => (spec_PutNum_L1 k1) l34 (IntKind.i64.wrap (Int.tdiv i20 128)) else (app l16 ([IntKind.u8.wrap i20] : List Int)).bind fun l40 => some l40

noncomputable def spec_PutNum (p0 : Int) : Option (List Int) :=
  (spec_l1In p0 0 2147483647).bind fun y2 => if (!y2) then some ([] : List Int) else spec_PutNum_L1 Fuel ([] : List Int) p0


noncomputable def impl_PutNum_L1  : Nat → (List Int) → Int → Option (List Int)
  | 0, _, _ => none
  | k1 + 1, l16, i20 =>
    if decide (i20 ≥ 128) then (app l16 ([IntKind.u8.wrap (ibits .or .i64 (ibits .and .i64 i20 127) 128)] : List Int)).bind fun l34 => (impl_PutNum_L1 k1) l34 (ishr .i64 i20 7) else (app l16 ([IntKind.u8.wrap i20] : List Int)).bind fun l40 => some l40

noncomputable def impl_PutNum (p0 : Int) : Option (List Int) :=
  (impl_within p0 0 2147483647).bind fun y1 => if (!y1) then some [] else impl_PutNum_L1 Fuel ([] : List Int) p0


noncomputable def spec_PutInt (p0 : Int) : Option (List Int) :=
  (spec_l1In p0 (-1000000000) 1000000000).bind fun y1 => if (!y1) then some ([] : List Int) else if decide (p0 < 0) then (spec_PutNum (IntKind.i64.wrap ((IntKind.i64.wrap (0 - (IntKind.i64.wrap (2 * p0)))) - 1))).bind fun y4 => some y4 else (spec_PutNum (IntKind.i64.wrap (2 * p0))).bind fun y9 => some y9


noncomputable def impl_PutInt (p0 : Int) : Option (List Int) :=
  (impl_within p0 (-1000000000) 1000000000).bind fun y1 => if (!y1) then some [] else if decide (p0 < 0) then (impl_PutNum (IntKind.i64.wrap ((IntKind.i64.wrap ((-2) * p0)) - 1))).bind fun y3 => some y3 else (impl_PutNum (IntKind.i64.wrap (2 * p0))).bind fun y8 => some y8


noncomputable def laws_markByteS_L1 (p0 : List Int) : Nat → (List Int) → Int → Int → Option (Int × List Int)
  | 0, _, _, _ => none
  | k1 + 1, l4, i5, i6 =>
    if decide (i6 < (p0.length : Int)) then (idx l4 i6).bind fun _ => (laws_markByteS_L1 p0 k1) (l4.set i6.toNat (IntKind.u8.wrap i5)) (IntKind.i64.wrap (i5 + 1)) (IntKind.i64.wrap (i6 + 1)) else some (i5, l4)

noncomputable def laws_markByteS (p0 : List Int) (p1 : Int) : Option (Int × List Int) :=
  laws_markByteS_L1 p0 Fuel p0 p1 0


noncomputable def laws_FnExactPutInt (p0 : Int) : Option (Bool) :=
  (spec_PutInt p0).bind fun y1 => (impl_PutInt p0).bind fun y6 => (laws_eqByteS y6 y1).bind fun y11 => if (!y11) then some false else (laws_markByteS y6 1).bind fun y13 => (laws_heldByteS y13.2 1).bind fun y15 => if decide (y15 < 0) then some false else if (y15 != y13.1) then some false else (impl_PutInt p0).bind fun y17 => (laws_eqByteS y17 y1).bind fun y22 => if (!y22) then some false else (laws_heldByteS y13.2 1).bind fun y24 => if decide (y24 < 0) then some false else if (y24 != y13.1) then some false else some true


noncomputable def spec_GetNum_L1 (p1 : Int) (p0 : List Int) : Nat → Int → Int → Option (Int × Int × Bool)
  | 0, _, _ => none
  | k1 + 1, i12, i13 =>
    if decide (i13 < 5) then if ((decide (p1 < 0)) || (decide (p1 ≥ (IntKind.i64.wrap ((p0.length : Int) - i13))))) then some (0, 0, false) else (idx p0 (IntKind.i64.wrap (p1 + i13))).bind fun e27 => (shl .i64 (Int.tmod (IntKind.i64.wrap e27) 128) (IntKind.i64.wrap (7 * i13))).bind fun x30 => if decide ((IntKind.i64.wrap e27) < 128) then if (((decide (i13 > 0)) && ((IntKind.i64.wrap e27) == 0)) || (decide ((ibits .or .i64 i12 x30) > 2147483647))) then some (0, 0, false) else some (ibits .or .i64 i12 x30, IntKind.i64.wrap ((IntKind.i64.wrap (p1 + i13)) + 1), true) else (spec_GetNum_L1 p1 p0 k1) (ibits .or .i64 i12 x30) (IntKind.i64.wrap (i13 + 1)) else some (0, 0, false)

noncomputable def spec_GetNum (p0 : List Int) (p1 : Int) : Option (Int × Int × Bool) :=
  spec_GetNum_L1 p1 p0 Fuel 0 0


noncomputable def impl_GetNum_L1 (p1 : Int) (p0 : List Int) : Nat → Int → Int → Option (Int × Int × Bool)
  | 0, _, _ => none
  | k1 + 1, i14, i15 =>
    if (((decide (i15 < 5)) && (decide ((IntKind.i64.wrap (p1 + i15)) ≥ 0))) && (decide ((IntKind.i64.wrap (p1 + i15)) < (p0.length : Int)))) then (idx p0 (IntKind.i64.wrap (p1 + i15))).bind fun e33 => (shl .i64 (ibits .and .i64 (IntKind.i64.wrap e33) 127) (IntKind.i64.wrap (7 * i15))).bind fun x36 => if decide ((IntKind.i64.wrap e33) ≥ 128) then (impl_GetNum_L1 p1 p0 k1) (ibits .or .i64 i14 x36) (IntKind.i64.wrap (i15 + 1)) else if ((((IntKind.i64.wrap e33) == 0) && (decide (i15 > 0))) || (decide ((ibits .or .i64 i14 x36) > 2147483647))) then some (0, 0, false) else some (ibits .or .i64 i14 x36, IntKind.i64.wrap ((IntKind.i64.wrap (p1 + i15)) + 1), true) else some (0, 0, false)

noncomputable def impl_GetNum (p0 : List Int) (p1 : Int) : Option (Int × Int × Bool) :=
  if decide (p1 < 0) then some (0, 0, false) else impl_GetNum_L1 p1 p0 Fuel 0 0


noncomputable def spec_GetInt_J1 (y1 : Int × Int × Bool) (i3 : Int) : Option (Int × Int × Bool) :=
  (spec_l1In i3 (-1000000000) 1000000000).bind fun y4 => if (!y4) then some (0, 0, false) else some (i3, y1.2.1, true)

noncomputable def spec_GetInt (p0 : List Int) (p1 : Int) : Option (Int × Int × Bool) :=
  (spec_GetNum p0 p1).bind fun y1 => if (!y1.2.2) then some (0, 0, false) else if ((Int.tmod y1.1 2) == 1) then spec_GetInt_J1 y1 (IntKind.i64.wrap ((IntKind.i64.wrap (0 - (IntKind.i64.wrap (Int.tdiv y1.1 2)))) - 1)) else spec_GetInt_J1 y1 (IntKind.i64.wrap (Int.tdiv y1.1 2))


noncomputable def impl_GetInt_J1 (y1 : Int × Int × Bool) (i3 : Int) : Option (Int × Int × Bool) :=
  (if (!y1.2.2) then some true else (impl_within i3 (-1000000000) 1000000000).bind fun y5 => some (!y5)).bind fun u4 => if u4 then some (0, 0, false) else some (i3, y1.2.1, true)

noncomputable def impl_GetInt (p0 : List Int) (p1 : Int) : Option (Int × Int × Bool) :=
  (impl_GetNum p0 p1).bind fun y1 => if ((Int.tmod y1.1 2) == 1) then impl_GetInt_J1 y1 (IntKind.i64.wrap ((IntKind.i64.wrap (0 - (IntKind.i64.wrap (Int.tdiv y1.1 2)))) - 1)) else impl_GetInt_J1 y1 (IntKind.i64.wrap (Int.tdiv y1.1 2))


noncomputable def laws_FnExactGetInt (p0 : List Int) (p1 : Int) : Option (Bool) :=
  if decide ((p0.length : Int) > 1048576) then some true else (laws_toByteS p0).bind fun y1 => (spec_GetInt y1 p1).bind fun y6 => (laws_toByteS p0).bind fun y8 => (impl_GetInt y8 p1).bind fun y13 => if (((y13.1 != y6.1) || (y13.2.1 != y6.2.1)) || (y13.2.2 != y6.2.2)) then some false else (laws_toByteS p0).bind fun y19 => (laws_eqByteS y8 y19).bind fun y24 => if (!y24) then some false else some true


noncomputable def lib_stringslite_IndexByte (p0 : List UInt8) (p1 : Int) : Option (Int) :=
  some (Lib.indexByte p0 (Int.toNat p1).toUInt8)


noncomputable def lib_strings_IndexByte (p0 : List UInt8) (p1 : Int) : Option (Int) :=
  (lib_stringslite_IndexByte p0 p1).bind fun y1 => some y1


noncomputable def spec_HexOf_L1 (p0 : List UInt8) : Nat → (List Int) → Int → Option ((List Int) × Bool)
  | 0, _, _ => none
  | k1 + 1, l19, i23 =>
    if decide (i23 < (p0.length : Int)) then (idx p0 i23).bind fun b41 => (spec_l32Half (b41.toNat : Int)).bind fun y43 => (idx p0 (IntKind.i64.wrap (i23 + 1))).bind fun b45 => (spec_l32Half (b45.toNat : Int)).bind fun y47 => if ((decide (y43 < 0)) || (decide (y47 < 0))) then some (([] : List Int), false) else (app l19 ([IntKind.u8.wrap (IntKind.i64.wrap ((IntKind.i64.wrap (16 * y43)) + y47))] : List Int)).bind fun l53 => (spec_HexOf_L1 p0 k1) l53 (IntKind.i64.wrap (i23 + 2)) else some (l19, true)

noncomputable def spec_HexOf (p0 : List UInt8) : Option ((List Int) × Bool) :=
  if ((Int.tmod (p0.length : Int) 2) != 0) then some (([] : List Int), false) else spec_HexOf_L1 p0 Fuel ([] : List Int) 0


noncomputable def impl_HexOf_L1 (p0 : List UInt8) : Nat → (List Int) → Int → Option ((List Int) × Bool)
  | 0, _, _ => none
  | k1 + 1, l18, i22 =>
    if decide (i22 < (p0.length : Int)) then (idx p0 i22).bind fun b39 => (lib_strings_IndexByte ([48, 49, 50, 51, 52, 53, 54, 55, 56, 57, 97, 98, 99, 100, 101, 102] : List UInt8) (b39.toNat : Int)).bind fun y41 => (idx p0 (IntKind.i64.wrap (i22 + 1))).bind fun b43 => (lib_strings_IndexByte ([48, 49, 50, 51, 52, 53, 54, 55, 56, 57, 97, 98, 99, 100, 101, 102] : List UInt8) (b43.toNat : Int)).bind fun y45 => if ((decide (y41 < 0)) || (decide (y45 < 0))) then some (([] : List Int), false) else (app l18 ([IntKind.u8.wrap (ibits .or .i64 (ishl .i64 y41 4) y45)] : List Int)).bind fun l50 => (impl_HexOf_L1 p0 k1) l50 (IntKind.i64.wrap (i22 + 2)) else some (l18, true)

noncomputable def impl_HexOf (p0 : List UInt8) : Option ((List Int) × Bool) :=
  if ((Int.tmod (p0.length : Int) 2) != 0) then some (([] : List Int), false) else impl_HexOf_L1 p0 Fuel ([] : List Int) 0


noncomputable def laws_FnExactHexOf (p0 : List UInt8) : Option (Bool) :=
  if decide ((p0.length : Int) > 1048576) then some true else (spec_HexOf p0).bind fun y1 => (impl_HexOf p0).bind fun y6 => (laws_eqByteS y6.1 y1.1).bind fun y11 => if ((!y11) || (y6.2 != y1.2)) then some false else (laws_markByteS y6.1 1).bind fun y15 => (laws_heldByteS y15.2 1).bind fun y17 => if decide (y17 < 0) then some false else if (y17 != y15.1) then some false else (impl_HexOf p0).bind fun y19 => (laws_eqByteS y19.1 y1.1).bind fun y24 => if ((!y24) || (y19.2 != y1.2)) then some false else (laws_heldByteS y15.2 1).bind fun y28 => if decide (y28 < 0) then some false else if (y28 != y15.1) then some false else some true


end Go.Vk
