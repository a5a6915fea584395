import Derived.Test.YtjgbakieogadfabGreatDoorLib28
import Derived.Ground.NamesProg
import Derived.Ground.SlsfProg
import Derived.Shelf.SlGeneric
import Derived.Shelf.SlSortCmp.NoneTotal
import Derived.Shelf.Strings.Count
import Derived.Shelf.Strings.Search1
import Derived.Shelf.Strings.SlTrimAscii
namespace Go.Proofs.YtjgbakieogadfabGreatDoor
open Go L
set_option linter.unusedVariables false
structure S_keys_purpose where
  tenant : List UInt8
  name : List UInt8
  deriving DecidableEq, Inhabited
structure S_keys_Tree where
  root : List UInt8
  sealed : Int
  gone : List ((List UInt8) × Bool)
  at_ : List (S_keys_purpose × Int)
  deriving Inhabited
structure S_api_Row where
  Key : List UInt8
  Columns : List (List UInt8)
  deriving Inhabited
def tab0 : List UInt64 := [1, 10, 100, 1000, 10000, 100000, 1000000, 10000000, 100000000, 1000000000, 10000000000, 100000000000, 1000000000000, 10000000000000, 100000000000000, 1000000000000000, 10000000000000000, 100000000000000000, 1000000000000000000, 10000000000000000000]
def tab7 : List UInt8 := [0, 1, 56, 2, 57, 49, 28, 3, 61, 58, 42, 50, 38, 29, 17, 4, 62, 47, 59, 36, 45, 43, 51, 22, 53, 39, 33, 30, 24, 18, 12, 5, 63, 55, 48, 27, 60, 41, 37, 16, 46, 35, 44, 21, 52, 32, 23, 11, 54, 26, 40, 15, 34, 20, 31, 10, 25, 14, 19, 9, 13, 8, 7, 6]
noncomputable section

-- holdfast/keys.New
def keys_New (K : Nat) (root : List UInt8) : Option S_keys_Tree :=
  some (⟨root, (0 : Int), ([] : List ((List UInt8) × Bool)), ([] : List (S_keys_purpose × Int))⟩ : S_keys_Tree)

-- strings.Trim
def strings_Trim (K : Nat) (s cut : List UInt8) : Option (List UInt8) := if (cut.all fun b => decide (b.toNat < 128)) = true ∧ s.length ≤ 9223372036854775807 ∧ cut.length < 4294967281 then some (Go.Lib.trimS s cut) else none

-- holdfast/codec.IsName
def codec_IsName (K : Nat) (s : List UInt8) : Option Bool :=
  (if ((!decide (s = ([] : List UInt8))) && (decide ((s.length : Int) ≤ (9 : Int)))) = true then ((strings_Trim K s ([97, 98, 99, 100, 101, 102, 103, 104, 105, 106, 107, 108, 109, 110, 111, 112, 113, 114, 115, 116, 117, 118, 119, 120, 121, 122, 48, 49, 50, 51, 52, 53, 54, 55, 56, 57, 45] : List UInt8)).bind fun r_ => (some (decide (r_ = ([] : List UInt8))))) else some false).bind fun b => (some b)

-- (*holdfast/keys.Tree).Current
def keys_Tree_Current (K : Nat) (t : S_keys_Tree) (tenant : List UInt8) (name : List UInt8) : Option (Int × Int) :=
  (codec_IsName K tenant).bind fun r_ => ((if (!r_) = true then some true else ((codec_IsName K name).bind fun r_1 => (some (!r_1)))).bind fun b2 => (if b2 = true then (some ((0 : Int), (8 : Int))) else (if ((mget t.gone tenant).getD false) = true then (some ((0 : Int), (12 : Int))) else (some (maxI ((mget t.at_ (⟨tenant, name⟩ : S_keys_purpose)).getD (0 : Int)) (1 : Int), (0 : Int))))))

-- math/bits.Len64
def bits_Len64.j3 (K : Nat) (x3 : UInt64) (n3 : Int) : Option Int :=
  (gt ([0, 1, 2, 2, 3, 3, 3, 3, 4, 4, 4, 4, 4, 4, 4, 4, 5, 5, 5, 5, 5, 5, 5, 5, 5, 5, 5, 5, 5, 5, 5, 5, 6, 6, 6, 6, 6, 6, 6, 6, 6, 6, 6, 6, 6, 6, 6, 6, 6, 6, 6, 6, 6, 6, 6, 6, 6, 6, 6, 6, 6, 6, 6, 6, 7, 7, 7, 7, 7, 7, 7, 7, 7, 7, 7, 7, 7, 7, 7, 7, 7, 7, 7, 7, 7, 7, 7, 7, 7, 7, 7, 7, 7, 7, 7, 7, 7, 7, 7, 7, 7, 7, 7, 7, 7, 7, 7, 7, 7, 7, 7, 7, 7, 7, 7, 7, 7, 7, 7, 7, 7, 7, 7, 7, 7, 7, 7, 7, 8, 8, 8, 8, 8, 8, 8, 8, 8, 8, 8, 8, 8, 8, 8, 8, 8, 8, 8, 8, 8, 8, 8, 8, 8, 8, 8, 8, 8, 8, 8, 8, 8, 8, 8, 8, 8, 8, 8, 8, 8, 8, 8, 8, 8, 8, 8, 8, 8, 8, 8, 8, 8, 8, 8, 8, 8, 8, 8, 8, 8, 8, 8, 8, 8, 8, 8, 8, 8, 8, 8, 8, 8, 8, 8, 8, 8, 8, 8, 8, 8, 8, 8, 8, 8, 8, 8, 8, 8, 8, 8, 8, 8, 8, 8, 8, 8, 8, 8, 8, 8, 8, 8, 8, 8, 8, 8, 8, 8, 8, 8, 8, 8, 8, 8, 8, 8, 8, 8, 8, 8, 8, 8, 8, 8, 8, 8, 8] : List UInt8) (x3.toUInt8.toNat : Int)).bind fun e => (some (W (n3 + (e.toNat : Int))))
def bits_Len64.j2 (K : Nat) (x2 : UInt64) (n2 : Int) : Option Int :=
  if (decide ((256 : UInt64) ≤ x2)) = true then (bits_Len64.j3 K (shr64 x2 8) (W (n2 + (8 : Int)))) else (bits_Len64.j3 K x2 n2)
def bits_Len64.j1 (K : Nat) (x1 : UInt64) (n1 : Int) : Option Int :=
  if (decide ((65536 : UInt64) ≤ x1)) = true then (bits_Len64.j2 K (shr64 x1 16) (W (n1 + (16 : Int)))) else (bits_Len64.j2 K x1 n1)
def bits_Len64 (K : Nat) (x : UInt64) : Option Int :=
  if (decide ((4294967296 : UInt64) ≤ x)) = true then (bits_Len64.j1 K (shr64 x 32) (32 : Int)) else (bits_Len64.j1 K x (0 : Int))

-- internal/strconv.log10Pow2
def strconv_log10Pow2 (K : Nat) (x : Int) : Option Int :=
  some (shrI (W (x * (78913 : Int))) 18)

-- internal/strconv.bool2[int]
def strconv_bool2_int (K : Nat) (b : Bool) : Option Int :=
  if b = true then (some (1 : Int)) else (some (0 : Int))

-- internal/strconv.numDigits
def strconv_numDigits (K : Nat) (d1 : UInt64) : Option Int :=
  (bits_Len64 K d1).bind fun r_ => ((strconv_log10Pow2 K r_).bind fun r_1 => ((gt tab0 r_1).bind fun e1 => ((strconv_bool2_int K (decide (e1 ≤ d1))).bind fun r_2 => (some (W (r_1 + r_2))))))

-- internal/strconv.isPowerOfTwo
def strconv_isPowerOfTwo (K : Nat) (x : Int) : Option Bool :=
  some (decide (andI x (W (x - (1 : Int))) = (0 : Int)))

-- math/bits.TrailingZeros64
def bits_TrailingZeros64 (K : Nat) (x : UInt64) : Option Int :=
  if (decide (x = (0 : UInt64))) = true then (some (64 : Int)) else ((gt tab7 ((shr64 ((x &&& (0 - x)) * (285870213051353865 : UInt64)) 58).toNat : Int)).bind fun e1 => (some (e1.toNat : Int)))

-- math/bits.TrailingZeros
def bits_TrailingZeros (K : Nat) (x : UInt64) : Option Int :=
  (bits_TrailingZeros64 K x).bind fun r_ => (some r_)

-- internal/strconv.formatBits
def strconv_formatBits.l1 : Nat → Int → Int → UInt64 → (List UInt8) → Int → Option (UInt64 × (List UInt8) × Int)
  | 0, _, _, _, _, _ => none
  | k + 1, base, r_1, u2, a2, i2 => if (decide (iU64 base ≤ u2)) = true then ((gt ([48, 49, 50, 51, 52, 53, 54, 55, 56, 57, 97, 98, 99, 100, 101, 102, 103, 104, 105, 106, 107, 108, 109, 110, 111, 112, 113, 114, 115, 116, 117, 118, 119, 120, 121, 122] : List UInt8) ((u2 &&& ((iU64 base) - (1 : UInt64))).toNat : Int)).bind fun e1 => ((req (0 ≤ W (i2 - (1 : Int)) ∧ W (i2 - (1 : Int)) < (a2.length : Int))).bind fun u4 => ((some (a2.set (W (i2 - (1 : Int))).toNat e1)).bind fun a5 => (strconv_formatBits.l1 k base r_1 (shr64 u2 (iU64 r_1).toNat) a5 (W (i2 - (1 : Int))))))) else (some (u2, a2, i2))
def strconv_formatBits.l2 : Nat → Int → UInt64 → (List UInt8) → Int → Option (UInt64 × (List UInt8) × Int)
  | 0, _, _, _, _ => none
  | k + 1, base, u6, a8, i4 => if (decide (iU64 base ≤ u6)) = true then ((req (iU64 base ≠ 0)).bind fun u8 => ((gt ([48, 49, 50, 51, 52, 53, 54, 55, 56, 57, 97, 98, 99, 100, 101, 102, 103, 104, 105, 106, 107, 108, 109, 110, 111, 112, 113, 114, 115, 116, 117, 118, 119, 120, 121, 122] : List UInt8) ((u6 - ((u6 / (iU64 base)) * (iU64 base))).toNat : Int)).bind fun e3 => ((req (0 ≤ W (i4 - (1 : Int)) ∧ W (i4 - (1 : Int)) < (a8.length : Int))).bind fun u9 => ((some (a8.set (W (i4 - (1 : Int))).toNat e3)).bind fun a11 => (strconv_formatBits.l2 k base (u6 / (iU64 base)) a11 (W (i4 - (1 : Int)))))))) else (some (u6, a8, i4))
def strconv_formatBits.j4 (K : Nat) (append_ : Bool) (a14 : List UInt8) (i6 : Int) : Option ((List UInt8) × (List UInt8)) :=
  if append_ = true then (none) else ((sub a14 i6 (65 : Int)).bind fun ys1 => (some (([] : List UInt8), ys1)))
def strconv_formatBits.j3 (K : Nat) (neg : Bool) (append_ : Bool) (a1 : List UInt8) (i1 : Int) : Option ((List UInt8) × (List UInt8)) :=
  if neg = true then ((req (0 ≤ W (i1 - (1 : Int)) ∧ W (i1 - (1 : Int)) < (a1.length : Int))).bind fun u11 => ((some (a1.set (W (i1 - (1 : Int))).toNat (45 : UInt8))).bind fun a16 => (strconv_formatBits.j4 K append_ a16 (W (i1 - (1 : Int)))))) else (strconv_formatBits.j4 K append_ a1 i1)
def strconv_formatBits.j2 (K : Nat) (base : Int) (neg : Bool) (append_ : Bool) (u1 : UInt64) : Option ((List UInt8) × (List UInt8)) :=
  (strconv_isPowerOfTwo K base).bind fun r_ => (if r_ = true then ((bits_TrailingZeros K (iU64 base)).bind fun r_1 => ((strconv_formatBits.l1 K base r_1 u1 (List.replicate 65 (0 : UInt8)) (65 : Int)).bind fun q => ((fun u3 a3 i3 => (gt ([48, 49, 50, 51, 52, 53, 54, 55, 56, 57, 97, 98, 99, 100, 101, 102, 103, 104, 105, 106, 107, 108, 109, 110, 111, 112, 113, 114, 115, 116, 117, 118, 119, 120, 121, 122] : List UInt8) (u3.toNat : Int)).bind fun e2 => ((req (0 ≤ W (i3 - (1 : Int)) ∧ W (i3 - (1 : Int)) < (a3.length : Int))).bind fun u5 => ((some (a3.set (W (i3 - (1 : Int))).toNat e2)).bind fun a7 => (strconv_formatBits.j3 K neg append_ a7 (W (i3 - (1 : Int))))))) q.1 q.2.1 q.2.2))) else ((strconv_formatBits.l2 K base u1 (List.replicate 65 (0 : UInt8)) (65 : Int)).bind fun q1 => ((fun u7 a9 i5 => (gt ([48, 49, 50, 51, 52, 53, 54, 55, 56, 57, 97, 98, 99, 100, 101, 102, 103, 104, 105, 106, 107, 108, 109, 110, 111, 112, 113, 114, 115, 116, 117, 118, 119, 120, 121, 122] : List UInt8) (u7.toNat : Int)).bind fun e4 => ((req (0 ≤ W (i5 - (1 : Int)) ∧ W (i5 - (1 : Int)) < (a9.length : Int))).bind fun u10 => ((some (a9.set (W (i5 - (1 : Int))).toNat e4)).bind fun a13 => (strconv_formatBits.j3 K neg append_ a13 (W (i5 - (1 : Int))))))) q1.1 q1.2.1 q1.2.2)))
def strconv_formatBits.j1 (K : Nat) (neg : Bool) (base : Int) (append_ : Bool) (u : UInt64) : Option ((List UInt8) × (List UInt8)) :=
  if neg = true then (strconv_formatBits.j2 K base neg append_ (0 - u)) else (strconv_formatBits.j2 K base neg append_ u)
def strconv_formatBits (K : Nat) (dst : List UInt8) (u : UInt64) (base : Int) (neg : Bool) (append_ : Bool) : Option ((List UInt8) × (List UInt8)) :=
  if (((decide (base < (2 : Int))) || (decide (base = (10 : Int)))) || (decide ((36 : Int) < base))) = true then (none) else (strconv_formatBits.j1 K neg base append_ u)

-- internal/strconv.FormatInt
def strconv_FormatInt_84.j1 (K : Nat) (u : UInt64) : Option (List UInt8) :=
  none
def strconv_FormatInt_84 (K : Nat) (i : Int) (base : Int) : Option (List UInt8) :=
  if (decide (base = (10 : Int))) = true then (if ((decide ((0 : Int) ≤ i)) && (decide (i < (100 : Int)))) = true then (none) else (if (decide (i < (0 : Int))) = true then (strconv_FormatInt_84.j1 K (0 - (iU64 i))) else (strconv_FormatInt_84.j1 K (iU64 i)))) else ((strconv_formatBits K ([] : List UInt8) (iU64 i) base (decide (i < (0 : Int))) false).bind fun r_ => (some r_.2))

-- strconv.FormatInt
def strconv_FormatInt_57 (K : Nat) (i : Int) (base : Int) : Option (List UInt8) :=
  (strconv_FormatInt_84 K i base).bind fun r_ => (some r_)

-- internal/stringslite.HasPrefix
def stringslite_HasPrefix (K : Nat) (s : List UInt8) (prefix_ : List UInt8) : Option Bool :=
  (if (decide ((prefix_.length : Int) ≤ (s.length : Int))) = true then ((sub s (0 : Int) (prefix_.length : Int)).bind fun t1 => (some (decide (t1 = prefix_)))) else some false).bind fun b => (some b)

-- internal/stringslite.TrimPrefix
def stringslite_TrimPrefix (K : Nat) (s : List UInt8) (prefix_ : List UInt8) : Option (List UInt8) :=
  (stringslite_HasPrefix K s prefix_).bind fun r_ => (if r_ = true then ((sub s (prefix_.length : Int) (s.length : Int)).bind fun t => (some t)) else (some s))

-- strings.TrimPrefix
def strings_TrimPrefix (K : Nat) (s : List UInt8) (prefix_ : List UInt8) : Option (List UInt8) :=
  (stringslite_TrimPrefix K s prefix_).bind fun r_ => (some r_)

-- holdfast/codec.Number
def codec_Number (K : Nat) (n1 : Int) : Option ((List UInt8) × Int) :=
  if ((decide (n1 < (0 : Int))) || (decide ((4611686018427387904 : Int) < n1))) = true then (some (([] : List UInt8), (2 : Int))) else ((strconv_FormatInt_57 K n1 (16 : Int)).bind fun r_ => ((strings_TrimPrefix K r_ ([48] : List UInt8)).bind fun r_1 => ((app 9223372036854775807 (runeS (R32 (W ((97 : Int) + (r_1.length : Int))))) r_1).bind fun t => (some (t, (0 : Int))))))

-- strings.Count
def strings_Count (K : Nat) (s sub : List UInt8) : Option Int := match sub with
  | [x] => some ((Go.Lib.countByte s x : Nat) : Int)
  | _ => none

-- strings.Replace
def strings_Replace.j1 (K : Nat) (n2 : Int) : Option (List UInt8) :=
  none
def strings_Replace (K : Nat) (s : List UInt8) (old : List UInt8) (new : List UInt8) (n1 : Int) : Option (List UInt8) :=
  if ((decide (old = new)) || (decide (n1 = (0 : Int)))) = true then (some s) else ((strings_Count K s old).bind fun r_ => (if (decide (r_ = (0 : Int))) = true then (some s) else (if ((decide (n1 < (0 : Int))) || (decide (r_ < n1))) = true then (strings_Replace.j1 K r_) else (strings_Replace.j1 K n1))))

-- strings.ReplaceAll
def strings_ReplaceAll (K : Nat) (s : List UInt8) (old : List UInt8) (new : List UInt8) : Option (List UInt8) :=
  (strings_Replace K s old new (-1 : Int)).bind fun r_ => (some r_)

-- holdfast/codec.Key
def codec_Key.l1 (K : Nat) : Nat → (List (List UInt8)) → (List UInt8) → Int → Option (Lr ((List UInt8) × Int) (List UInt8))
  | 0, _, _, _ => none
  | k + 1, parts, out, x17 => if (decide (x17 < (parts.length : Int))) = true then ((gt parts x17).bind fun e1 => (if (decide ((64 : Int) < (e1.length : Int))) = true then (some (.ret (([] : List UInt8), (6 : Int)))) else ((strings_ReplaceAll K e1 ([0] : List UInt8) ([0, 255] : List UInt8)).bind fun r_ => ((app 140737488355328 out r_).bind fun out2 => ((some ([(0 : UInt8), (1 : UInt8)] : List UInt8)).bind fun l1 => ((app 140737488355328 out2 l1).bind fun out3 => (codec_Key.l1 K k parts out3 (W (x17 + (1 : Int)))))))))) else (some (.go out))
def codec_Key (K : Nat) (parts : List (List UInt8)) : Option ((List UInt8) × Int) :=
  if ((decide ((parts.length : Int) < (1 : Int))) || (decide ((8 : Int) < (parts.length : Int)))) = true then (some (([] : List UInt8), (2 : Int))) else ((codec_Key.l1 K K parts ([] : List UInt8) (0 : Int)).bind fun q => (lrc q (fun a => some a) (fun out1 => if (decide ((64 : Int) < (out1.length : Int))) = true then (some (([] : List UInt8), (6 : Int))) else (some (out1, (0 : Int))))))

-- holdfast/hash.rounds
def hash_rounds (K : Nat) : Option (List UInt32) :=
  (some ([(1116352408 : UInt32), (1899447441 : UInt32), (3049323471 : UInt32), (3921009573 : UInt32), (961987163 : UInt32), (1508970993 : UInt32), (2453635748 : UInt32), (2870763221 : UInt32), (3624381080 : UInt32), (310598401 : UInt32), (607225278 : UInt32), (1426881987 : UInt32), (1925078388 : UInt32), (2162078206 : UInt32), (2614888103 : UInt32), (3248222580 : UInt32), (3835390401 : UInt32), (4022224774 : UInt32), (264347078 : UInt32), (604807628 : UInt32), (770255983 : UInt32), (1249150122 : UInt32), (1555081692 : UInt32), (1996064986 : UInt32), (2554220882 : UInt32), (2821834349 : UInt32), (2952996808 : UInt32), (3210313671 : UInt32), (3336571891 : UInt32), (3584528711 : UInt32), (113926993 : UInt32), (338241895 : UInt32), (666307205 : UInt32), (773529912 : UInt32), (1294757372 : UInt32), (1396182291 : UInt32), (1695183700 : UInt32), (1986661051 : UInt32), (2177026350 : UInt32), (2456956037 : UInt32), (2730485921 : UInt32), (2820302411 : UInt32), (3259730800 : UInt32), (3345764771 : UInt32), (3516065817 : UInt32), (3600352804 : UInt32), (4094571909 : UInt32), (275423344 : UInt32), (430227734 : UInt32), (506948616 : UInt32), (659060556 : UInt32), (883997877 : UInt32), (958139571 : UInt32), (1322822218 : UInt32), (1537002063 : UInt32), (1747873779 : UInt32), (1955562222 : UInt32), (2024104815 : UInt32), (2227730452 : UInt32), (2361852424 : UInt32), (2428436474 : UInt32), (2756734187 : UInt32), (3204031479 : UInt32), (3329325298 : UInt32)] : List UInt32)).bind fun l1 => (some l1)

-- math/bits.RotateLeft32
def bits_RotateLeft32 (K : Nat) (x : UInt32) (k1 : Int) : Option UInt32 :=
  some ((shl32 x ((iU64 k1) &&& (31 : UInt64)).toNat) ||| (shr32 x ((32 : UInt64) - ((iU64 k1) &&& (31 : UInt64))).toNat))

-- (holdfast/hash.words).mix
def hash_words_mix.l1 (K : Nat) : Nat → (List UInt8) → (List UInt32) → Int → Option (List UInt32)
  | 0, _, _, _ => none
  | k + 1, b, xs, x18 => if (decide (x18 < (64 : Int))) = true then (if (decide (x18 < (16 : Int))) = true then ((gt b (W ((4 : Int) * x18))).bind fun e => ((gt b (W ((W ((4 : Int) * x18)) + (1 : Int)))).bind fun e1 => ((gt b (W ((W ((4 : Int) * x18)) + (2 : Int)))).bind fun e2 => ((gt b (W ((W ((4 : Int) * x18)) + (3 : Int)))).bind fun e3 => ((req (0 ≤ x18 ∧ x18 < (xs.length : Int))).bind fun u => ((some (xs.set (x18).toNat ((((shl32 e.toUInt32 24) ||| (shl32 e1.toUInt32 16)) ||| (shl32 e2.toUInt32 8)) ||| e3.toUInt32))).bind fun xs2 => (hash_words_mix.l1 K k b xs2 (W (x18 + (1 : Int)))))))))) else ((gt xs (W (x18 - (15 : Int)))).bind fun e4 => ((bits_RotateLeft32 K e4 (-7 : Int)).bind fun r_ => ((gt xs (W (x18 - (15 : Int)))).bind fun e5 => ((bits_RotateLeft32 K e5 (-18 : Int)).bind fun r_1 => ((gt xs (W (x18 - (15 : Int)))).bind fun e6 => ((gt xs (W (x18 - (2 : Int)))).bind fun e7 => ((bits_RotateLeft32 K e7 (-17 : Int)).bind fun r_2 => ((gt xs (W (x18 - (2 : Int)))).bind fun e8 => ((bits_RotateLeft32 K e8 (-19 : Int)).bind fun r_3 => ((gt xs (W (x18 - (2 : Int)))).bind fun e9 => ((gt xs (W (x18 - (16 : Int)))).bind fun e10 => ((gt xs (W (x18 - (7 : Int)))).bind fun e11 => ((req (0 ≤ x18 ∧ x18 < (xs.length : Int))).bind fun u1 => ((some (xs.set (x18).toNat (((e10 + ((r_ ^^^ r_1) ^^^ (shr32 e6 3))) + e11) + ((r_2 ^^^ r_3) ^^^ (shr32 e9 10))))).bind fun xs3 => (hash_words_mix.l1 K k b xs3 (W (x18 + (1 : Int))))))))))))))))))) else (some xs)
def hash_words_mix.l2 (K : Nat) : Nat → (List UInt32) → (List UInt32) → (List UInt32) → Int → Option (List UInt32)
  | 0, _, _, _, _ => none
  | k + 1, k1, xs1, h38, x109 => if (decide (x109 < (64 : Int))) = true then ((bits_RotateLeft32 K (h38.getD 4 0) (-6 : Int)).bind fun r_4 => ((bits_RotateLeft32 K (h38.getD 4 0) (-11 : Int)).bind fun r_5 => ((bits_RotateLeft32 K (h38.getD 4 0) (-25 : Int)).bind fun r_6 => ((gt k1 x109).bind fun e12 => ((gt xs1 x109).bind fun e13 => ((bits_RotateLeft32 K (h38.getD 0 0) (-2 : Int)).bind fun r_7 => ((bits_RotateLeft32 K (h38.getD 0 0) (-13 : Int)).bind fun r_8 => ((bits_RotateLeft32 K (h38.getD 0 0) (-22 : Int)).bind fun r_9 => ((some (h38.take 1 ++ ((h38.take 7).drop 0).take 7 ++ h38.drop (1 + min ((h38.take 7).drop 0).length 7))).bind fun h74 => ((some (h74.set 4 ((h74.getD 4 0) + (((((h38.getD 7 0) + ((r_4 ^^^ r_5) ^^^ r_6)) + ((h38.getD 6 0) ^^^ ((h38.getD 4 0) &&& ((h38.getD 5 0) ^^^ (h38.getD 6 0))))) + e12) + e13)))).bind fun h75 => ((some (h75.set 0 ((((((h38.getD 7 0) + ((r_4 ^^^ r_5) ^^^ r_6)) + ((h38.getD 6 0) ^^^ ((h38.getD 4 0) &&& ((h38.getD 5 0) ^^^ (h38.getD 6 0))))) + e12) + e13) + (((r_7 ^^^ r_8) ^^^ r_9) + (((h38.getD 0 0) &&& (h38.getD 1 0)) ||| ((h38.getD 2 0) &&& ((h38.getD 0 0) ||| (h38.getD 1 0)))))))).bind fun h76 => (hash_words_mix.l2 K k k1 xs1 h76 (W (x109 + (1 : Int))))))))))))))) else (some h38)
def hash_words_mix.l3 : Nat → (List UInt32) → (List UInt32) → Int → Option (List UInt32)
  | 0, _, _, _ => none
  | k + 1, h39, h80, x189 => if (decide (x189 < (8 : Int))) = true then ((gt h80 x189).bind fun e14 => ((gt h39 x189).bind fun e15 => ((req (0 ≤ x189 ∧ x189 < (h80.length : Int))).bind fun u2 => ((some (h80.set (x189).toNat (e14 + e15))).bind fun h90 => (hash_words_mix.l3 k h39 h90 (W (x189 + (1 : Int)))))))) else (some h80)
def hash_words_mix (K : Nat) (h : List UInt32) (k1 : List UInt32) (b : List UInt8) : Option (List UInt32) :=
  (hash_words_mix.l1 K K b (List.replicate 64 (0 : UInt32)) (0 : Int)).bind fun xs1 => ((hash_words_mix.l2 K K k1 xs1 h (0 : Int)).bind fun h39 => ((hash_words_mix.l3 K h39 h (0 : Int)).bind fun h81 => (some h81)))

-- bytes.Clone
def bytes_Clone (K : Nat) (b : List UInt8) : Option (List UInt8) := app 140737488355328 ([] : List UInt8) b

-- holdfast/hash.Sum
def hash_Sum.l1 (K : Nat) : Nat → (List UInt32) → (List UInt8) → (List UInt32) → Option ((List UInt8) × (List UInt32))
  | 0, _, _, _ => none
  | k + 1, r_, b1, l2 => if (decide ((64 : Int) ≤ (b1.length : Int))) = true then ((hash_words_mix K l2 r_ b1).bind fun r_1 => ((sub b1 (64 : Int) (b1.length : Int)).bind fun ys => (hash_Sum.l1 K k r_ ys r_1))) else (some (b1, l2))
def hash_Sum.l2 : Nat → (List UInt8) → (List UInt8) → Int → Option (List UInt8)
  | 0, _, _, _ => none
  | k + 1, b, end_, x35 => if (decide (x35 < (8 : Int))) = true then ((shc (W ((56 : Int) - (W ((8 : Int) * x35))))).bind fun k1 => ((some ([(shr64 (shl64 (iU64 (b.length : Int)) 3) (W ((56 : Int) - (W ((8 : Int) * x35)))).toNat).toUInt8] : List UInt8)).bind fun l11 => ((app 140737488355328 end_ l11).bind fun end_2 => (hash_Sum.l2 k b end_2 (W (x35 + (1 : Int))))))) else (some end_)
def hash_Sum.l3 (K : Nat) : Nat → (List UInt32) → (List UInt32) → (List UInt8) → Option (List UInt32)
  | 0, _, _, _ => none
  | k + 1, r_, l12, end_3 => if (decide ((0 : Int) < (end_3.length : Int))) = true then ((hash_words_mix K l12 r_ end_3).bind fun r_4 => ((sub end_3 (64 : Int) (end_3.length : Int)).bind fun ys1 => (hash_Sum.l3 K k r_ r_4 ys1))) else (some l12)
def hash_Sum.l4 : Nat → (List UInt32) → (List UInt8) → Int → Option (List UInt8)
  | 0, _, _, _ => none
  | k + 1, l13, xs1, x58 => if (decide (x58 < (8 : Int))) = true then ((gt l13 x58).bind fun e => ((req (0 ≤ W ((4 : Int) * x58) ∧ W ((4 : Int) * x58) < (xs1.length : Int))).bind fun u => ((some (xs1.set (W ((4 : Int) * x58)).toNat ((shr32 e 24).toUInt8))).bind fun xs3 => ((req (0 ≤ W ((W ((4 : Int) * x58)) + (1 : Int)) ∧ W ((W ((4 : Int) * x58)) + (1 : Int)) < (xs3.length : Int))).bind fun u1 => ((some (xs3.set (W ((W ((4 : Int) * x58)) + (1 : Int))).toNat ((shr32 e 16).toUInt8))).bind fun xs4 => ((req (0 ≤ W ((W ((4 : Int) * x58)) + (2 : Int)) ∧ W ((W ((4 : Int) * x58)) + (2 : Int)) < (xs4.length : Int))).bind fun u2 => ((some (xs4.set (W ((W ((4 : Int) * x58)) + (2 : Int))).toNat ((shr32 e 8).toUInt8))).bind fun xs5 => ((req (0 ≤ W ((W ((4 : Int) * x58)) + (3 : Int)) ∧ W ((W ((4 : Int) * x58)) + (3 : Int)) < (xs5.length : Int))).bind fun u3 => ((some (xs5.set (W ((W ((4 : Int) * x58)) + (3 : Int))).toNat e.toUInt8)).bind fun xs6 => (hash_Sum.l4 k l13 xs6 (W (x58 + (1 : Int))))))))))))) else (some xs1)
def hash_Sum (K : Nat) (b : List UInt8) : Option (List UInt8) :=
  (some ([(1779033703 : UInt32), (3144134277 : UInt32), (1013904242 : UInt32), (2773480762 : UInt32), (1359893119 : UInt32), (2600822924 : UInt32), (528734635 : UInt32), (1541459225 : UInt32)] : List UInt32)).bind fun l1 => ((hash_rounds K).bind fun r_ => ((hash_Sum.l1 K K r_ b l1).bind fun q => ((fun b2 l3 => (bytes_Clone K b2).bind fun r_2 => ((some ([(128 : UInt8)] : List UInt8)).bind fun l9 => ((app 140737488355328 r_2 l9).bind fun r_3 => (((mks 140737488355328 (0 : UInt8) ((W ((119 : Int) - (b2.length : Int))).tmod (64 : Int))).bind fun z1 => app 140737488355328 r_3 z1).bind fun xs => ((hash_Sum.l2 K b xs (0 : Int)).bind fun end_1 => ((hash_Sum.l3 K K r_ l3 end_1).bind fun l13 => ((hash_Sum.l4 K l13 (List.replicate 32 (0 : UInt8)) (0 : Int)).bind fun xs2 => (some xs2)))))))) q.1 q.2)))

-- holdfast/hash.Tag
def hash_Tag.l1 : Nat → (List UInt8) → (List UInt8) → Int → Option ((List UInt8) × (List UInt8))
  | 0, _, _, _ => none
  | k + 1, xs1, xs2, x20 => if (decide (x20 < (64 : Int))) = true then ((gt xs1 x20).bind fun e => ((req (0 ≤ x20 ∧ x20 < (xs1.length : Int))).bind fun u => ((some (xs1.set (x20).toNat (e ^^^ (54 : UInt8)))).bind fun xs5 => ((gt xs2 x20).bind fun e1 => ((req (0 ≤ x20 ∧ x20 < (xs2.length : Int))).bind fun u1 => ((some (xs2.set (x20).toNat (e1 ^^^ (92 : UInt8)))).bind fun xs6 => (hash_Tag.l1 k xs5 xs6 (W (x20 + (1 : Int)))))))))) else (some (xs1, xs2))
def hash_Tag.j1 (K : Nat) (b : List UInt8) (key1 : List UInt8) : Option (List UInt8) :=
  (some ((List.replicate 64 (0 : UInt8)).take 0 ++ key1.take 64 ++ (List.replicate 64 (0 : UInt8)).drop (0 + min key1.length 64))).bind fun xs => ((hash_Tag.l1 K xs xs (0 : Int)).bind fun q => ((fun xs3 xs4 => (app 140737488355328 xs3 b).bind fun xs7 => ((hash_Sum K xs7).bind fun r_1 => ((app 140737488355328 xs4 r_1).bind fun xs8 => ((hash_Sum K xs8).bind fun r_2 => (some r_2))))) q.1 q.2))
def hash_Tag (K : Nat) (key : List UInt8) (b : List UInt8) : Option (List UInt8) :=
  if (decide ((64 : Int) < (key.length : Int))) = true then ((hash_Sum K key).bind fun r_ => (hash_Tag.j1 K b r_)) else (hash_Tag.j1 K b key)

-- holdfast/hash.Derive
def hash_Derive (K : Nat) (key : List UInt8) (labels : List (List UInt8)) : Option ((List UInt8) × Int) :=
  (codec_Key K labels).bind fun r_ => (if (!decide (r_.2 = (0 : Int))) = true then ((some ([(0 : UInt8), (0 : UInt8), (0 : UInt8), (0 : UInt8), (0 : UInt8), (0 : UInt8), (0 : UInt8), (0 : UInt8), (0 : UInt8), (0 : UInt8), (0 : UInt8), (0 : UInt8), (0 : UInt8), (0 : UInt8), (0 : UInt8), (0 : UInt8), (0 : UInt8), (0 : UInt8), (0 : UInt8), (0 : UInt8), (0 : UInt8), (0 : UInt8), (0 : UInt8), (0 : UInt8), (0 : UInt8), (0 : UInt8), (0 : UInt8), (0 : UInt8), (0 : UInt8), (0 : UInt8), (0 : UInt8), (0 : UInt8)] : List UInt8)).bind fun l1 => (some (l1, r_.2))) else ((hash_Tag K key r_.1).bind fun r_1 => (some (r_1, (0 : Int)))))

-- (*holdfast/keys.Tree).Key
def keys_Tree_Key (K : Nat) (t : S_keys_Tree) (tenant : List UInt8) (name : List UInt8) (version : Int) : Option ((List UInt8) × Int) :=
  (keys_Tree_Current K (⟨t.root, t.sealed, t.gone, t.at_⟩ : S_keys_Tree) tenant name).bind fun r_ => (if (!decide (r_.2 = (0 : Int))) = true then ((some ([(0 : UInt8), (0 : UInt8), (0 : UInt8), (0 : UInt8), (0 : UInt8), (0 : UInt8), (0 : UInt8), (0 : UInt8), (0 : UInt8), (0 : UInt8), (0 : UInt8), (0 : UInt8), (0 : UInt8), (0 : UInt8), (0 : UInt8), (0 : UInt8), (0 : UInt8), (0 : UInt8), (0 : UInt8), (0 : UInt8), (0 : UInt8), (0 : UInt8), (0 : UInt8), (0 : UInt8), (0 : UInt8), (0 : UInt8), (0 : UInt8), (0 : UInt8), (0 : UInt8), (0 : UInt8), (0 : UInt8), (0 : UInt8)] : List UInt8)).bind fun l1 => (some (l1, r_.2))) else (if ((decide (version < (1 : Int))) || (decide (r_.1 < version))) = true then ((some ([(0 : UInt8), (0 : UInt8), (0 : UInt8), (0 : UInt8), (0 : UInt8), (0 : UInt8), (0 : UInt8), (0 : UInt8), (0 : UInt8), (0 : UInt8), (0 : UInt8), (0 : UInt8), (0 : UInt8), (0 : UInt8), (0 : UInt8), (0 : UInt8), (0 : UInt8), (0 : UInt8), (0 : UInt8), (0 : UInt8), (0 : UInt8), (0 : UInt8), (0 : UInt8), (0 : UInt8), (0 : UInt8), (0 : UInt8), (0 : UInt8), (0 : UInt8), (0 : UInt8), (0 : UInt8), (0 : UInt8), (0 : UInt8)] : List UInt8)).bind fun l4 => (some (l4, (2 : Int)))) else ((codec_Number K version).bind fun r_1 => ((some ([tenant, name, r_1.1] : List (List UInt8))).bind fun l7 => ((hash_Derive K t.root l7).bind fun r_2 => (some (r_2.1, r_2.2)))))))

-- holdfast/seal.eight
def seal_eight.l1 : Nat → (List UInt8) → UInt64 → (List UInt8) → Int → Option (List UInt8)
  | 0, _, _, _, _ => none
  | k + 1, out, n1, out1, x8 => if (decide (x8 < (out.length : Int))) = true then ((shc (W ((56 : Int) - (W ((8 : Int) * x8))))).bind fun k1 => ((req (0 ≤ x8 ∧ x8 < (out1.length : Int))).bind fun u => ((some (out1.set (x8).toNat ((shr64 n1 (W ((56 : Int) - (W ((8 : Int) * x8)))).toNat).toUInt8))).bind fun out3 => (seal_eight.l1 k out n1 out3 (W (x8 + (1 : Int))))))) else (some out1)
def seal_eight (K : Nat) (n1 : UInt64) : Option (List UInt8) :=
  (some (List.replicate 8 (0 : UInt8))).bind fun out => ((seal_eight.l1 K out n1 out (0 : Int)).bind fun out2 => (some out2))

-- holdfast/seal.blocks
def seal_blocks (K : Nat) (key : List UInt8) (once : UInt64) : Option ((List UInt8) × UInt64) :=
  some (key, once)

-- slices.Grow[[]byte,byte]
def slices_Grow_byte_byte.j2 (K : Nat) (s1 : List UInt8) : Option (List UInt8) :=
  some s1
def slices_Grow_byte_byte.j1 (K : Nat) (n1 : Int) : Option (List UInt8) :=
  if (decide ((0 : Int) < W (n1 - (W ((0 : Int) - (0 : Int)))))) = true then ((sub ([] : List UInt8) (0 : Int) (0 : Int)).bind fun ys => (((mks 140737488355328 (0 : UInt8) (W (n1 - (W ((0 : Int) - (0 : Int)))))).bind fun z1 => app 140737488355328 ys z1).bind fun xs => ((sub xs (0 : Int) (0 : Int)).bind fun ys1 => (slices_Grow_byte_byte.j2 K ys1)))) else (slices_Grow_byte_byte.j2 K ([] : List UInt8))
def slices_Grow_byte_byte (K : Nat) (n1 : Int) : Option (List UInt8) :=
  if (decide (n1 < (0 : Int))) = true then (none) else (slices_Grow_byte_byte.j1 K n1)

-- slices.Concat[[]byte,byte]
def slices_Concat_byte_byte.l1 : Nat → (List (List UInt8)) → Int → Int → Option Int
  | 0, _, _, _ => none
  | k + 1, slices, size, x11 => if (decide (x11 < (slices.length : Int))) = true then ((gt slices x11).bind fun e => (if (decide (W (size + (e.length : Int)) < (0 : Int))) = true then (none) else (slices_Concat_byte_byte.l1 k slices (W (size + (e.length : Int))) (W (x11 + (1 : Int)))))) else (some size)
def slices_Concat_byte_byte.l2 : Nat → (List (List UInt8)) → (List UInt8) → Int → Option (List UInt8)
  | 0, _, _, _ => none
  | k + 1, slices, newslice, x27 => if (decide (x27 < (slices.length : Int))) = true then ((gt slices x27).bind fun e2 => ((app 140737488355328 newslice e2).bind fun newslice2 => (slices_Concat_byte_byte.l2 k slices newslice2 (W (x27 + (1 : Int)))))) else (some newslice)
def slices_Concat_byte_byte (K : Nat) (slices : List (List UInt8)) : Option (List UInt8) :=
  (slices_Concat_byte_byte.l1 K slices (0 : Int) (0 : Int)).bind fun size1 => ((slices_Grow_byte_byte K size1).bind fun r_ => ((slices_Concat_byte_byte.l2 K slices r_ (0 : Int)).bind fun newslice1 => (some newslice1)))

-- holdfast/seal.blocks$1
def seal_blocks_1.l1 {σ : Type} (Y : σ → (List UInt8) → Option (Bool × σ)) (K : Nat) : Nat → UInt64 → (List UInt8) → σ → UInt64 → Option σ
  | 0, _, _, _, _ => none
  | k + 1, x2, x1, yield1, i => (some ([(115 : UInt8)] : List UInt8)).bind fun l2 => ((seal_eight K x2).bind fun r_ => ((seal_eight K i).bind fun r_1 => ((slices_Concat_byte_byte K ([l2, r_, r_1] : List (List UInt8))).bind fun r_2 => ((hash_Tag K x1 r_2).bind fun r_3 => ((Y yield1 r_3).bind fun q1 => (if q1.1 = true then (seal_blocks_1.l1 Y K k x2 x1 q1.2 (i + (1 : UInt64))) else (some q1.2)))))))
def seal_blocks_1 {σ : Type} (Y : σ → (List UInt8) → Option (Bool × σ)) (K : Nat) (yield : σ) (x1 : List UInt8) (x2 : UInt64) : Option σ :=
  (seal_blocks_1.l1 Y K K x2 x1 yield (0 : UInt64)).bind fun yield2 => (some yield2)

-- holdfast/seal.Stream
def seal_Stream.y1 (K : Nat) (n1 : Int) (s : (List UInt8)) (x : (List UInt8)) : Option (Option Nat × (List UInt8)) :=
  (fun xs => if (decide (n1 ≤ (xs.length : Int))) = true then (some (some 1, xs)) else ((app 140737488355328 xs x).bind fun xs1 => (some (none, xs1)))) s
def seal_Stream (K : Nat) (key : List UInt8) (once : UInt64) (n1 : Int) : Option ((List UInt8) × Int) :=
  if ((decide (n1 < (0 : Int))) || (decide ((1024 : Int) < n1))) = true then (some ([], (2 : Int))) else ((seal_blocks K key once).bind fun r_ => ((seal_blocks_1 (Yc (seal_Stream.y1 K n1)) K (([] : List UInt8), none) r_.1 r_.2).bind fun q => ((fun xs j => jm j ((sub xs (0 : Int) n1).bind fun ys => (some (ys, (0 : Int)))) (fun j => if j = 1 then ((sub xs (0 : Int) n1).bind fun ys1 => (some (ys1, (0 : Int)))) else none)) q.1 q.2)))

-- holdfast/seal.hidden
def seal_hidden.l1 : Nat → (List UInt8) → (List UInt8) → Int → Option (List UInt8)
  | 0, _, _, _ => none
  | k + 1, b, out, x21 => if (decide (x21 < (b.length : Int))) = true then ((gt b x21).bind fun e => ((gt out x21).bind fun e1 => ((req (0 ≤ x21 ∧ x21 < (out.length : Int))).bind fun u => ((some (out.set (x21).toNat (e1 ^^^ e))).bind fun out2 => (seal_hidden.l1 k b out2 (W (x21 + (1 : Int)))))))) else (some out)
def seal_hidden (K : Nat) (key : List UInt8) (once : UInt64) (b : List UInt8) : Option (List UInt8) :=
  (seal_Stream K key once (b.length : Int)).bind fun r_ => ((seal_hidden.l1 K b r_.1 (0 : Int)).bind fun out1 => (some out1))

-- holdfast/seal.tagOf
def seal_tagOf (K : Nat) (key : List UInt8) (body : List UInt8) : Option (List UInt8) :=
  (some ([(116 : UInt8)] : List UInt8)).bind fun l1 => ((app 140737488355328 l1 body).bind fun l2 => ((hash_Tag K key l2).bind fun r_ => ((req (16 ≤ ((r_.take 16).drop 0).length)).bind fun u => (some (((r_.take 16).drop 0).take 16)))))

-- holdfast/seal.Seal
def seal_Seal (K : Nat) (key : List UInt8) (once : UInt64) (plain : List UInt8) : Option ((List UInt8) × Int) :=
  if (decide ((1024 : Int) < (plain.length : Int))) = true then (some ([], (6 : Int))) else ((seal_eight K once).bind fun r_ => ((seal_hidden K key once plain).bind fun r_1 => ((app 140737488355328 r_ r_1).bind fun r_2 => ((seal_tagOf K key r_2).bind fun r_3 => ((app 140737488355328 r_2 r_3).bind fun r_4 => (some (r_4, (0 : Int))))))))

-- (*holdfast/keys.Tree).Seal
def keys_Tree_Seal (K : Nat) (t : S_keys_Tree) (tenant : List UInt8) (name : List UInt8) (plain : List UInt8) : Option ((List UInt8) × Int × S_keys_Tree) :=
  (keys_Tree_Current K (⟨t.root, t.sealed, t.gone, t.at_⟩ : S_keys_Tree) tenant name).bind fun r_ => (if (!decide (r_.2 = (0 : Int))) = true then (some (([] : List UInt8), r_.2, (⟨t.root, t.sealed, t.gone, t.at_⟩ : S_keys_Tree))) else ((keys_Tree_Key K (⟨t.root, t.sealed, t.gone, t.at_⟩ : S_keys_Tree) tenant name r_.1).bind fun r_1 => ((seal_Seal K r_1.1 (iU64 t.sealed) plain).bind fun r_2 => (if (!decide (r_2.2 = (0 : Int))) = true then (some (([] : List UInt8), r_2.2, (⟨t.root, t.sealed, t.gone, t.at_⟩ : S_keys_Tree))) else (if (decide ((1099511627776 : Int) ≤ t.sealed)) = true then (some (([] : List UInt8), (7 : Int), (⟨t.root, t.sealed, t.gone, t.at_⟩ : S_keys_Tree))) else ((some ([iU8 r_.1] : List UInt8)).bind fun l3 => ((app 140737488355328 l3 r_2.1).bind fun l4 => (some (l4, (0 : Int), (⟨t.root, W (t.sealed + (1 : Int)), t.gone, t.at_⟩ : S_keys_Tree))))))))))

-- (*holdfast/keys.Tree).Rotate
def keys_Tree_Rotate (K : Nat) (t : S_keys_Tree) (tenant : List UInt8) (name : List UInt8) : Option (Int × Int × S_keys_Tree) :=
  (keys_Tree_Current K (⟨t.root, t.sealed, t.gone, t.at_⟩ : S_keys_Tree) tenant name).bind fun r_ => (if (!decide (r_.2 = (0 : Int))) = true then (some ((0 : Int), r_.2, (⟨t.root, t.sealed, t.gone, t.at_⟩ : S_keys_Tree))) else (if ((decide ((16 : Int) ≤ r_.1)) || ((decide (r_.1 = (1 : Int))) && (decide ((16 : Int) ≤ (t.at_.length : Int))))) = true then (some ((0 : Int), (7 : Int), (⟨t.root, t.sealed, t.gone, t.at_⟩ : S_keys_Tree))) else ((some (mset t.at_ (⟨tenant, name⟩ : S_keys_purpose) (W (r_.1 + (1 : Int))))).bind fun m => (some (W (r_.1 + (1 : Int)), (0 : Int), (⟨t.root, t.sealed, t.gone, m⟩ : S_keys_Tree))))))

-- holdfast/seal.Size
def seal_Size (K : Nat) (plain : Int) : Option Int :=
  if ((decide (plain < (0 : Int))) || (decide ((1024 : Int) < plain))) = true then (some (0 : Int)) else (some (W (plain + (24 : Int))))

-- holdfast/seal.Open
def seal_Open.l1 : Nat → (List UInt8) → UInt64 → Int → Option UInt64
  | 0, _, _, _ => none
  | k + 1, ys2, once, x37 => if (decide (x37 < (ys2.length : Int))) = true then ((gt ys2 x37).bind fun e => (seal_Open.l1 k ys2 ((shl64 once 8) ||| e.toUInt64) (W (x37 + (1 : Int))))) else (some once)
def seal_Open (K : Nat) (key : List UInt8) (sealed : List UInt8) : Option ((List UInt8) × UInt64 × Int) :=
  (seal_Size K (0 : Int)).bind fun r_ => (if (decide ((sealed.length : Int) < r_)) = true then (some ([], (0 : UInt64), (3 : Int))) else ((seal_Size K (1024 : Int)).bind fun r_1 => (if (decide (r_1 < (sealed.length : Int))) = true then (some ([], (0 : UInt64), (6 : Int))) else ((sub sealed (0 : Int) (W ((sealed.length : Int) - (16 : Int)))).bind fun ys => ((seal_tagOf K key ys).bind fun r_2 => ((sub sealed (W ((sealed.length : Int) - (16 : Int))) (sealed.length : Int)).bind fun ys1 => ((req (16 ≤ ys1.length)).bind fun u => (if (!decide (r_2 = (ys1.take 16))) = true then (some ([], (0 : UInt64), (10 : Int))) else ((sub sealed (0 : Int) (8 : Int)).bind fun ys2 => ((seal_Open.l1 K ys2 (0 : UInt64) (0 : Int)).bind fun once1 => ((sub sealed (8 : Int) (W ((sealed.length : Int) - (16 : Int)))).bind fun ys3 => ((seal_hidden K key once1 ys3).bind fun r_3 => (some (r_3, once1, (0 : Int)))))))))))))))

-- (*holdfast/keys.Tree).Open
def keys_Tree_Open.j1 (K : Nat) (sealed : List UInt8) (t : S_keys_Tree) (tenant : List UInt8) (name : List UInt8) (e1 : Int) : Option ((List UInt8) × Int × Int) :=
  if (!decide (e1 = (0 : Int))) = true then (some (([] : List UInt8), (0 : Int), e1)) else ((gt sealed (0 : Int)).bind fun e2 => ((keys_Tree_Key K (⟨t.root, t.sealed, t.gone, t.at_⟩ : S_keys_Tree) tenant name (e2.toNat : Int)).bind fun r_1 => (if (!decide (r_1.2 = (0 : Int))) = true then (some (([] : List UInt8), (0 : Int), r_1.2)) else ((sub sealed (1 : Int) (sealed.length : Int)).bind fun ys1 => ((seal_Open K r_1.1 ys1).bind fun r_2 => (if (!decide (r_2.2.2 = (0 : Int))) = true then (some (([] : List UInt8), (0 : Int), r_2.2.2)) else (some (r_2.1, (e2.toNat : Int), (0 : Int)))))))))
def keys_Tree_Open (K : Nat) (t : S_keys_Tree) (tenant : List UInt8) (name : List UInt8) (sealed : List UInt8) : Option ((List UInt8) × Int × Int) :=
  (keys_Tree_Current K (⟨t.root, t.sealed, t.gone, t.at_⟩ : S_keys_Tree) tenant name).bind fun r_ => (if ((decide (r_.2 = (0 : Int))) && (decide ((sealed.length : Int) = (0 : Int)))) = true then (keys_Tree_Open.j1 K sealed t tenant name (3 : Int)) else (keys_Tree_Open.j1 K sealed t tenant name r_.2))

-- holdfast/holdfastlaw09.live
def holdfastlaw09_live (K : Nat) : Option Bool :=
  (some ([(1 : UInt8), (0 : UInt8), (0 : UInt8), (0 : UInt8), (0 : UInt8), (0 : UInt8), (0 : UInt8), (0 : UInt8), (0 : UInt8), (0 : UInt8), (0 : UInt8), (0 : UInt8), (0 : UInt8), (0 : UInt8), (0 : UInt8), (0 : UInt8), (0 : UInt8), (0 : UInt8), (0 : UInt8), (0 : UInt8), (0 : UInt8), (0 : UInt8), (0 : UInt8), (0 : UInt8), (0 : UInt8), (0 : UInt8), (0 : UInt8), (0 : UInt8), (0 : UInt8), (0 : UInt8), (0 : UInt8), (0 : UInt8)] : List UInt8)).bind fun l => ((keys_New K l).bind fun r_ => ((some ([(120 : UInt8)] : List UInt8)).bind fun l3 => ((keys_Tree_Seal K (⟨r_.root, r_.sealed, r_.gone, r_.at_⟩ : S_keys_Tree) ([97] : List UInt8) ([109, 97, 105, 108] : List UInt8) l3).bind fun r_1 => ((keys_Tree_Rotate K (⟨r_1.2.2.root, r_1.2.2.sealed, r_1.2.2.gone, r_1.2.2.at_⟩ : S_keys_Tree) ([97] : List UInt8) ([109, 97, 105, 108] : List UInt8)).bind fun r_2 => ((keys_Tree_Open K (⟨r_2.2.2.root, r_2.2.2.sealed, r_2.2.2.gone, r_2.2.2.at_⟩ : S_keys_Tree) ([97] : List UInt8) ([109, 97, 105, 108] : List UInt8) r_1.1).bind fun r_3 => (some ((((((decide (r_1.2.1 = (0 : Int))) && (decide (r_2.2.1 = (0 : Int)))) && (decide (r_2.1 = (2 : Int)))) && (decide (r_3.2.2 = (0 : Int)))) && (decide (r_3.2.1 = (1 : Int)))) && (decide (r_3.1 = ([120] : List UInt8))))))))))

-- (*holdfast/keys.Tree).Reseal
def keys_Tree_Reseal (K : Nat) (t : S_keys_Tree) (tenant : List UInt8) (name : List UInt8) (sealed : List UInt8) : Option ((List UInt8) × Bool × Int × S_keys_Tree) :=
  (keys_Tree_Open K (⟨t.root, t.sealed, t.gone, t.at_⟩ : S_keys_Tree) tenant name sealed).bind fun r_ => (if (!decide (r_.2.2 = (0 : Int))) = true then (some (([] : List UInt8), false, r_.2.2, (⟨t.root, t.sealed, t.gone, t.at_⟩ : S_keys_Tree))) else ((keys_Tree_Current K (⟨t.root, t.sealed, t.gone, t.at_⟩ : S_keys_Tree) tenant name).bind fun r_1 => (if (decide (r_1.1 = r_.2.1)) = true then ((bytes_Clone K sealed).bind fun r_2 => (some (r_2, false, (0 : Int), (⟨t.root, t.sealed, t.gone, t.at_⟩ : S_keys_Tree)))) else ((keys_Tree_Seal K (⟨t.root, t.sealed, t.gone, t.at_⟩ : S_keys_Tree) tenant name r_.1).bind fun r_3 => (some (r_3.1, decide (r_3.2.1 = (0 : Int)), r_3.2.1, (⟨r_3.2.2.root, r_3.2.2.sealed, r_3.2.2.gone, r_3.2.2.at_⟩ : S_keys_Tree)))))))

-- holdfast/keys.number
def keys_number (K : Nat) (n1 : Int) : Option (List UInt8) :=
  (codec_Number K n1).bind fun r_ => (some r_.1)

-- slices.SortFunc[[]holdfast/api.Row,holdfast/api.Row]
def api_Row_41_f42 (K : Nat) (x : List S_api_Row) : Option (List S_api_Row) := if x.length < 4611686018427387904 ∧ (x.map fun a => a.Key).Nodup then some (sortS (fun (a b : S_api_Row) => cmpS a.Key b.Key) x) else none

-- (*holdfast/keys.Tree).Rows
def keys_Tree_Rows.m1 (K : Nat) (x : (List UInt8) × Bool) (s : (List S_api_Row)) : Option (Lr Unit (List S_api_Row)) :=
  (fun k1 u out => (some ([(⟨k1, ([] : List (List UInt8))⟩ : S_api_Row)] : List S_api_Row)).bind fun l5 => ((app 3518437208883 out l5).bind fun out1 => (some (.go out1)))) x.1 x.2 s
def keys_Tree_Rows.m2 (K : Nat) (x : S_keys_purpose × Int) (s : (List S_api_Row)) : Option (Lr Unit (List S_api_Row)) :=
  (fun k2 u1 out2 => (app 9223372036854775807 k2.tenant ([47] : List UInt8)).bind fun t1 => ((app 9223372036854775807 t1 k2.name).bind fun t2 => ((keys_number K u1).bind fun r_1 => ((some ([r_1] : List (List UInt8))).bind fun l8 => ((some ([(⟨t2, l8⟩ : S_api_Row)] : List S_api_Row)).bind fun l9 => ((app 3518437208883 out2 l9).bind fun out3 => (some (.go out3)))))))) x.1 x.2 s
def keys_Tree_Rows (K : Nat) (t : S_keys_Tree) : Option (List S_api_Row) :=
  (keys_number K t.sealed).bind fun r_ => ((some ([r_] : List (List UInt8))).bind fun l1 => ((some ([(⟨([35] : List UInt8), l1⟩ : S_api_Row)] : List S_api_Row)).bind fun l2 => (mrngK (keys_Tree_Rows.m1 K : (List UInt8) × Bool → (List S_api_Row) → Option (Lr Unit (List S_api_Row))) t.gone l2 fun q => (lrc q (fun a => none) (fun z => (fun out => mrngK (keys_Tree_Rows.m2 K : S_keys_purpose × Int → (List S_api_Row) → Option (Lr Unit (List S_api_Row))) t.at_ out fun q1 => (lrc q1 (fun a => none) (fun z => (fun out2 => (api_Row_41_f42 K out2).bind fun r_2 => (some r_2)) z))) z)))))

-- strings.HasPrefix
def strings_HasPrefix (K : Nat) (s : List UInt8) (prefix_ : List UInt8) : Option Bool :=
  (stringslite_HasPrefix K s prefix_).bind fun r_ => (some r_)

-- internal/strconv.lower
def strconv_lower (K : Nat) (c_ : UInt8) : Option UInt8 :=
  some (c_ ||| (32 : UInt8))

-- internal/strconv.underscoreOK
def strconv_underscoreOK (K : Nat) (_s : List UInt8) : Option Bool := none

-- internal/strconv.ParseUint
def strconv_ParseUint_121.j4 (K : Nat) (lk1 : Bool → UInt64 → Int → Option (Lr (UInt64 × Unit) (Bool × UInt64))) (base1 : Int) (cutoff : UInt64) (n1 : UInt64) (bitSize1 : Int) (underscores : Bool) (x101 : Int) (d4 : UInt8) : Option (Lr (UInt64 × Unit) (Bool × UInt64)) :=
  if (decide (iU8 base1 ≤ d4)) = true then (none) else (if (decide (cutoff ≤ n1)) = true then (none) else (if ((decide ((n1 * (iU64 base1)) + d4.toUInt64 < n1 * (iU64 base1))) || (decide ((shl64 (1 : UInt64) (iU64 bitSize1).toNat) - (1 : UInt64) < (n1 * (iU64 base1)) + d4.toUInt64))) = true then (none) else (lk1 underscores ((n1 * (iU64 base1)) + d4.toUInt64) (W (x101 + (1 : Int))))))
def strconv_ParseUint_121.l1 (K : Nat) : Nat → (List UInt8) → Int → Int → UInt64 → Int → Bool → UInt64 → Int → Option (Lr (UInt64 × Unit) (Bool × UInt64))
  | 0, _, _, _, _, _, _, _, _ => none
  | k + 1, s1, base, base1, cutoff, bitSize1, underscores, n1, x101 => if (decide (x101 < (s1.length : Int))) = true then ((gt s1 x101).bind fun e5 => (if ((decide (e5 = (95 : UInt8))) && (decide (base = (0 : Int)))) = true then (strconv_ParseUint_121.l1 K k s1 base base1 cutoff bitSize1 true n1 (W (x101 + (1 : Int)))) else (if ((decide ((48 : UInt8) ≤ e5)) && (decide (e5 ≤ (57 : UInt8)))) = true then (strconv_ParseUint_121.j4 K (strconv_ParseUint_121.l1 K k s1 base base1 cutoff bitSize1) base1 cutoff n1 bitSize1 underscores x101 (e5 - (48 : UInt8))) else ((strconv_lower K e5).bind fun r_3 => ((if (decide ((97 : UInt8) ≤ r_3)) = true then ((strconv_lower K e5).bind fun r_4 => (some (decide (r_4 ≤ (122 : UInt8))))) else some false).bind fun b3 => (if b3 = true then ((strconv_lower K e5).bind fun r_5 => (strconv_ParseUint_121.j4 K (strconv_ParseUint_121.l1 K k s1 base base1 cutoff bitSize1) base1 cutoff n1 bitSize1 underscores x101 ((r_5 - (97 : UInt8)) + (10 : UInt8)))) else (none))))))) else (some (.go (underscores, n1)))
def strconv_ParseUint_121.j3 (K : Nat) (s1 : List UInt8) (base : Int) (base1 : Int) (bitSize1 : Int) (s : List UInt8) (cutoff : UInt64) : Option (UInt64 × Unit) :=
  (strconv_ParseUint_121.l1 K K s1 base base1 cutoff bitSize1 false (0 : UInt64) (0 : Int)).bind fun q => (lrc q (fun a => some a) (fun z => (fun underscores1 n2 => (if underscores1 = true then ((strconv_underscoreOK K s).bind fun r_6 => (some (!r_6))) else some false).bind fun b4 => (if b4 = true then (none) else (some (n2, ())))) z.1 z.2))
def strconv_ParseUint_121.j2 (K : Nat) (base1 : Int) (s1 : List UInt8) (base : Int) (s : List UInt8) (bitSize1 : Int) : Option (UInt64 × Unit) :=
  if (decide (base1 = (10 : Int))) = true then (strconv_ParseUint_121.j3 K s1 base base1 bitSize1 s (1844674407370955162 : UInt64)) else (if (decide (base1 = (16 : Int))) = true then (strconv_ParseUint_121.j3 K s1 base base1 bitSize1 s (1152921504606846976 : UInt64)) else ((req (iU64 base1 ≠ 0)).bind fun u => (strconv_ParseUint_121.j3 K s1 base base1 bitSize1 s (((18446744073709551615 : UInt64) / (iU64 base1)) + (1 : UInt64)))))
def strconv_ParseUint_121.j1 (K : Nat) (bitSize : Int) (base : Int) (s : List UInt8) (s1 : List UInt8) (base1 : Int) : Option (UInt64 × Unit) :=
  if (decide (bitSize = (0 : Int))) = true then (strconv_ParseUint_121.j2 K base1 s1 base s (64 : Int)) else (if ((decide (bitSize < (0 : Int))) || (decide ((64 : Int) < bitSize))) = true then (none) else (strconv_ParseUint_121.j2 K base1 s1 base s bitSize))
def strconv_ParseUint_121 (K : Nat) (s : List UInt8) (base : Int) (bitSize : Int) : Option (UInt64 × Unit) :=
  if (decide (s = ([] : List UInt8))) = true then (none) else (if ((decide ((2 : Int) ≤ base)) && (decide (base ≤ (36 : Int)))) = true then (strconv_ParseUint_121.j1 K bitSize base s s base) else (if (decide (base = (0 : Int))) = true then ((gt s (0 : Int)).bind fun e1 => (if (decide (e1 = (48 : UInt8))) = true then ((if (decide ((3 : Int) ≤ (s.length : Int))) = true then ((gt s (1 : Int)).bind fun e2 => ((strconv_lower K e2).bind fun r_ => (some (decide (r_ = (98 : UInt8)))))) else some false).bind fun b => (if b = true then ((sub s (2 : Int) (s.length : Int)).bind fun t1 => (strconv_ParseUint_121.j1 K bitSize base s t1 (2 : Int))) else ((if (decide ((3 : Int) ≤ (s.length : Int))) = true then ((gt s (1 : Int)).bind fun e3 => ((strconv_lower K e3).bind fun r_1 => (some (decide (r_1 = (111 : UInt8)))))) else some false).bind fun b1 => (if b1 = true then ((sub s (2 : Int) (s.length : Int)).bind fun t3 => (strconv_ParseUint_121.j1 K bitSize base s t3 (8 : Int))) else ((if (decide ((3 : Int) ≤ (s.length : Int))) = true then ((gt s (1 : Int)).bind fun e4 => ((strconv_lower K e4).bind fun r_2 => (some (decide (r_2 = (120 : UInt8)))))) else some false).bind fun b2 => (if b2 = true then ((sub s (2 : Int) (s.length : Int)).bind fun t5 => (strconv_ParseUint_121.j1 K bitSize base s t5 (16 : Int))) else ((sub s (1 : Int) (s.length : Int)).bind fun t6 => (strconv_ParseUint_121.j1 K bitSize base s t6 (8 : Int))))))))) else (strconv_ParseUint_121.j1 K bitSize base s s (10 : Int)))) else (none)))

-- strconv.ParseUint
def strconv_ParseUint_99 (K : Nat) (s : List UInt8) (base : Int) (bitSize : Int) : Option (UInt64 × Unit) :=
  (strconv_ParseUint_121 K s base bitSize).bind fun r_ => (some (r_.1, ()))

-- holdfast/codec.ToNumber
def codec_ToNumber (K : Nat) (s : List UInt8) : Option (Int × Int) :=
  (if (decide (s = ([] : List UInt8))) = true then some true else ((gt s (0 : Int)).bind fun e1 => (some (!decide ((e1.toNat : Int) = W ((W ((97 : Int) + (s.length : Int))) - (1 : Int))))))).bind fun b => (if (b || (decide ((17 : Int) < (s.length : Int)))) = true then (some ((0 : Int), (3 : Int))) else ((sub s (1 : Int) (s.length : Int)).bind fun t1 => ((strings_HasPrefix K t1 ([48] : List UInt8)).bind fun r_ => ((if r_ = true then some true else ((strings_Trim K t1 ([48, 49, 50, 51, 52, 53, 54, 55, 56, 57, 97, 98, 99, 100, 101, 102] : List UInt8)).bind fun r_1 => (some (!decide (r_1 = ([] : List UInt8)))))).bind fun b1 => (if b1 = true then (some ((0 : Int), (3 : Int))) else ((app 9223372036854775807 ([48] : List UInt8) t1).bind fun t3 => ((strconv_ParseUint_99 K t3 (16 : Int) (64 : Int)).bind fun r_2 => (if (decide ((4611686018427387904 : UInt64) < r_2.1)) = true then (some ((0 : Int), (2 : Int))) else (some (W (r_2.1.toNat : Int), (0 : Int)))))))))))

-- internal/stringslite.IndexByte
def stringslite_IndexByte (K : Nat) (s : List UInt8) (c_ : UInt8) : Option Int := some (Go.Lib.indexByte s c_)

-- internal/stringslite.Index
def stringslite_Index (K : Nat) (s : List UInt8) (substr : List UInt8) : Option Int :=
  if ((decide ((substr.length : Int) = (0 : Int))) || (decide (substr = s))) = true then (some (0 : Int)) else (if (decide ((substr.length : Int) = (1 : Int))) = true then ((gt substr (0 : Int)).bind fun e1 => ((stringslite_IndexByte K s e1).bind fun r_ => (some r_))) else (if (decide ((s.length : Int) ≤ (substr.length : Int))) = true then (some (-1 : Int)) else (none)))

-- internal/stringslite.Cut
def stringslite_Cut (K : Nat) (s : List UInt8) (sep : List UInt8) : Option ((List UInt8) × (List UInt8) × Bool) :=
  (stringslite_Index K s sep).bind fun r_ => (if (decide ((0 : Int) ≤ r_)) = true then ((sub s (0 : Int) r_).bind fun t => ((sub s (W (r_ + (sep.length : Int))) (s.length : Int)).bind fun t1 => (some (t, t1, true)))) else (some (s, ([] : List UInt8), false)))

-- strings.Cut
def strings_Cut (K : Nat) (s : List UInt8) (sep : List UInt8) : Option ((List UInt8) × (List UInt8) × Bool) :=
  (stringslite_Cut K s sep).bind fun r_ => (some (r_.1, r_.2.1, r_.2.2))

-- (*holdfast/keys.Tree).take
def keys_Tree_take (K : Nat) (t : S_keys_Tree) (r_ : S_api_Row) : Option (Bool × S_keys_Tree) :=
  if (decide ((r_.Columns.length : Int) = (0 : Int))) = true then ((some (mset t.gone r_.Key true)).bind fun m => ((codec_IsName K r_.Key).bind fun r_1 => (some (r_1, (⟨t.root, t.sealed, m, t.at_⟩ : S_keys_Tree))))) else ((gt r_.Columns (0 : Int)).bind fun e1 => ((codec_ToNumber K e1).bind fun r_2 => (if ((!decide (r_2.2 = (0 : Int))) || (!decide ((r_.Columns.length : Int) = (1 : Int)))) = true then (some (false, (⟨t.root, t.sealed, t.gone, t.at_⟩ : S_keys_Tree))) else (if (decide (r_.Key = ([35] : List UInt8))) = true then (some (decide (r_2.1 ≤ (1099511627776 : Int)), (⟨t.root, r_2.1, t.gone, t.at_⟩ : S_keys_Tree))) else ((strings_Cut K r_.Key ([47] : List UInt8)).bind fun r_3 => ((some (mset t.at_ (⟨r_3.1, r_3.2.1⟩ : S_keys_purpose) r_2.1)).bind fun m1 => ((if r_3.2.2 = true then ((codec_IsName K r_3.1).bind fun r_4 => (some r_4)) else some false).bind fun b2 => ((if b2 = true then ((codec_IsName K r_3.2.1).bind fun r_5 => (some r_5)) else some false).bind fun b3 => (some ((b3 && (decide ((2 : Int) ≤ r_2.1))) && (decide (r_2.1 ≤ (16 : Int))), (⟨t.root, t.sealed, t.gone, m1⟩ : S_keys_Tree)))))))))))

-- holdfast/keys.Load
def keys_Load.l1 (K : Nat) : Nat → (List S_api_Row) → (List UInt8) → Int → (List ((List UInt8) × Bool)) → (List (S_keys_purpose × Int)) → Int → Option (Lr ((Option S_keys_Tree) × Int) ((List UInt8) × Int × (List ((List UInt8) × Bool)) × (List (S_keys_purpose × Int))))
  | 0, _, _, _, _, _, _ => none
  | k + 1, rows, x, x1, x2, x3, x14 => if (decide (x14 < (rows.length : Int))) = true then ((gt rows x14).bind fun e1 => (if (decide ((0 : Int) < x14)) = true then ((gt rows (W (x14 - (1 : Int)))).bind fun e2 => (if (!ltS e2.Key e1.Key) = true then (some (.ret (none, (3 : Int)))) else ((keys_Tree_take K (⟨x, x1, x2, x3⟩ : S_keys_Tree) (⟨e1.Key, e1.Columns⟩ : S_api_Row)).bind fun r_1 => (if (!r_1.1) = true then (some (.ret (none, (3 : Int)))) else (keys_Load.l1 K k rows r_1.2.root r_1.2.sealed r_1.2.gone r_1.2.at_ (W (x14 + (1 : Int)))))))) else ((keys_Tree_take K (⟨x, x1, x2, x3⟩ : S_keys_Tree) (⟨e1.Key, e1.Columns⟩ : S_api_Row)).bind fun r_2 => (if (!r_2.1) = true then (some (.ret (none, (3 : Int)))) else (keys_Load.l1 K k rows r_2.2.root r_2.2.sealed r_2.2.gone r_2.2.at_ (W (x14 + (1 : Int)))))))) else (some (.go (x, x1, x2, x3)))
def keys_Load.m2 (K : Nat) (x6 : List ((List UInt8) × Bool)) (x : S_keys_purpose × Int) (s : Unit) : Option (Lr ((Option S_keys_Tree) × Int) Unit) :=
  (fun k1 u _ => if ((mget x6 k1.tenant).getD false) = true then (some (.ret (none, (3 : Int)))) else (some (.go ()))) x.1 x.2 s
def keys_Load (K : Nat) (root : List UInt8) (rows : List S_api_Row) : Option ((Option S_keys_Tree) × Int) :=
  (keys_New K root).bind fun r_ => ((keys_Load.l1 K K rows r_.root r_.sealed r_.gone r_.at_ (0 : Int)).bind fun q => (lrc q (fun a => some a) (fun z => (fun x4 x5 x6 x7 => mrngK (keys_Load.m2 K x6 : S_keys_purpose × Int → Unit → Option (Lr ((Option S_keys_Tree) × Int) Unit)) x7 () fun q1 => (lrc q1 (fun a => some a) (fun _ => if (!decide ((rows.length : Int) = W ((W ((1 : Int) + (x6.length : Int))) + (x7.length : Int)))) = true then (some (none, (3 : Int))) else (if (decide ((16 : Int) < (x6.length : Int))) = true then (some (none, (3 : Int))) else (if (decide ((16 : Int) < (x7.length : Int))) = true then (some (none, (3 : Int))) else (some (some (⟨x4, x5, x6, x7⟩ : S_keys_Tree), (0 : Int)))))))) z.1 z.2.1 z.2.2.1 z.2.2.2)))

-- (*holdfast/keys.Tree).Current
def keys_Tree_Current_nil0 (K : Nat) (tenant : List UInt8) (name : List UInt8) : Option (Int × Int) :=
  some ((0 : Int), (1 : Int))

-- (*holdfast/keys.Tree).Key
def keys_Tree_Key_nil0 (K : Nat) (tenant : List UInt8) (name : List UInt8) (version : Int) : Option ((List UInt8) × Int) :=
  (keys_Tree_Current_nil0 K tenant name).bind fun r_ => (if (!decide (r_.2 = (0 : Int))) = true then ((some ([(0 : UInt8), (0 : UInt8), (0 : UInt8), (0 : UInt8), (0 : UInt8), (0 : UInt8), (0 : UInt8), (0 : UInt8), (0 : UInt8), (0 : UInt8), (0 : UInt8), (0 : UInt8), (0 : UInt8), (0 : UInt8), (0 : UInt8), (0 : UInt8), (0 : UInt8), (0 : UInt8), (0 : UInt8), (0 : UInt8), (0 : UInt8), (0 : UInt8), (0 : UInt8), (0 : UInt8), (0 : UInt8), (0 : UInt8), (0 : UInt8), (0 : UInt8), (0 : UInt8), (0 : UInt8), (0 : UInt8), (0 : UInt8)] : List UInt8)).bind fun l => (some (l, r_.2))) else (if ((decide (version < (1 : Int))) || (decide (r_.1 < version))) = true then ((some ([(0 : UInt8), (0 : UInt8), (0 : UInt8), (0 : UInt8), (0 : UInt8), (0 : UInt8), (0 : UInt8), (0 : UInt8), (0 : UInt8), (0 : UInt8), (0 : UInt8), (0 : UInt8), (0 : UInt8), (0 : UInt8), (0 : UInt8), (0 : UInt8), (0 : UInt8), (0 : UInt8), (0 : UInt8), (0 : UInt8), (0 : UInt8), (0 : UInt8), (0 : UInt8), (0 : UInt8), (0 : UInt8), (0 : UInt8), (0 : UInt8), (0 : UInt8), (0 : UInt8), (0 : UInt8), (0 : UInt8), (0 : UInt8)] : List UInt8)).bind fun l3 => (some (l3, (2 : Int)))) else (none)))

-- (*holdfast/keys.Tree).Open
def keys_Tree_Open_nil0.j1 (K : Nat) (sealed : List UInt8) (tenant : List UInt8) (name : List UInt8) (e1 : Int) : Option ((List UInt8) × Int × Int) :=
  if (!decide (e1 = (0 : Int))) = true then (some (([] : List UInt8), (0 : Int), e1)) else ((gt sealed (0 : Int)).bind fun e2 => ((keys_Tree_Key_nil0 K tenant name (e2.toNat : Int)).bind fun r_1 => (if (!decide (r_1.2 = (0 : Int))) = true then (some (([] : List UInt8), (0 : Int), r_1.2)) else ((sub sealed (1 : Int) (sealed.length : Int)).bind fun ys1 => ((seal_Open K r_1.1 ys1).bind fun r_2 => (if (!decide (r_2.2.2 = (0 : Int))) = true then (some (([] : List UInt8), (0 : Int), r_2.2.2)) else (some (r_2.1, (e2.toNat : Int), (0 : Int)))))))))
def keys_Tree_Open_nil0 (K : Nat) (tenant : List UInt8) (name : List UInt8) (sealed : List UInt8) : Option ((List UInt8) × Int × Int) :=
  (keys_Tree_Current_nil0 K tenant name).bind fun r_ => (if ((decide (r_.2 = (0 : Int))) && (decide ((sealed.length : Int) = (0 : Int)))) = true then (keys_Tree_Open_nil0.j1 K sealed tenant name (3 : Int)) else (keys_Tree_Open_nil0.j1 K sealed tenant name r_.2))

-- holdfast/holdfastref01.SameBytes
def holdfastref01_SameBytes.l1 : Nat → (List UInt8) → (List UInt8) → Int → Option (Lr Bool Unit)
  | 0, _, _, _ => none
  | k + 1, a1, b, i => if (decide (i < (a1.length : Int))) = true then ((gt a1 i).bind fun e => ((gt b i).bind fun e1 => (if (!decide (e = e1)) = true then (some (.ret false)) else (holdfastref01_SameBytes.l1 k a1 b (W (i + (1 : Int))))))) else (some (.go ()))
def holdfastref01_SameBytes (K : Nat) (a1 : List UInt8) (b : List UInt8) : Option Bool :=
  if (!decide ((a1.length : Int) = (b.length : Int))) = true then (some false) else ((holdfastref01_SameBytes.l1 K a1 b (0 : Int)).bind fun q => (lrc q (fun a => some a) (fun _ => some true)))

-- holdfast/holdfastlaw09.KeysBack
def holdfastlaw09_KeysBack.l1 (K : Nat) : Nat → UInt8 → (List UInt8) → Int → (List ((List UInt8) × Bool)) → (List (S_keys_purpose × Int)) → Int → Option (Lr Bool ((List UInt8) × Int × (List ((List UInt8) × Bool)) × (List (S_keys_purpose × Int))))
  | 0, _, _, _, _, _, _ => none
  | k + 1, n1, x, x1, x2, x3, i1 => if (decide (i1 < (n1.toNat : Int).tmod (16 : Int))) = true then ((keys_Tree_Rotate K (⟨x, x1, x2, x3⟩ : S_keys_Tree) ([97] : List UInt8) ([109, 97, 105, 108] : List UInt8)).bind fun r_3 => (if (!decide (r_3.2.1 = (0 : Int))) = true then (some (.ret false)) else (holdfastlaw09_KeysBack.l1 K k n1 r_3.2.2.root r_3.2.2.sealed r_3.2.2.gone r_3.2.2.at_ (W (i1 + (1 : Int)))))) else (some (.go (x, x1, x2, x3)))
def holdfastlaw09_KeysBack (K : Nat) (root : List UInt8) (plain : List UInt8) (n1 : UInt8) : Option Bool :=
  (keys_New K root).bind fun r_ => ((keys_Tree_Seal K (⟨r_.root, r_.sealed, r_.gone, r_.at_⟩ : S_keys_Tree) ([97] : List UInt8) ([109, 97, 105, 108] : List UInt8) plain).bind fun r_1 => (if (!decide (r_1.2.1 = (0 : Int))) = true then ((holdfastlaw09_live K).bind fun r_2 => (some (r_2 && (decide (r_1.2.1 = (6 : Int)))))) else ((holdfastlaw09_KeysBack.l1 K K n1 r_1.2.2.root r_1.2.2.sealed r_1.2.2.gone r_1.2.2.at_ (0 : Int)).bind fun q => (lrc q (fun a => some a) (fun z => (fun x4 x5 x6 x7 => (keys_Tree_Open K (⟨x4, x5, x6, x7⟩ : S_keys_Tree) ([97] : List UInt8) ([109, 97, 105, 108] : List UInt8) r_1.1).bind fun r_4 => ((keys_Tree_Reseal K (⟨x4, x5, x6, x7⟩ : S_keys_Tree) ([97] : List UInt8) ([109, 97, 105, 108] : List UInt8) r_1.1).bind fun r_5 => ((keys_Tree_Rows K (⟨r_5.2.2.2.root, r_5.2.2.2.sealed, r_5.2.2.2.gone, r_5.2.2.2.at_⟩ : S_keys_Tree)).bind fun r_6 => ((keys_Load K root r_6).bind fun r_7 => ((r_7.1).elim ((keys_Tree_Open_nil0 K ([97] : List UInt8) ([109, 97, 105, 108] : List UInt8) r_5.1).bind fun r_8 => ((holdfastlaw09_live K).bind fun r_9 => ((if ((r_9 && (decide (r_4.2.2 = (0 : Int)))) && (decide (r_4.2.1 = (1 : Int)))) = true then ((holdfastref01_SameBytes K r_4.1 plain).bind fun r_10 => (some r_10)) else some false).bind fun b14 => ((if (((((b14 && (decide (r_5.2.2.1 = (0 : Int)))) && (decide (r_5.2.1 = decide ((0 : Int) < (n1.toNat : Int).tmod (16 : Int))))) && (decide (r_7.2 = (0 : Int)))) && (decide (r_8.2.2 = (0 : Int)))) && (decide (r_8.2.1 = W (((n1.toNat : Int).tmod (16 : Int)) + (1 : Int))))) = true then ((holdfastref01_SameBytes K r_8.1 plain).bind fun r_11 => (some r_11)) else some false).bind fun b15 => (some b15))))) (fun x8 => (keys_Tree_Open K (⟨x8.root, x8.sealed, x8.gone, x8.at_⟩ : S_keys_Tree) ([97] : List UInt8) ([109, 97, 105, 108] : List UInt8) r_5.1).bind fun r_12 => ((holdfastlaw09_live K).bind fun r_13 => ((if ((r_13 && (decide (r_4.2.2 = (0 : Int)))) && (decide (r_4.2.1 = (1 : Int)))) = true then ((holdfastref01_SameBytes K r_4.1 plain).bind fun r_14 => (some r_14)) else some false).bind fun b18 => ((if (((((b18 && (decide (r_5.2.2.1 = (0 : Int)))) && (decide (r_5.2.1 = decide ((0 : Int) < (n1.toNat : Int).tmod (16 : Int))))) && (decide (r_7.2 = (0 : Int)))) && (decide (r_12.2.2 = (0 : Int)))) && (decide (r_12.2.1 = W (((n1.toNat : Int).tmod (16 : Int)) + (1 : Int))))) = true then ((holdfastref01_SameBytes K r_12.1 plain).bind fun r_15 => (some r_15)) else some false).bind fun b19 => (some b19)))))))))) z.1 z.2.1 z.2.2.1 z.2.2.2)))))
end
end Go.Proofs.YtjgbakieogadfabGreatDoor
