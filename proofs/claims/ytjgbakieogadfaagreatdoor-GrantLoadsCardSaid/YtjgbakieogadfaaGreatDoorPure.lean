import Derived.Test.YtjgbakieogadfaaGreatDoorLib29
import Derived.Ground.NamesProg
import Derived.Ground.SlsfProg
import Derived.Shelf.SlGeneric
import Derived.Shelf.SlSortCmp.NoneTotal
import Derived.Shelf.Strings.Count
import Derived.Shelf.Strings.Search1
import Derived.Shelf.Strings.SlTrimAscii
namespace Go.Proofs.YtjgbakieogadfaaGreatDoor
open Go L
set_option linter.unusedVariables false
structure S_api_Owner where
  Tenant : List UInt8
  User : List UInt8
  deriving DecidableEq, Inhabited
structure S_holdfastlaw13_Deed where
  Kind : Int
  Owner : S_api_Owner
  Client : List UInt8
  Redirect : List UInt8
  Scopes : UInt8
  deriving DecidableEq, Inhabited
structure S_api_Client where
  Tenant : List UInt8
  Name : List UInt8
  Redirect : List UInt8
  Scopes : UInt8
  deriving DecidableEq, Inhabited
structure S_api_Consent where
  Owner : S_api_Owner
  Client : List UInt8
  Scopes : UInt8
  deriving DecidableEq, Inhabited
structure S_grant_name where
  tenant : List UInt8
  name : List UInt8
  deriving DecidableEq, Inhabited
structure S_grant_use where
  Owner : S_api_Owner
  client : List UInt8
  deriving DecidableEq, Inhabited
structure S_grant_Store where
  clients : List (S_grant_name × S_api_Client)
  consents : List (S_grant_use × UInt8)
  deriving Inhabited
structure S_holdfastref13_Store where
  c_ : List S_api_Client
  a : List S_api_Consent
  deriving Inhabited
structure S_api_Row where
  Key : List UInt8
  Columns : List (List UInt8)
  deriving Inhabited
def tab3 : List UInt64 := [1, 10, 100, 1000, 10000, 100000, 1000000, 10000000, 100000000, 1000000000, 10000000000, 100000000000, 1000000000000, 10000000000000, 100000000000000, 1000000000000000, 10000000000000000, 100000000000000000, 1000000000000000000, 10000000000000000000]
def tab7 : List UInt8 := [0, 1, 56, 2, 57, 49, 28, 3, 61, 58, 42, 50, 38, 29, 17, 4, 62, 47, 59, 36, 45, 43, 51, 22, 53, 39, 33, 30, 24, 18, 12, 5, 63, 55, 48, 27, 60, 41, 37, 16, 46, 35, 44, 21, 52, 32, 23, 11, 54, 26, 40, 15, 34, 20, 31, 10, 25, 14, 19, 9, 13, 8, 7, 6]
noncomputable section

-- holdfast/grant.New
def grant_New (K : Nat) : Option S_grant_Store :=
  some (⟨([] : List (S_grant_name × S_api_Client)), ([] : List (S_grant_use × UInt8))⟩ : S_grant_Store)

-- strings.Count
def strings_Count (K : Nat) (s sub : List UInt8) : Option Int := match sub with
  | [x] => some ((Go.Lib.countByte s x : Nat) : Int)
  | _ => none

-- internal/stringslite.IndexByte
def stringslite_IndexByte (K : Nat) (s : List UInt8) (c_ : UInt8) : Option Int := some (Go.Lib.indexByte s c_)

-- internal/stringslite.Index
def stringslite_Index (K : Nat) (s : List UInt8) (substr : List UInt8) : Option Int :=
  if ((decide ((substr.length : Int) = (0 : Int))) || (decide (substr = s))) = true then (some (0 : Int)) else (if (decide ((substr.length : Int) = (1 : Int))) = true then ((gt substr (0 : Int)).bind fun e1 => ((stringslite_IndexByte K s e1).bind fun r_ => (some r_))) else (if (decide ((s.length : Int) ≤ (substr.length : Int))) = true then (some (-1 : Int)) else (none)))

-- strings.Index
def strings_Index (K : Nat) (s : List UInt8) (substr : List UInt8) : Option Int :=
  (stringslite_Index K s substr).bind fun r_ => (some r_)

-- strings.genSplit
def strings_genSplit.l1 (K : Nat) : Nat → Int → (List UInt8) → (List UInt8) → Int → (List UInt8) → (List (List UInt8)) → Int → Option ((List UInt8) × (List (List UInt8)) × Int)
  | 0, _, _, _, _, _, _, _ => none
  | k + 1, n2, s, sep, sepSave, s5, a1, i => if (decide (i < W ((minI n2 (W ((s.length : Int) + (1 : Int)))) - (1 : Int)))) = true then ((strings_Index K s5 sep).bind fun r_1 => (if (decide (r_1 < (0 : Int))) = true then (some (s5, a1, i)) else ((sub s5 (0 : Int) (W (r_1 + sepSave))).bind fun t => ((req (0 ≤ i ∧ i < (a1.length : Int))).bind fun u => ((some (a1.set (i).toNat t)).bind fun a4 => ((sub s5 (W (r_1 + (sep.length : Int))) (s5.length : Int)).bind fun t1 => (strings_genSplit.l1 K k n2 s sep sepSave t1 a4 (W (i + (1 : Int)))))))))) else (some (s5, a1, i))
def strings_genSplit.j1 (K : Nat) (s : List UInt8) (sep : List UInt8) (sepSave : Int) (n2 : Int) : Option (List (List UInt8)) :=
  (mks 17592186044416 ([] : List UInt8) (minI n2 (W ((s.length : Int) + (1 : Int))))).bind fun xs => ((strings_genSplit.l1 K K n2 s sep sepSave s xs (0 : Int)).bind fun q => ((fun s6 a2 i1 => (req (0 ≤ i1 ∧ i1 < (a2.length : Int))).bind fun u1 => ((some (a2.set (i1).toNat s6)).bind fun a6 => ((sub a6 (0 : Int) (W (i1 + (1 : Int)))).bind fun ys1 => (some ys1)))) q.1 q.2.1 q.2.2))
def strings_genSplit (K : Nat) (s : List UInt8) (sep : List UInt8) (sepSave : Int) (n1 : Int) : Option (List (List UInt8)) :=
  if (decide (n1 = (0 : Int))) = true then (some ([] : List (List UInt8))) else (if (decide (sep = ([] : List UInt8))) = true then (none) else (if (decide (n1 < (0 : Int))) = true then ((strings_Count K s sep).bind fun r_ => (strings_genSplit.j1 K s sep sepSave (W (r_ + (1 : Int))))) else (strings_genSplit.j1 K s sep sepSave n1)))

-- strings.SplitN
def strings_SplitN (K : Nat) (s : List UInt8) (sep : List UInt8) (n1 : Int) : Option (List (List UInt8)) :=
  (strings_genSplit K s sep (0 : Int) n1).bind fun r_ => (some r_)

-- internal/stringslite.HasPrefix
def stringslite_HasPrefix (K : Nat) (s : List UInt8) (prefix_ : List UInt8) : Option Bool :=
  (if (decide ((prefix_.length : Int) ≤ (s.length : Int))) = true then ((sub s (0 : Int) (prefix_.length : Int)).bind fun t1 => (some (decide (t1 = prefix_)))) else some false).bind fun b => (some b)

-- strings.HasPrefix
def strings_HasPrefix (K : Nat) (s : List UInt8) (prefix_ : List UInt8) : Option Bool :=
  (stringslite_HasPrefix K s prefix_).bind fun r_ => (some r_)

-- strings.Trim
def strings_Trim (K : Nat) (s cut : List UInt8) : Option (List UInt8) := if (cut.all fun b => decide (b.toNat < 128)) = true ∧ s.length ≤ 9223372036854775807 ∧ cut.length < 4294967281 then some (Go.Lib.trimS s cut) else none

-- internal/strconv.lower
def strconv_lower (K : Nat) (c_ : UInt8) : Option UInt8 :=
  some (c_ ||| (32 : UInt8))

-- internal/strconv.underscoreOK
def strconv_underscoreOK (K : Nat) (_s : List UInt8) : Option Bool := none

-- internal/strconv.ParseUint
def strconv_ParseUint_120.j4 (K : Nat) (lk1 : Bool → UInt64 → Int → Option (Lr (UInt64 × Unit) (Bool × UInt64))) (base1 : Int) (cutoff : UInt64) (n1 : UInt64) (bitSize1 : Int) (underscores : Bool) (x101 : Int) (d4 : UInt8) : Option (Lr (UInt64 × Unit) (Bool × UInt64)) :=
  if (decide (iU8 base1 ≤ d4)) = true then (none) else (if (decide (cutoff ≤ n1)) = true then (none) else (if ((decide ((n1 * (iU64 base1)) + d4.toUInt64 < n1 * (iU64 base1))) || (decide ((shl64 (1 : UInt64) (iU64 bitSize1).toNat) - (1 : UInt64) < (n1 * (iU64 base1)) + d4.toUInt64))) = true then (none) else (lk1 underscores ((n1 * (iU64 base1)) + d4.toUInt64) (W (x101 + (1 : Int))))))
def strconv_ParseUint_120.l1 (K : Nat) : Nat → (List UInt8) → Int → Int → UInt64 → Int → Bool → UInt64 → Int → Option (Lr (UInt64 × Unit) (Bool × UInt64))
  | 0, _, _, _, _, _, _, _, _ => none
  | k + 1, s1, base, base1, cutoff, bitSize1, underscores, n1, x101 => if (decide (x101 < (s1.length : Int))) = true then ((gt s1 x101).bind fun e5 => (if ((decide (e5 = (95 : UInt8))) && (decide (base = (0 : Int)))) = true then (strconv_ParseUint_120.l1 K k s1 base base1 cutoff bitSize1 true n1 (W (x101 + (1 : Int)))) else (if ((decide ((48 : UInt8) ≤ e5)) && (decide (e5 ≤ (57 : UInt8)))) = true then (strconv_ParseUint_120.j4 K (strconv_ParseUint_120.l1 K k s1 base base1 cutoff bitSize1) base1 cutoff n1 bitSize1 underscores x101 (e5 - (48 : UInt8))) else ((strconv_lower K e5).bind fun r_3 => ((if (decide ((97 : UInt8) ≤ r_3)) = true then ((strconv_lower K e5).bind fun r_4 => (some (decide (r_4 ≤ (122 : UInt8))))) else some false).bind fun b3 => (if b3 = true then ((strconv_lower K e5).bind fun r_5 => (strconv_ParseUint_120.j4 K (strconv_ParseUint_120.l1 K k s1 base base1 cutoff bitSize1) base1 cutoff n1 bitSize1 underscores x101 ((r_5 - (97 : UInt8)) + (10 : UInt8)))) else (none))))))) else (some (.go (underscores, n1)))
def strconv_ParseUint_120.j3 (K : Nat) (s1 : List UInt8) (base : Int) (base1 : Int) (bitSize1 : Int) (s : List UInt8) (cutoff : UInt64) : Option (UInt64 × Unit) :=
  (strconv_ParseUint_120.l1 K K s1 base base1 cutoff bitSize1 false (0 : UInt64) (0 : Int)).bind fun q => (lrc q (fun a => some a) (fun z => (fun underscores1 n2 => (if underscores1 = true then ((strconv_underscoreOK K s).bind fun r_6 => (some (!r_6))) else some false).bind fun b4 => (if b4 = true then (none) else (some (n2, ())))) z.1 z.2))
def strconv_ParseUint_120.j2 (K : Nat) (base1 : Int) (s1 : List UInt8) (base : Int) (s : List UInt8) (bitSize1 : Int) : Option (UInt64 × Unit) :=
  if (decide (base1 = (10 : Int))) = true then (strconv_ParseUint_120.j3 K s1 base base1 bitSize1 s (1844674407370955162 : UInt64)) else (if (decide (base1 = (16 : Int))) = true then (strconv_ParseUint_120.j3 K s1 base base1 bitSize1 s (1152921504606846976 : UInt64)) else ((req (iU64 base1 ≠ 0)).bind fun u => (strconv_ParseUint_120.j3 K s1 base base1 bitSize1 s (((18446744073709551615 : UInt64) / (iU64 base1)) + (1 : UInt64)))))
def strconv_ParseUint_120.j1 (K : Nat) (bitSize : Int) (base : Int) (s : List UInt8) (s1 : List UInt8) (base1 : Int) : Option (UInt64 × Unit) :=
  if (decide (bitSize = (0 : Int))) = true then (strconv_ParseUint_120.j2 K base1 s1 base s (64 : Int)) else (if ((decide (bitSize < (0 : Int))) || (decide ((64 : Int) < bitSize))) = true then (none) else (strconv_ParseUint_120.j2 K base1 s1 base s bitSize))
def strconv_ParseUint_120 (K : Nat) (s : List UInt8) (base : Int) (bitSize : Int) : Option (UInt64 × Unit) :=
  if (decide (s = ([] : List UInt8))) = true then (none) else (if ((decide ((2 : Int) ≤ base)) && (decide (base ≤ (36 : Int)))) = true then (strconv_ParseUint_120.j1 K bitSize base s s base) else (if (decide (base = (0 : Int))) = true then ((gt s (0 : Int)).bind fun e1 => (if (decide (e1 = (48 : UInt8))) = true then ((if (decide ((3 : Int) ≤ (s.length : Int))) = true then ((gt s (1 : Int)).bind fun e2 => ((strconv_lower K e2).bind fun r_ => (some (decide (r_ = (98 : UInt8)))))) else some false).bind fun b => (if b = true then ((sub s (2 : Int) (s.length : Int)).bind fun t1 => (strconv_ParseUint_120.j1 K bitSize base s t1 (2 : Int))) else ((if (decide ((3 : Int) ≤ (s.length : Int))) = true then ((gt s (1 : Int)).bind fun e3 => ((strconv_lower K e3).bind fun r_1 => (some (decide (r_1 = (111 : UInt8)))))) else some false).bind fun b1 => (if b1 = true then ((sub s (2 : Int) (s.length : Int)).bind fun t3 => (strconv_ParseUint_120.j1 K bitSize base s t3 (8 : Int))) else ((if (decide ((3 : Int) ≤ (s.length : Int))) = true then ((gt s (1 : Int)).bind fun e4 => ((strconv_lower K e4).bind fun r_2 => (some (decide (r_2 = (120 : UInt8)))))) else some false).bind fun b2 => (if b2 = true then ((sub s (2 : Int) (s.length : Int)).bind fun t5 => (strconv_ParseUint_120.j1 K bitSize base s t5 (16 : Int))) else ((sub s (1 : Int) (s.length : Int)).bind fun t6 => (strconv_ParseUint_120.j1 K bitSize base s t6 (8 : Int))))))))) else (strconv_ParseUint_120.j1 K bitSize base s s (10 : Int)))) else (none)))

-- strconv.ParseUint
def strconv_ParseUint_79 (K : Nat) (s : List UInt8) (base : Int) (bitSize : Int) : Option (UInt64 × Unit) :=
  (strconv_ParseUint_120 K s base bitSize).bind fun r_ => (some (r_.1, ()))

-- holdfast/codec.ToNumber
def codec_ToNumber (K : Nat) (s : List UInt8) : Option (Int × Int) :=
  (if (decide (s = ([] : List UInt8))) = true then some true else ((gt s (0 : Int)).bind fun e1 => (some (!decide ((e1.toNat : Int) = W ((W ((97 : Int) + (s.length : Int))) - (1 : Int))))))).bind fun b => (if (b || (decide ((17 : Int) < (s.length : Int)))) = true then (some ((0 : Int), (3 : Int))) else ((sub s (1 : Int) (s.length : Int)).bind fun t1 => ((strings_HasPrefix K t1 ([48] : List UInt8)).bind fun r_ => ((if r_ = true then some true else ((strings_Trim K t1 ([48, 49, 50, 51, 52, 53, 54, 55, 56, 57, 97, 98, 99, 100, 101, 102] : List UInt8)).bind fun r_1 => (some (!decide (r_1 = ([] : List UInt8)))))).bind fun b1 => (if b1 = true then (some ((0 : Int), (3 : Int))) else ((app 9223372036854775807 ([48] : List UInt8) t1).bind fun t3 => ((strconv_ParseUint_79 K t3 (16 : Int) (64 : Int)).bind fun r_2 => (if (decide ((4611686018427387904 : UInt64) < r_2.1)) = true then (some ((0 : Int), (2 : Int))) else (some (W (r_2.1.toNat : Int), (0 : Int)))))))))))

-- holdfast/codec.IsName
def codec_IsName (K : Nat) (s : List UInt8) : Option Bool :=
  (if ((!decide (s = ([] : List UInt8))) && (decide ((s.length : Int) ≤ (9 : Int)))) = true then ((strings_Trim K s ([97, 98, 99, 100, 101, 102, 103, 104, 105, 106, 107, 108, 109, 110, 111, 112, 113, 114, 115, 116, 117, 118, 119, 120, 121, 122, 48, 49, 50, 51, 52, 53, 54, 55, 56, 57, 45] : List UInt8)).bind fun r_ => (some (decide (r_ = ([] : List UInt8))))) else some false).bind fun b => (some b)

-- (*holdfast/grant.Store).full
def grant_Store_full.m1 (K : Nat) (x : S_grant_name × S_api_Client) (s : (List ((List UInt8) × Int))) : Option (Lr Unit (List ((List UInt8) × Int))) :=
  (fun k1 u of_ => (some (mset of_ k1.tenant (W (((mget of_ k1.tenant).getD (0 : Int)) + (1 : Int))))).bind fun m => (some (.go m))) x.1 x.2 s
def grant_Store_full (K : Nat) (s : S_grant_Store) (tenant : List UInt8) : Option Bool :=
  mrngK (grant_Store_full.m1 K : S_grant_name × S_api_Client → (List ((List UInt8) × Int)) → Option (Lr Unit (List ((List UInt8) × Int)))) s.clients ([] : List ((List UInt8) × Int)) fun q => (lrc q (fun a => none) (fun z => (fun of_ => some ((decide ((4 : Int) ≤ ((mget of_ tenant).getD (0 : Int)))) || ((decide (((mget of_ tenant).getD (0 : Int)) = (0 : Int))) && (decide ((4 : Int) ≤ (of_.length : Int)))))) z))

-- (*holdfast/grant.Store).Register
def grant_Store_Register (K : Nat) (s : S_grant_Store) (c_ : S_api_Client) : Option (Int × S_grant_Store) :=
  (codec_IsName K c_.Tenant).bind fun r_ => ((if (!r_) = true then some true else ((codec_IsName K c_.Name).bind fun r_1 => (some (!r_1)))).bind fun b2 => (if b2 = true then (some ((8 : Int), (⟨s.clients, s.consents⟩ : S_grant_Store))) else (if (decide ((24 : Int) < (c_.Redirect.length : Int))) = true then (some ((6 : Int), (⟨s.clients, s.consents⟩ : S_grant_Store))) else (if ((mget s.clients (⟨c_.Tenant, c_.Name⟩ : S_grant_name)).isSome) = true then (some ((5 : Int), (⟨s.clients, s.consents⟩ : S_grant_Store))) else ((grant_Store_full K (⟨s.clients, s.consents⟩ : S_grant_Store) c_.Tenant).bind fun r_2 => (if r_2 = true then (some ((24 : Int), (⟨s.clients, s.consents⟩ : S_grant_Store))) else ((some (mset s.clients (⟨c_.Tenant, c_.Name⟩ : S_grant_name) c_)).bind fun m => (some ((0 : Int), (⟨m, s.consents⟩ : S_grant_Store))))))))))

-- (*holdfast/grant.Store).look
def grant_Store_look (K : Nat) (s : S_grant_Store) (tenant : List UInt8) (client : List UInt8) : Option (S_api_Client × Int) :=
  if (!((mget s.clients (⟨tenant, client⟩ : S_grant_name)).isSome)) = true then (some ((⟨([] : List UInt8), ([] : List UInt8), ([] : List UInt8), (0 : UInt8)⟩ : S_api_Client), (4 : Int))) else (some (((mget s.clients (⟨tenant, client⟩ : S_grant_name)).getD (⟨([] : List UInt8), ([] : List UInt8), ([] : List UInt8), (0 : UInt8)⟩ : S_api_Client)), (0 : Int)))

-- slices.SortFunc[[]holdfast/api.Consent,holdfast/api.Consent]
def api_Consent_58_f59 (K : Nat) (x : List S_api_Consent) : Option (List S_api_Consent) := if x.length < 4611686018427387904 then some (sortS (fun (a b : S_api_Consent) => cmpS a.Client b.Client) x) else none

-- (*holdfast/grant.Store).Consents
def grant_Store_Consents.m1 (K : Nat) (o3 : S_api_Owner) (x : S_grant_use × UInt8) (s : (List S_api_Consent)) : Option (Lr Unit (List S_api_Consent)) :=
  (fun k1 u out => if (decide (k1.Owner = o3)) = true then ((some ([(⟨o3, k1.client, u⟩ : S_api_Consent)] : List S_api_Consent)).bind fun l2 => ((app 3769754152374 out l2).bind fun out1 => (some (.go out1)))) else (some (.go out))) x.1 x.2 s
def grant_Store_Consents (K : Nat) (s : S_grant_Store) (o3 : S_api_Owner) : Option (List S_api_Consent) :=
  mrngK (grant_Store_Consents.m1 K o3 : S_grant_use × UInt8 → (List S_api_Consent) → Option (Lr Unit (List S_api_Consent))) s.consents ([] : List S_api_Consent) fun q => (lrc q (fun a => none) (fun z => (fun out => (api_Consent_58_f59 K out).bind fun r_ => (some r_)) z))

-- (*holdfast/grant.Store).Allow
def grant_Store_Allow (K : Nat) (s : S_grant_Store) (c_ : S_api_Consent) : Option (Int × S_grant_Store) :=
  (codec_IsName K c_.Owner.Tenant).bind fun r_ => ((if (!r_) = true then some true else ((codec_IsName K c_.Owner.User).bind fun r_1 => (some (!r_1)))).bind fun b2 => (if b2 = true then (some ((8 : Int), (⟨s.clients, s.consents⟩ : S_grant_Store))) else ((grant_Store_look K (⟨s.clients, s.consents⟩ : S_grant_Store) c_.Owner.Tenant c_.Client).bind fun r_2 => (if (!decide (r_2.2 = (0 : Int))) = true then (some (r_2.2, (⟨s.clients, s.consents⟩ : S_grant_Store))) else (if (!decide (c_.Scopes &&& ~~~r_2.1.Scopes = (0 : UInt8))) = true then (some ((14 : Int), (⟨s.clients, s.consents⟩ : S_grant_Store))) else ((if (!((mget s.consents (⟨c_.Owner, c_.Client⟩ : S_grant_use)).isSome)) = true then ((grant_Store_Consents K (⟨s.clients, s.consents⟩ : S_grant_Store) c_.Owner).bind fun r_3 => (some (decide ((4 : Int) ≤ (r_3.length : Int))))) else some false).bind fun b3 => (if b3 = true then (some ((25 : Int), (⟨s.clients, s.consents⟩ : S_grant_Store))) else ((some (mset s.consents (⟨c_.Owner, c_.Client⟩ : S_grant_use) c_.Scopes)).bind fun m => (some ((0 : Int), (⟨s.clients, m⟩ : S_grant_Store)))))))))))

-- holdfast/grant.Load
def grant_Load.l1 (K : Nat) : Nat → (List S_api_Row) → (List (S_grant_name × S_api_Client)) → (List (S_grant_use × UInt8)) → (List S_api_Consent) → Int → Option (Lr ((Option S_grant_Store) × Int) ((List (S_grant_name × S_api_Client)) × (List (S_grant_use × UInt8)) × (List S_api_Consent)))
  | 0, _, _, _, _, _ => none
  | k + 1, rows, x, x1, later, x17 => if (decide (x17 < (rows.length : Int))) = true then ((gt rows x17).bind fun e1 => ((strings_SplitN K e1.Key ([47] : List UInt8) (3 : Int)).bind fun r_1 => (if (decide ((0 : Int) < x17)) = true then ((gt rows (W (x17 - (1 : Int)))).bind fun e2 => (if (!ltS e2.Key e1.Key) = true then (some (.ret (none, (3 : Int)))) else (if (decide ((r_1.length : Int) < (2 : Int))) = true then (some (.ret (none, (3 : Int)))) else (if (!decide ((e1.Columns.length : Int) = W ((4 : Int) - (r_1.length : Int)))) = true then (some (.ret (none, (3 : Int)))) else ((gt e1.Columns (W ((e1.Columns.length : Int) - (1 : Int)))).bind fun e3 => ((codec_ToNumber K e3).bind fun r_2 => (if ((!decide (r_2.2 = (0 : Int))) || (decide ((255 : Int) < r_2.1))) = true then (some (.ret (none, (3 : Int)))) else (if (decide ((r_1.length : Int) = (3 : Int))) = true then ((gt r_1 (0 : Int)).bind fun e4 => ((gt r_1 (1 : Int)).bind fun e5 => ((gt r_1 (2 : Int)).bind fun e6 => ((some ([(⟨(⟨e4, e5⟩ : S_api_Owner), e6, iU8 r_2.1⟩ : S_api_Consent)] : List S_api_Consent)).bind fun l1 => ((app 3769754152374 later l1).bind fun later2 => (grant_Load.l1 K k rows x x1 later2 (W (x17 + (1 : Int))))))))) else ((gt r_1 (0 : Int)).bind fun e7 => ((gt r_1 (1 : Int)).bind fun e8 => ((gt e1.Columns (0 : Int)).bind fun e9 => ((grant_Store_Register K (⟨x, x1⟩ : S_grant_Store) (⟨e7, e8, e9, iU8 r_2.1⟩ : S_api_Client)).bind fun r_3 => (if (!decide (r_3.1 = (0 : Int))) = true then (some (.ret (none, (3 : Int)))) else (grant_Load.l1 K k rows r_3.2.clients r_3.2.consents later (W (x17 + (1 : Int))))))))))))))))) else (if (decide ((r_1.length : Int) < (2 : Int))) = true then (some (.ret (none, (3 : Int)))) else (if (!decide ((e1.Columns.length : Int) = W ((4 : Int) - (r_1.length : Int)))) = true then (some (.ret (none, (3 : Int)))) else ((gt e1.Columns (W ((e1.Columns.length : Int) - (1 : Int)))).bind fun e10 => ((codec_ToNumber K e10).bind fun r_4 => (if ((!decide (r_4.2 = (0 : Int))) || (decide ((255 : Int) < r_4.1))) = true then (some (.ret (none, (3 : Int)))) else (if (decide ((r_1.length : Int) = (3 : Int))) = true then ((gt r_1 (0 : Int)).bind fun e11 => ((gt r_1 (1 : Int)).bind fun e12 => ((gt r_1 (2 : Int)).bind fun e13 => ((some ([(⟨(⟨e11, e12⟩ : S_api_Owner), e13, iU8 r_4.1⟩ : S_api_Consent)] : List S_api_Consent)).bind fun l2 => ((app 3769754152374 later l2).bind fun later3 => (grant_Load.l1 K k rows x x1 later3 (W (x17 + (1 : Int))))))))) else ((gt r_1 (0 : Int)).bind fun e14 => ((gt r_1 (1 : Int)).bind fun e15 => ((gt e1.Columns (0 : Int)).bind fun e16 => ((grant_Store_Register K (⟨x, x1⟩ : S_grant_Store) (⟨e14, e15, e16, iU8 r_4.1⟩ : S_api_Client)).bind fun r_5 => (if (!decide (r_5.1 = (0 : Int))) = true then (some (.ret (none, (3 : Int)))) else (grant_Load.l1 K k rows r_5.2.clients r_5.2.consents later (W (x17 + (1 : Int)))))))))))))))))) else (some (.go (x, x1, later)))
def grant_Load.l2 (K : Nat) : Nat → (List S_api_Consent) → (List (S_grant_name × S_api_Client)) → (List (S_grant_use × UInt8)) → Int → Option (Lr ((Option S_grant_Store) × Int) ((List (S_grant_name × S_api_Client)) × (List (S_grant_use × UInt8))))
  | 0, _, _, _, _ => none
  | k + 1, later1, x4, x5, x107 => if (decide (x107 < (later1.length : Int))) = true then ((gt later1 x107).bind fun e17 => ((grant_Store_Allow K (⟨x4, x5⟩ : S_grant_Store) e17).bind fun r_6 => (if (!decide (r_6.1 = (0 : Int))) = true then (some (.ret (none, (3 : Int)))) else (grant_Load.l2 K k later1 r_6.2.clients r_6.2.consents (W (x107 + (1 : Int))))))) else (some (.go (x4, x5)))
def grant_Load (K : Nat) (rows : List S_api_Row) : Option ((Option S_grant_Store) × Int) :=
  (grant_New K).bind fun r_ => ((grant_Load.l1 K K rows r_.clients r_.consents ([] : List S_api_Consent) (0 : Int)).bind fun q => (lrc q (fun a => some a) (fun z => (fun x2 x3 later1 => (grant_Load.l2 K K later1 x2 x3 (0 : Int)).bind fun q1 => (lrc q1 (fun a => some a) (fun z => (fun x6 x7 => some (some (⟨x6, x7⟩ : S_grant_Store), (0 : Int))) z.1 z.2))) z.1 z.2.1 z.2.2)))

-- holdfast/holdfastref13.New
def holdfastref13_New (K : Nat) : Option S_holdfastref13_Store :=
  some (⟨([] : List S_api_Client), ([] : List S_api_Consent)⟩ : S_holdfastref13_Store)

-- holdfast/holdfastref09.Split
def holdfastref09_Split.l1 : Nat → (List UInt8) → Int → Option (Lr ((List UInt8) × (List UInt8) × Bool) Unit)
  | 0, _, _ => none
  | k + 1, s, i => if (decide (i < (s.length : Int))) = true then ((gt s i).bind fun e1 => (if (decide (e1 = (47 : UInt8))) = true then ((sub s (0 : Int) i).bind fun t => ((sub s (W (i + (1 : Int))) (s.length : Int)).bind fun t1 => (some (.ret (t, t1, true))))) else (holdfastref09_Split.l1 k s (W (i + (1 : Int)))))) else (some (.go ()))
def holdfastref09_Split (K : Nat) (s : List UInt8) : Option ((List UInt8) × (List UInt8) × Bool) :=
  (holdfastref09_Split.l1 K s (0 : Int)).bind fun q => (lrc q (fun a => some a) (fun _ => some (s, ([] : List UInt8), false)))

-- holdfast/holdfastref02.ToNumber
def holdfastref02_ToNumber.l1 : Nat → (List UInt8) → Int → Option (Lr (Int × Int) Unit)
  | 0, _, _ => none
  | k + 1, s, i => if (decide (i < (s.length : Int))) = true then ((gt s i).bind fun e2 => (if ((!(((decide ((48 : UInt8) ≤ e2)) && (decide (e2 ≤ (57 : UInt8)))) || ((decide ((97 : UInt8) ≤ e2)) && (decide (e2 ≤ (102 : UInt8)))))) || ((decide (i = (1 : Int))) && (decide (e2 = (48 : UInt8))))) = true then (some (.ret ((0 : Int), (3 : Int)))) else (holdfastref02_ToNumber.l1 k s (W (i + (1 : Int)))))) else (some (.go ()))
def holdfastref02_ToNumber.j1 (K : Nat) (lk2 : Int → Int → Option (Lr (Int × Int) Int)) (n1 : Int) (i1 : Int) (d1 : Int) : Option (Lr (Int × Int) Int) :=
  if ((decide ((288230376151711744 : Int) < n1)) || ((decide (n1 = (288230376151711744 : Int))) && (decide ((0 : Int) < d1)))) = true then (some (.ret ((0 : Int), (2 : Int)))) else (lk2 (W ((W (n1 * (16 : Int))) + d1)) (W (i1 + (1 : Int))))
def holdfastref02_ToNumber.l2 (K : Nat) : Nat → (List UInt8) → Int → Int → Option (Lr (Int × Int) Int)
  | 0, _, _, _ => none
  | k + 1, s, n1, i1 => if (decide (i1 < (s.length : Int))) = true then ((gt s i1).bind fun e3 => ((gt s i1).bind fun e4 => (if (decide ((97 : UInt8) ≤ e4)) = true then ((gt s i1).bind fun e5 => (holdfastref02_ToNumber.j1 K (holdfastref02_ToNumber.l2 K k s) n1 i1 (W ((W ((e5.toNat : Int) - (97 : Int))) + (10 : Int))))) else (holdfastref02_ToNumber.j1 K (holdfastref02_ToNumber.l2 K k s) n1 i1 (W ((e3.toNat : Int) - (48 : Int))))))) else (some (.go n1))
def holdfastref02_ToNumber (K : Nat) (s : List UInt8) : Option (Int × Int) :=
  (if ((decide ((s.length : Int) < (1 : Int))) || (decide ((17 : Int) < (s.length : Int)))) = true then some true else ((gt s (0 : Int)).bind fun e1 => (some (!decide (W ((e1.toNat : Int) - (97 : Int)) = W ((s.length : Int) - (1 : Int))))))).bind fun b => (if b = true then (some ((0 : Int), (3 : Int))) else ((holdfastref02_ToNumber.l1 K s (1 : Int)).bind fun q => (lrc q (fun a => some a) (fun _ => (holdfastref02_ToNumber.l2 K K s (0 : Int) (1 : Int)).bind fun q1 => (lrc q1 (fun a => some a) (fun n2 => some (n2, (0 : Int))))))))

-- holdfast/holdfastref02.IsName
def holdfastref02_IsName.l1 : Nat → (List UInt8) → Int → Option (Lr Bool Unit)
  | 0, _, _ => none
  | k + 1, s, i => if (decide (i < (s.length : Int))) = true then ((gt s i).bind fun e1 => (if (!((((decide ((97 : UInt8) ≤ e1)) && (decide (e1 ≤ (122 : UInt8)))) || ((decide ((48 : UInt8) ≤ e1)) && (decide (e1 ≤ (57 : UInt8))))) || (decide (e1 = (45 : UInt8))))) = true then (some (.ret false)) else (holdfastref02_IsName.l1 k s (W (i + (1 : Int)))))) else (some (.go ()))
def holdfastref02_IsName (K : Nat) (s : List UInt8) : Option Bool :=
  (holdfastref02_IsName.l1 K s (0 : Int)).bind fun q => (lrc q (fun a => some a) (fun _ => some ((decide ((1 : Int) ≤ (s.length : Int))) && (decide ((s.length : Int) ≤ (9 : Int))))))

-- (*holdfast/holdfastref13.Store).client
def holdfastref13_Store_client.l1 : Nat → S_holdfastref13_Store → (List UInt8) → (List UInt8) → Int → Option (Lr Int Unit)
  | 0, _, _, _, _ => none
  | k + 1, s, tenant, name, i => if (decide (i < (s.c_.length : Int))) = true then ((gt s.c_ i).bind fun e1 => ((if (decide (e1.Tenant = tenant)) = true then ((gt s.c_ i).bind fun e2 => (some (decide (e2.Name = name)))) else some false).bind fun b => (if b = true then (some (.ret i)) else (holdfastref13_Store_client.l1 k s tenant name (W (i + (1 : Int))))))) else (some (.go ()))
def holdfastref13_Store_client (K : Nat) (s : S_holdfastref13_Store) (tenant : List UInt8) (name : List UInt8) : Option Int :=
  (holdfastref13_Store_client.l1 K s tenant name (0 : Int)).bind fun q => (lrc q (fun a => some a) (fun _ => some (-1 : Int)))

-- (*holdfast/holdfastref13.Store).consent
def holdfastref13_Store_consent.l1 : Nat → S_holdfastref13_Store → S_api_Owner → (List UInt8) → Int → Option (Lr Int Unit)
  | 0, _, _, _, _ => none
  | k + 1, s, o3, client, i => if (decide (i < (s.a.length : Int))) = true then ((gt s.a i).bind fun e1 => (if (decide (e1.Owner = o3)) = true then ((gt s.a i).bind fun e2 => (if (decide (e2.Client = client)) = true then (some (.ret i)) else (holdfastref13_Store_consent.l1 k s o3 client (W (i + (1 : Int)))))) else (holdfastref13_Store_consent.l1 k s o3 client (W (i + (1 : Int)))))) else (some (.go ()))
def holdfastref13_Store_consent (K : Nat) (s : S_holdfastref13_Store) (o3 : S_api_Owner) (client : List UInt8) : Option Int :=
  (holdfastref13_Store_consent.l1 K s o3 client (0 : Int)).bind fun q => (lrc q (fun a => some a) (fun _ => some (-1 : Int)))

-- (*holdfast/holdfastref13.Store).Consents
def holdfastref13_Store_Consents.l2 : Nat → (List S_api_Consent) → S_holdfastref13_Store → Int → Int → Option Int
  | 0, _, _, _, _ => none
  | k + 1, out, s, i, at_ => if (decide ((0 : Int) < at_)) = true then ((gt out (W (at_ - (1 : Int)))).bind fun e2 => ((gt s.a i).bind fun e3 => (if (!(ltS e2.Client e3.Client || decide (e2.Client = e3.Client))) = true then (holdfastref13_Store_Consents.l2 k out s i (W (at_ - (1 : Int)))) else (some at_)))) else (some at_)
def holdfastref13_Store_Consents.l1 (K : Nat) : Nat → S_holdfastref13_Store → S_api_Owner → (List S_api_Consent) → Int → Option (List S_api_Consent)
  | 0, _, _, _, _ => none
  | k + 1, s, o3, out, i => if (decide (i < (s.a.length : Int))) = true then ((gt s.a i).bind fun e1 => (if (!decide (e1.Owner = o3)) = true then (holdfastref13_Store_Consents.l1 K k s o3 out (W (i + (1 : Int)))) else ((holdfastref13_Store_Consents.l2 K out s i (out.length : Int)).bind fun at_1 => ((sub out (0 : Int) at_1).bind fun ys1 => ((app 3769754152374 ([] : List S_api_Consent) ys1).bind fun xs => ((gt s.a i).bind fun e4 => ((some ([e4] : List S_api_Consent)).bind fun l2 => ((app 3769754152374 xs l2).bind fun xs1 => ((sub out at_1 (out.length : Int)).bind fun ys2 => ((app 3769754152374 xs1 ys2).bind fun xs2 => (holdfastref13_Store_Consents.l1 K k s o3 xs2 (W (i + (1 : Int)))))))))))))) else (some out)
def holdfastref13_Store_Consents (K : Nat) (s : S_holdfastref13_Store) (o3 : S_api_Owner) : Option (List S_api_Consent) :=
  (holdfastref13_Store_Consents.l1 K K s o3 ([] : List S_api_Consent) (0 : Int)).bind fun out1 => (some out1)

-- (*holdfast/holdfastref13.Store).Allow
def holdfastref13_Store_Allow.l1 : Nat → S_holdfastref13_Store → Int → (List S_api_Consent) → Int → Option (List S_api_Consent)
  | 0, _, _, _, _ => none
  | k + 1, s, r_3, a16, j => if (decide (j < (s.a.length : Int))) = true then (if (!decide (j = r_3)) = true then ((gt s.a j).bind fun e2 => ((some ([e2] : List S_api_Consent)).bind fun l1 => ((app 3769754152374 a16 l1).bind fun a21 => (holdfastref13_Store_Allow.l1 k s r_3 a21 (W (j + (1 : Int))))))) else (holdfastref13_Store_Allow.l1 k s r_3 a16 (W (j + (1 : Int))))) else (some a16)
def holdfastref13_Store_Allow (K : Nat) (s : S_holdfastref13_Store) (c_ : S_api_Consent) : Option (Int × S_holdfastref13_Store) :=
  (holdfastref02_IsName K c_.Owner.Tenant).bind fun r_ => ((if (!r_) = true then some true else ((holdfastref02_IsName K c_.Owner.User).bind fun r_1 => (some (!r_1)))).bind fun b => (if b = true then (some ((8 : Int), (⟨s.c_, s.a⟩ : S_holdfastref13_Store))) else ((holdfastref13_Store_client K (⟨s.c_, s.a⟩ : S_holdfastref13_Store) c_.Owner.Tenant c_.Client).bind fun r_2 => (if (decide (r_2 < (0 : Int))) = true then (some ((4 : Int), (⟨s.c_, s.a⟩ : S_holdfastref13_Store))) else ((gt s.c_ r_2).bind fun e1 => (if (!decide (c_.Scopes &&& e1.Scopes = c_.Scopes)) = true then (some ((14 : Int), (⟨s.c_, s.a⟩ : S_holdfastref13_Store))) else ((holdfastref13_Store_consent K (⟨s.c_, s.a⟩ : S_holdfastref13_Store) c_.Owner c_.Client).bind fun r_3 => ((if (decide (r_3 < (0 : Int))) = true then ((holdfastref13_Store_Consents K (⟨s.c_, s.a⟩ : S_holdfastref13_Store) c_.Owner).bind fun r_4 => (some (decide ((4 : Int) ≤ (r_4.length : Int))))) else some false).bind fun b1 => (if b1 = true then (some ((25 : Int), (⟨s.c_, s.a⟩ : S_holdfastref13_Store))) else ((holdfastref13_Store_Allow.l1 K s r_3 ([] : List S_api_Consent) (0 : Int)).bind fun a17 => ((some ([c_] : List S_api_Consent)).bind fun l2 => ((app 3769754152374 a17 l2).bind fun a22 => (some ((0 : Int), (⟨s.c_, a22⟩ : S_holdfastref13_Store)))))))))))))))

-- (*holdfast/holdfastref13.Store).Clients
def holdfastref13_Store_Clients.l2 : Nat → (List S_api_Client) → S_holdfastref13_Store → Int → Int → Option Int
  | 0, _, _, _, _ => none
  | k + 1, out, s, i, at_ => if (decide ((0 : Int) < at_)) = true then ((gt out (W (at_ - (1 : Int)))).bind fun e2 => ((gt s.c_ i).bind fun e3 => (if (!(ltS e2.Name e3.Name || decide (e2.Name = e3.Name))) = true then (holdfastref13_Store_Clients.l2 k out s i (W (at_ - (1 : Int)))) else (some at_)))) else (some at_)
def holdfastref13_Store_Clients.l1 (K : Nat) : Nat → S_holdfastref13_Store → (List UInt8) → (List S_api_Client) → Int → Option (List S_api_Client)
  | 0, _, _, _, _ => none
  | k + 1, s, tenant, out, i => if (decide (i < (s.c_.length : Int))) = true then ((gt s.c_ i).bind fun e1 => (if (!decide (e1.Tenant = tenant)) = true then (holdfastref13_Store_Clients.l1 K k s tenant out (W (i + (1 : Int)))) else ((holdfastref13_Store_Clients.l2 K out s i (out.length : Int)).bind fun at_1 => ((sub out (0 : Int) at_1).bind fun ys1 => ((app 3769754152374 ([] : List S_api_Client) ys1).bind fun xs => ((gt s.c_ i).bind fun e4 => ((some ([e4] : List S_api_Client)).bind fun l2 => ((app 3769754152374 xs l2).bind fun xs1 => ((sub out at_1 (out.length : Int)).bind fun ys2 => ((app 3769754152374 xs1 ys2).bind fun xs2 => (holdfastref13_Store_Clients.l1 K k s tenant xs2 (W (i + (1 : Int)))))))))))))) else (some out)
def holdfastref13_Store_Clients (K : Nat) (s : S_holdfastref13_Store) (tenant : List UInt8) : Option (List S_api_Client) :=
  (holdfastref13_Store_Clients.l1 K K s tenant ([] : List S_api_Client) (0 : Int)).bind fun out1 => (some out1)

-- (*holdfast/holdfastref13.Store).full
def holdfastref13_Store_full.l2 : Nat → Int → S_holdfastref13_Store → Bool → Int → Option Bool
  | 0, _, _, _, _ => none
  | k + 1, i, s, first, k1 => if (decide (k1 < i)) = true then (if first = true then ((gt s.c_ k1).bind fun e1 => ((gt s.c_ i).bind fun e2 => (holdfastref13_Store_full.l2 k i s (!decide (e1.Tenant = e2.Tenant)) (W (k1 + (1 : Int)))))) else (holdfastref13_Store_full.l2 k i s false (W (k1 + (1 : Int))))) else (some first)
def holdfastref13_Store_full.l1 (K : Nat) : Nat → S_holdfastref13_Store → Int → Int → Option Int
  | 0, _, _, _ => none
  | k + 1, s, tenants, i => if (decide (i < (s.c_.length : Int))) = true then ((holdfastref13_Store_full.l2 K i s true (0 : Int)).bind fun first1 => (if first1 = true then (holdfastref13_Store_full.l1 K k s (W (tenants + (1 : Int))) (W (i + (1 : Int)))) else (holdfastref13_Store_full.l1 K k s tenants (W (i + (1 : Int)))))) else (some tenants)
def holdfastref13_Store_full (K : Nat) (s : S_holdfastref13_Store) (tenant : List UInt8) : Option Bool :=
  (holdfastref13_Store_Clients K (⟨s.c_, s.a⟩ : S_holdfastref13_Store) tenant).bind fun r_ => ((holdfastref13_Store_full.l1 K K s (0 : Int) (0 : Int)).bind fun tenants1 => (some ((decide ((4 : Int) ≤ (r_.length : Int))) || ((decide ((r_.length : Int) = (0 : Int))) && (decide ((4 : Int) ≤ tenants1))))))

-- (*holdfast/holdfastref13.Store).Register
def holdfastref13_Store_Register (K : Nat) (s : S_holdfastref13_Store) (c_ : S_api_Client) : Option (Int × S_holdfastref13_Store) :=
  (holdfastref02_IsName K c_.Tenant).bind fun r_ => ((if (!r_) = true then some true else ((holdfastref02_IsName K c_.Name).bind fun r_1 => (some (!r_1)))).bind fun b => (if b = true then (some ((8 : Int), (⟨s.c_, s.a⟩ : S_holdfastref13_Store))) else (if (decide ((24 : Int) < (c_.Redirect.length : Int))) = true then (some ((6 : Int), (⟨s.c_, s.a⟩ : S_holdfastref13_Store))) else ((holdfastref13_Store_client K (⟨s.c_, s.a⟩ : S_holdfastref13_Store) c_.Tenant c_.Name).bind fun r_2 => (if (decide ((0 : Int) ≤ r_2)) = true then (some ((5 : Int), (⟨s.c_, s.a⟩ : S_holdfastref13_Store))) else ((holdfastref13_Store_full K (⟨s.c_, s.a⟩ : S_holdfastref13_Store) c_.Tenant).bind fun r_3 => (if r_3 = true then (some ((24 : Int), (⟨s.c_, s.a⟩ : S_holdfastref13_Store))) else ((app 3769754152374 ([] : List S_api_Client) s.c_).bind fun xs => ((some ([c_] : List S_api_Client)).bind fun l => ((app 3769754152374 xs l).bind fun xs1 => (some ((0 : Int), (⟨xs1, s.a⟩ : S_holdfastref13_Store)))))))))))))

-- holdfast/holdfastref13.Load
def holdfastref13_Load.l1 : Nat → (List S_api_Row) → Int → Option (Lr ((Option S_holdfastref13_Store) × Int) Unit)
  | 0, _, _ => none
  | k + 1, rows, i1 => if (decide (i1 < (rows.length : Int))) = true then (if (decide ((0 : Int) < i1)) = true then ((gt rows (W (i1 - (1 : Int)))).bind fun e1 => ((gt rows i1).bind fun e2 => (if (!ltS e1.Key e2.Key) = true then (some (.ret (none, (3 : Int)))) else (holdfastref13_Load.l1 k rows (W (i1 + (1 : Int))))))) else (holdfastref13_Load.l1 k rows (W (i1 + (1 : Int))))) else (some (.go ()))
def holdfastref13_Load.j1 (K : Nat) (lk3 : List S_api_Client → List S_api_Consent → Int → Option (Lr ((Option S_holdfastref13_Store) × Int) ((List S_api_Client) × (List S_api_Consent)))) (r_2 : (List UInt8) × (List UInt8) × Bool) (turn : Int) (e3 : S_api_Row) (r_1 : (List UInt8) × (List UInt8) × Bool) (r_3 : Int × Int) (i2 : Int) (x8 : List S_api_Client) (x9 : List S_api_Consent) : Option (Lr ((Option S_holdfastref13_Store) × Int) ((List S_api_Client) × (List S_api_Consent))) :=
  if ((!r_2.2.2) && (decide (turn = (0 : Int)))) = true then ((if (!decide ((e3.Columns.length : Int) = (2 : Int))) = true then some (true, x8, x9) else ((gt e3.Columns (0 : Int)).bind fun e7 => ((holdfastref13_Store_Register K (⟨x8, x9⟩ : S_holdfastref13_Store) (⟨r_1.1, r_2.1, e7, iU8 r_3.1⟩ : S_api_Client)).bind fun r_5 => (some (!decide (r_5.1 = (0 : Int)), r_5.2.c_, r_5.2.a))))).bind fun q4 => (if q4.1 = true then (some (.ret (none, (3 : Int)))) else (lk3 q4.2.1 q4.2.2 (W (i2 + (1 : Int)))))) else (lk3 x8 x9 (W (i2 + (1 : Int))))
def holdfastref13_Load.l3 (K : Nat) : Nat → (List S_api_Row) → Int → (List S_api_Client) → (List S_api_Consent) → Int → Option (Lr ((Option S_holdfastref13_Store) × Int) ((List S_api_Client) × (List S_api_Consent)))
  | 0, _, _, _, _, _ => none
  | k + 1, rows, turn, x4, x5, i2 => if (decide (i2 < (rows.length : Int))) = true then ((gt rows i2).bind fun e3 => ((holdfastref09_Split K e3.Key).bind fun r_1 => ((holdfastref09_Split K r_1.2.1).bind fun r_2 => (if ((!r_1.2.2) || (decide ((e3.Columns.length : Int) = (0 : Int)))) = true then (some (.ret (none, (3 : Int)))) else ((gt e3.Columns (W ((e3.Columns.length : Int) - (1 : Int)))).bind fun e4 => ((holdfastref02_ToNumber K e4).bind fun r_3 => (if ((!decide (r_3.2 = (0 : Int))) || (decide ((255 : Int) < r_3.1))) = true then (some (.ret (none, (3 : Int)))) else (if (r_2.2.2 && (decide (turn = (1 : Int)))) = true then ((if (!decide ((e3.Columns.length : Int) = (1 : Int))) = true then some (true, x4, x5) else ((holdfastref13_Store_Allow K (⟨x4, x5⟩ : S_holdfastref13_Store) (⟨(⟨r_1.1, r_2.1⟩ : S_api_Owner), r_2.2.1, iU8 r_3.1⟩ : S_api_Consent)).bind fun r_4 => (some (!decide (r_4.1 = (0 : Int)), r_4.2.c_, r_4.2.a)))).bind fun q3 => (if q3.1 = true then (some (.ret (none, (3 : Int)))) else (holdfastref13_Load.j1 K (holdfastref13_Load.l3 K k rows turn) r_2 turn e3 r_1 r_3 i2 q3.2.1 q3.2.2))) else (holdfastref13_Load.j1 K (holdfastref13_Load.l3 K k rows turn) r_2 turn e3 r_1 r_3 i2 x4 x5))))))))) else (some (.go (x4, x5)))
def holdfastref13_Load.l2 (K : Nat) : Nat → (List S_api_Row) → (List S_api_Client) → (List S_api_Consent) → Int → Option (Lr ((Option S_holdfastref13_Store) × Int) ((List S_api_Client) × (List S_api_Consent)))
  | 0, _, _, _, _ => none
  | k + 1, rows, x, x1, turn => if (decide (turn < (2 : Int))) = true then ((holdfastref13_Load.l3 K K rows turn x x1 (0 : Int)).bind fun q2 => (lrc q2 (fun a => some (.ret a)) (fun z => (fun x6 x7 => holdfastref13_Load.l2 K k rows x6 x7 (W (turn + (1 : Int)))) z.1 z.2))) else (some (.go (x, x1)))
def holdfastref13_Load (K : Nat) (rows : List S_api_Row) : Option ((Option S_holdfastref13_Store) × Int) :=
  (holdfastref13_New K).bind fun r_ => ((holdfastref13_Load.l1 K rows (0 : Int)).bind fun q => (lrc q (fun a => some a) (fun _ => (holdfastref13_Load.l2 K K rows r_.c_ r_.a (0 : Int)).bind fun q1 => (lrc q1 (fun a => some a) (fun z => (fun x2 x3 => some (some (⟨x2, x3⟩ : S_holdfastref13_Store), (0 : Int))) z.1 z.2)))))

-- (*holdfast/grant.Store).Consent
def grant_Store_Consent (K : Nat) (s : S_grant_Store) (o3 : S_api_Owner) (client : List UInt8) : Option (S_api_Consent × Int) :=
  if (!((mget s.consents (⟨o3, client⟩ : S_grant_use)).isSome)) = true then (some ((⟨(⟨([] : List UInt8), ([] : List UInt8)⟩ : S_api_Owner), ([] : List UInt8), (0 : UInt8)⟩ : S_api_Consent), (4 : Int))) else (some ((⟨o3, client, ((mget s.consents (⟨o3, client⟩ : S_grant_use)).getD (0 : UInt8))⟩ : S_api_Consent), (0 : Int)))

-- (*holdfast/grant.Store).May
def grant_Store_May (K : Nat) (s : S_grant_Store) (o3 : S_api_Owner) (client : List UInt8) (redirect : List UInt8) (scopes : UInt8) : Option Int :=
  (grant_Store_look K (⟨s.clients, s.consents⟩ : S_grant_Store) o3.Tenant client).bind fun r_ => (if (!decide (r_.2 = (0 : Int))) = true then (some r_.2) else ((grant_Store_Consent K (⟨s.clients, s.consents⟩ : S_grant_Store) o3 client).bind fun r_1 => (if (!decide (r_1.2 = (0 : Int))) = true then (some r_1.2) else (if (!decide (r_.1.Redirect = redirect)) = true then (some (10 : Int)) else (if (!decide (scopes &&& ~~~r_1.1.Scopes = (0 : UInt8))) = true then (some (14 : Int)) else (some (0 : Int)))))))

-- (*holdfast/grant.Store).Narrow
def grant_Store_Narrow.m1 (K : Nat) (tenant : List UInt8) (client : List UInt8) (scopes : UInt8) (x : S_grant_use × UInt8) (s : (List (S_grant_use × UInt8))) : Option (Lr Unit (List (S_grant_use × UInt8))) :=
  (fun k1 u x => if ((decide (k1.Owner.Tenant = tenant)) && (decide (k1.client = client))) = true then ((req ((mget x k1).isSome = true)).bind fun u1 => ((some (mset x k1 (u &&& scopes))).bind fun m1 => (some (.go m1)))) else (some (.go x))) x.1 x.2 s
def grant_Store_Narrow (K : Nat) (s : S_grant_Store) (tenant : List UInt8) (client : List UInt8) (scopes : UInt8) : Option (UInt8 × Int × S_grant_Store) :=
  (grant_Store_look K (⟨s.clients, s.consents⟩ : S_grant_Store) tenant client).bind fun r_ => (if (!decide (r_.2 = (0 : Int))) = true then (some ((0 : UInt8), r_.2, (⟨s.clients, s.consents⟩ : S_grant_Store))) else ((some (mset s.clients (⟨tenant, client⟩ : S_grant_name) (⟨r_.1.Tenant, r_.1.Name, r_.1.Redirect, r_.1.Scopes &&& scopes⟩ : S_api_Client))).bind fun m => (mrngK (grant_Store_Narrow.m1 K tenant client scopes : S_grant_use × UInt8 → (List (S_grant_use × UInt8)) → Option (Lr Unit (List (S_grant_use × UInt8)))) s.consents s.consents fun q => (lrc q (fun a => none) (fun z => (fun x => some (r_.1.Scopes &&& scopes, (0 : Int), (⟨m, x⟩ : S_grant_Store))) z)))))

-- holdfast/holdfastlaw13.live
def holdfastlaw13_live (K : Nat) : Option Bool :=
  (grant_New K).bind fun r_ => ((grant_Store_Register K (⟨r_.clients, r_.consents⟩ : S_grant_Store) (⟨([116] : List UInt8), ([99] : List UInt8), ([114] : List UInt8), (3 : UInt8)⟩ : S_api_Client)).bind fun r_1 => ((grant_Store_Allow K (⟨r_1.2.clients, r_1.2.consents⟩ : S_grant_Store) (⟨(⟨([116] : List UInt8), ([117] : List UInt8)⟩ : S_api_Owner), ([99] : List UInt8), (1 : UInt8)⟩ : S_api_Consent)).bind fun r_2 => ((grant_Store_May K (⟨r_2.2.clients, r_2.2.consents⟩ : S_grant_Store) (⟨([116] : List UInt8), ([117] : List UInt8)⟩ : S_api_Owner) ([99] : List UInt8) ([114] : List UInt8) (1 : UInt8)).bind fun r_3 => ((grant_Store_Narrow K (⟨r_2.2.clients, r_2.2.consents⟩ : S_grant_Store) ([116] : List UInt8) ([99] : List UInt8) (2 : UInt8)).bind fun r_4 => ((if (((((decide (r_1.1 = (0 : Int))) && (decide (r_2.1 = (0 : Int)))) && (decide (r_3 = (0 : Int)))) && (decide (r_4.1 = (2 : UInt8)))) && (decide (r_4.2.1 = (0 : Int)))) = true then ((grant_Store_May K (⟨r_4.2.2.clients, r_4.2.2.consents⟩ : S_grant_Store) (⟨([116] : List UInt8), ([117] : List UInt8)⟩ : S_api_Owner) ([99] : List UInt8) ([114] : List UInt8) (1 : UInt8)).bind fun r_5 => (some (decide (r_5 = (14 : Int))))) else some false).bind fun b8 => (some b8))))))

-- math/bits.Len64
def bits_Len64.j3 (K : Nat) (x3 : UInt64) (n3 : Int) : Option Int :=
  (gt ([0, 1, 2, 2, 3, 3, 3, 3, 4, 4, 4, 4, 4, 4, 4, 4, 5, 5, 5, 5, 5, 5, 5, 5, 5, 5, 5, 5, 5, 5, 5, 5, 6, 6, 6, 6, 6, 6, 6, 6, 6, 6, 6, 6, 6, 6, 6, 6, 6, 6, 6, 6, 6, 6, 6, 6, 6, 6, 6, 6, 6, 6, 6, 6, 7, 7, 7, 7, 7, 7, 7, 7, 7, 7, 7, 7, 7, 7, 7, 7, 7, 7, 7, 7, 7, 7, 7, 7, 7, 7, 7, 7, 7, 7, 7, 7, 7, 7, 7, 7, 7, 7, 7, 7, 7, 7, 7, 7, 7, 7, 7, 7, 7, 7, 7, 7, 7, 7, 7, 7, 7, 7, 7, 7, 7, 7, 7, 7, 8, 8, 8, 8, 8, 8, 8, 8, 8, 8, 8, 8, 8, 8, 8, 8, 8, 8, 8, 8, 8, 8, 8, 8, 8, 8, 8, 8, 8, 8, 8, 8, 8, 8, 8, 8, 8, 8, 8, 8, 8, 8, 8, 8, 8, 8, 8, 8, 8, 8, 8, 8, 8, 8, 8, 8, 8, 8, 8, 8, 8, 8, 8, 8, 8, 8, 8, 8, 8, 8, 8, 8, 8, 8, 8, 8, 8, 8, 8, 8, 8, 8, 8, 8, 8, 8, 8, 8, 8, 8, 8, 8, 8, 8, 8, 8, 8, 8, 8, 8, 8, 8, 8, 8, 8, 8, 8, 8, 8, 8, 8, 8, 8, 8, 8, 8, 8, 8, 8, 8, 8, 8, 8, 8, 8, 8, 8, 8] : List UInt8) (x3.toUInt8.toNat : Int)).bind fun e => (some (W (n3 + (e.toNat : Int))))
def bits_Len64.j2 (K : Nat) (x2 : UInt64) (n2 : Int) : Option Int :=
  if (decide ((256 : UInt64) ≤ x2)) = true then (bits_Len64.j3 K (shr64 x2 8) (W (n2 + (8 : Int)))) else (bits_Len64.j3 K x2 n2)
def bits_Len64.j1 (K : Nat) (x1 : UInt64) (n1 : Int) : Option Int :=
  if (decide ((65536 : UInt64) ≤ x1)) = true then (bits_Len64.j2 K (shr64 x1 16) (W (n1 + (16 : Int)))) else (bits_Len64.j2 K x1 n1)
def bits_Len64 (K : Nat) (x : UInt64) : Option Int :=
  if (decide ((4294967296 : UInt64) ≤ x)) = true then (bits_Len64.j1 K (shr64 x 32) (32 : Int)) else (bits_Len64.j1 K x (0 : Int))

-- internal/strconv.log10Pow2
def strconv_log10Pow2 (K : Nat) (x : Int) : Option Int :=
  some (shrI (W (x * (78913 : Int))) 18)

-- internal/strconv.bool2[int]
def strconv_bool2_int (K : Nat) (b : Bool) : Option Int :=
  if b = true then (some (1 : Int)) else (some (0 : Int))

-- internal/strconv.numDigits
def strconv_numDigits (K : Nat) (d1 : UInt64) : Option Int :=
  (bits_Len64 K d1).bind fun r_ => ((strconv_log10Pow2 K r_).bind fun r_1 => ((gt tab3 r_1).bind fun e1 => ((strconv_bool2_int K (decide (e1 ≤ d1))).bind fun r_2 => (some (W (r_1 + r_2))))))

-- internal/strconv.isPowerOfTwo
def strconv_isPowerOfTwo (K : Nat) (x : Int) : Option Bool :=
  some (decide (andI x (W (x - (1 : Int))) = (0 : Int)))

-- math/bits.TrailingZeros64
def bits_TrailingZeros64 (K : Nat) (x : UInt64) : Option Int :=
  if (decide (x = (0 : UInt64))) = true then (some (64 : Int)) else ((gt tab7 ((shr64 ((x &&& (0 - x)) * (285870213051353865 : UInt64)) 58).toNat : Int)).bind fun e1 => (some (e1.toNat : Int)))

-- math/bits.TrailingZeros
def bits_TrailingZeros (K : Nat) (x : UInt64) : Option Int :=
  (bits_TrailingZeros64 K x).bind fun r_ => (some r_)

-- internal/strconv.formatBits
def strconv_formatBits.l1 : Nat → Int → Int → UInt64 → (List UInt8) → Int → Option (UInt64 × (List UInt8) × Int)
  | 0, _, _, _, _, _ => none
  | k + 1, base, r_1, u2, a2, i2 => if (decide (iU64 base ≤ u2)) = true then ((gt ([48, 49, 50, 51, 52, 53, 54, 55, 56, 57, 97, 98, 99, 100, 101, 102, 103, 104, 105, 106, 107, 108, 109, 110, 111, 112, 113, 114, 115, 116, 117, 118, 119, 120, 121, 122] : List UInt8) ((u2 &&& ((iU64 base) - (1 : UInt64))).toNat : Int)).bind fun e1 => ((req (0 ≤ W (i2 - (1 : Int)) ∧ W (i2 - (1 : Int)) < (a2.length : Int))).bind fun u4 => ((some (a2.set (W (i2 - (1 : Int))).toNat e1)).bind fun a5 => (strconv_formatBits.l1 k base r_1 (shr64 u2 (iU64 r_1).toNat) a5 (W (i2 - (1 : Int))))))) else (some (u2, a2, i2))
def strconv_formatBits.l2 : Nat → Int → UInt64 → (List UInt8) → Int → Option (UInt64 × (List UInt8) × Int)
  | 0, _, _, _, _ => none
  | k + 1, base, u6, a8, i4 => if (decide (iU64 base ≤ u6)) = true then ((req (iU64 base ≠ 0)).bind fun u8 => ((gt ([48, 49, 50, 51, 52, 53, 54, 55, 56, 57, 97, 98, 99, 100, 101, 102, 103, 104, 105, 106, 107, 108, 109, 110, 111, 112, 113, 114, 115, 116, 117, 118, 119, 120, 121, 122] : List UInt8) ((u6 - ((u6 / (iU64 base)) * (iU64 base))).toNat : Int)).bind fun e3 => ((req (0 ≤ W (i4 - (1 : Int)) ∧ W (i4 - (1 : Int)) < (a8.length : Int))).bind fun u9 => ((some (a8.set (W (i4 - (1 : Int))).toNat e3)).bind fun a11 => (strconv_formatBits.l2 k base (u6 / (iU64 base)) a11 (W (i4 - (1 : Int)))))))) else (some (u6, a8, i4))
def strconv_formatBits.j4 (K : Nat) (append_ : Bool) (a14 : List UInt8) (i6 : Int) : Option ((List UInt8) × (List UInt8)) :=
  if append_ = true then (none) else ((sub a14 i6 (65 : Int)).bind fun ys1 => (some (([] : List UInt8), ys1)))
def strconv_formatBits.j3 (K : Nat) (neg : Bool) (append_ : Bool) (a1 : List UInt8) (i1 : Int) : Option ((List UInt8) × (List UInt8)) :=
  if neg = true then ((req (0 ≤ W (i1 - (1 : Int)) ∧ W (i1 - (1 : Int)) < (a1.length : Int))).bind fun u11 => ((some (a1.set (W (i1 - (1 : Int))).toNat (45 : UInt8))).bind fun a16 => (strconv_formatBits.j4 K append_ a16 (W (i1 - (1 : Int)))))) else (strconv_formatBits.j4 K append_ a1 i1)
def strconv_formatBits.j2 (K : Nat) (base : Int) (neg : Bool) (append_ : Bool) (u1 : UInt64) : Option ((List UInt8) × (List UInt8)) :=
  (strconv_isPowerOfTwo K base).bind fun r_ => (if r_ = true then ((bits_TrailingZeros K (iU64 base)).bind fun r_1 => ((strconv_formatBits.l1 K base r_1 u1 (List.replicate 65 (0 : UInt8)) (65 : Int)).bind fun q => ((fun u3 a3 i3 => (gt ([48, 49, 50, 51, 52, 53, 54, 55, 56, 57, 97, 98, 99, 100, 101, 102, 103, 104, 105, 106, 107, 108, 109, 110, 111, 112, 113, 114, 115, 116, 117, 118, 119, 120, 121, 122] : List UInt8) (u3.toNat : Int)).bind fun e2 => ((req (0 ≤ W (i3 - (1 : Int)) ∧ W (i3 - (1 : Int)) < (a3.length : Int))).bind fun u5 => ((some (a3.set (W (i3 - (1 : Int))).toNat e2)).bind fun a7 => (strconv_formatBits.j3 K neg append_ a7 (W (i3 - (1 : Int))))))) q.1 q.2.1 q.2.2))) else ((strconv_formatBits.l2 K base u1 (List.replicate 65 (0 : UInt8)) (65 : Int)).bind fun q1 => ((fun u7 a9 i5 => (gt ([48, 49, 50, 51, 52, 53, 54, 55, 56, 57, 97, 98, 99, 100, 101, 102, 103, 104, 105, 106, 107, 108, 109, 110, 111, 112, 113, 114, 115, 116, 117, 118, 119, 120, 121, 122] : List UInt8) (u7.toNat : Int)).bind fun e4 => ((req (0 ≤ W (i5 - (1 : Int)) ∧ W (i5 - (1 : Int)) < (a9.length : Int))).bind fun u10 => ((some (a9.set (W (i5 - (1 : Int))).toNat e4)).bind fun a13 => (strconv_formatBits.j3 K neg append_ a13 (W (i5 - (1 : Int))))))) q1.1 q1.2.1 q1.2.2)))
def strconv_formatBits.j1 (K : Nat) (neg : Bool) (base : Int) (append_ : Bool) (u : UInt64) : Option ((List UInt8) × (List UInt8)) :=
  if neg = true then (strconv_formatBits.j2 K base neg append_ (0 - u)) else (strconv_formatBits.j2 K base neg append_ u)
def strconv_formatBits (K : Nat) (dst : List UInt8) (u : UInt64) (base : Int) (neg : Bool) (append_ : Bool) : Option ((List UInt8) × (List UInt8)) :=
  if (((decide (base < (2 : Int))) || (decide (base = (10 : Int)))) || (decide ((36 : Int) < base))) = true then (none) else (strconv_formatBits.j1 K neg base append_ u)

-- internal/strconv.FormatInt
def strconv_FormatInt_123.j1 (K : Nat) (u : UInt64) : Option (List UInt8) :=
  none
def strconv_FormatInt_123 (K : Nat) (i : Int) (base : Int) : Option (List UInt8) :=
  if (decide (base = (10 : Int))) = true then (if ((decide ((0 : Int) ≤ i)) && (decide (i < (100 : Int)))) = true then (none) else (if (decide (i < (0 : Int))) = true then (strconv_FormatInt_123.j1 K (0 - (iU64 i))) else (strconv_FormatInt_123.j1 K (iU64 i)))) else ((strconv_formatBits K ([] : List UInt8) (iU64 i) base (decide (i < (0 : Int))) false).bind fun r_ => (some r_.2))

-- strconv.FormatInt
def strconv_FormatInt_81 (K : Nat) (i : Int) (base : Int) : Option (List UInt8) :=
  (strconv_FormatInt_123 K i base).bind fun r_ => (some r_)

-- internal/stringslite.TrimPrefix
def stringslite_TrimPrefix (K : Nat) (s : List UInt8) (prefix_ : List UInt8) : Option (List UInt8) :=
  (stringslite_HasPrefix K s prefix_).bind fun r_ => (if r_ = true then ((sub s (prefix_.length : Int) (s.length : Int)).bind fun t => (some t)) else (some s))

-- strings.TrimPrefix
def strings_TrimPrefix (K : Nat) (s : List UInt8) (prefix_ : List UInt8) : Option (List UInt8) :=
  (stringslite_TrimPrefix K s prefix_).bind fun r_ => (some r_)

-- holdfast/codec.Number
def codec_Number (K : Nat) (n1 : Int) : Option ((List UInt8) × Int) :=
  if ((decide (n1 < (0 : Int))) || (decide ((4611686018427387904 : Int) < n1))) = true then (some (([] : List UInt8), (2 : Int))) else ((strconv_FormatInt_81 K n1 (16 : Int)).bind fun r_ => ((strings_TrimPrefix K r_ ([48] : List UInt8)).bind fun r_1 => ((app 9223372036854775807 (runeS (R32 (W ((97 : Int) + (r_1.length : Int))))) r_1).bind fun t => (some (t, (0 : Int))))))

-- holdfast/grant.number
def grant_number (K : Nat) (x : UInt8) : Option (List UInt8) :=
  (codec_Number K (x.toNat : Int)).bind fun r_ => (some r_.1)

-- slices.SortFunc[[]holdfast/api.Row,holdfast/api.Row]
def api_Row_42_f43 (K : Nat) (x : List S_api_Row) : Option (List S_api_Row) := if x.length < 4611686018427387904 ∧ (x.map fun a => a.Key).Nodup then some (sortS (fun (a b : S_api_Row) => cmpS a.Key b.Key) x) else none

-- (*holdfast/grant.Store).Rows
def grant_Store_Rows.m1 (K : Nat) (x : S_grant_name × S_api_Client) (s : (List S_api_Row)) : Option (Lr Unit (List S_api_Row)) :=
  (fun k1 u out => (app 9223372036854775807 k1.tenant ([47] : List UInt8)).bind fun t => ((app 9223372036854775807 t k1.name).bind fun t1 => ((grant_number K u.Scopes).bind fun r_ => ((some ([u.Redirect, r_] : List (List UInt8))).bind fun l2 => ((some ([(⟨t1, l2⟩ : S_api_Row)] : List S_api_Row)).bind fun l3 => ((app 5277655813324 out l3).bind fun out1 => (some (.go out1)))))))) x.1 x.2 s
def grant_Store_Rows.m2 (K : Nat) (x : S_grant_use × UInt8) (s : (List S_api_Row)) : Option (Lr Unit (List S_api_Row)) :=
  (fun k2 u1 out2 => (app 9223372036854775807 k2.Owner.Tenant ([47] : List UInt8)).bind fun t2 => ((app 9223372036854775807 t2 k2.Owner.User).bind fun t3 => ((app 9223372036854775807 t3 ([47] : List UInt8)).bind fun t4 => ((app 9223372036854775807 t4 k2.client).bind fun t5 => ((grant_number K u1).bind fun r_1 => ((some ([r_1] : List (List UInt8))).bind fun l6 => ((some ([(⟨t5, l6⟩ : S_api_Row)] : List S_api_Row)).bind fun l7 => ((app 5277655813324 out2 l7).bind fun out3 => (some (.go out3)))))))))) x.1 x.2 s
def grant_Store_Rows (K : Nat) (s : S_grant_Store) : Option (List S_api_Row) :=
  mrngK (grant_Store_Rows.m1 K : S_grant_name × S_api_Client → (List S_api_Row) → Option (Lr Unit (List S_api_Row))) s.clients ([] : List S_api_Row) fun q => (lrc q (fun a => none) (fun z => (fun out => mrngK (grant_Store_Rows.m2 K : S_grant_use × UInt8 → (List S_api_Row) → Option (Lr Unit (List S_api_Row))) s.consents out fun q1 => (lrc q1 (fun a => none) (fun z => (fun out2 => (api_Row_42_f43 K out2).bind fun r_2 => (some r_2)) z))) z))

-- holdfast/holdfastref02.SameTexts
def holdfastref02_SameTexts.l1 : Nat → (List (List UInt8)) → (List (List UInt8)) → Int → Option (Lr Bool Unit)
  | 0, _, _, _ => none
  | k + 1, a1, b, i => if (decide (i < (a1.length : Int))) = true then ((gt a1 i).bind fun e => ((gt b i).bind fun e1 => (if (!decide (e = e1)) = true then (some (.ret false)) else (holdfastref02_SameTexts.l1 k a1 b (W (i + (1 : Int))))))) else (some (.go ()))
def holdfastref02_SameTexts (K : Nat) (a1 : List (List UInt8)) (b : List (List UInt8)) : Option Bool :=
  if (!decide ((a1.length : Int) = (b.length : Int))) = true then (some false) else ((holdfastref02_SameTexts.l1 K a1 b (0 : Int)).bind fun q => (lrc q (fun a => some a) (fun _ => some true)))

-- holdfast/holdfastref06.SameRows
def holdfastref06_SameRows.l1 (K : Nat) : Nat → (List S_api_Row) → (List S_api_Row) → Int → Option (Lr Bool Unit)
  | 0, _, _, _ => none
  | k + 1, a1, b, i2 => if (decide (i2 < (a1.length : Int))) = true then ((gt a1 i2).bind fun e1 => ((gt b i2).bind fun e2 => (if (!decide (e1.Key = e2.Key)) = true then (some (.ret false)) else ((gt a1 i2).bind fun e3 => ((gt b i2).bind fun e4 => ((holdfastref02_SameTexts K e3.Columns e4.Columns).bind fun r_ => (if (!r_) = true then (some (.ret false)) else (holdfastref06_SameRows.l1 K k a1 b (W (i2 + (1 : Int))))))))))) else (some (.go ()))
def holdfastref06_SameRows (K : Nat) (a1 : List S_api_Row) (b : List S_api_Row) : Option Bool :=
  if (!decide ((a1.length : Int) = (b.length : Int))) = true then (some false) else ((holdfastref06_SameRows.l1 K K a1 b (0 : Int)).bind fun q => (lrc q (fun a => some a) (fun _ => some true)))

-- (*holdfast/holdfastref13.Store).Narrow
def holdfastref13_Store_Narrow.l1 : Nat → (List UInt8) → (List UInt8) → UInt8 → (List S_api_Consent) → Int → Option (List S_api_Consent)
  | 0, _, _, _, _, _ => none
  | k + 1, tenant, name, scopes, a8, k1 => if (decide (k1 < (a8.length : Int))) = true then ((gt a8 k1).bind fun e4 => ((if (decide (e4.Owner.Tenant = tenant)) = true then ((gt a8 k1).bind fun e5 => (some (decide (e5.Client = name)))) else some false).bind fun b => (if b = true then ((gt a8 k1).bind fun e6 => ((gt a8 k1).bind fun e7 => ((some (a8.set (k1).toNat (⟨e7.Owner, e7.Client, e6.Scopes &&& scopes⟩ : S_api_Consent))).bind fun a19 => (holdfastref13_Store_Narrow.l1 k tenant name scopes a19 (W (k1 + (1 : Int))))))) else (holdfastref13_Store_Narrow.l1 k tenant name scopes a8 (W (k1 + (1 : Int))))))) else (some a8)
def holdfastref13_Store_Narrow (K : Nat) (s : S_holdfastref13_Store) (tenant : List UInt8) (name : List UInt8) (scopes : UInt8) : Option (UInt8 × Int × S_holdfastref13_Store) :=
  (holdfastref13_Store_client K (⟨s.c_, s.a⟩ : S_holdfastref13_Store) tenant name).bind fun r_ => (if (decide (r_ < (0 : Int))) = true then (some ((0 : UInt8), (4 : Int), (⟨s.c_, s.a⟩ : S_holdfastref13_Store))) else ((app 3769754152374 ([] : List S_api_Client) s.c_).bind fun xs => ((gt xs r_).bind fun e1 => ((gt xs r_).bind fun e2 => ((some (xs.set (r_).toNat (⟨e2.Tenant, e2.Name, e2.Redirect, e1.Scopes &&& scopes⟩ : S_api_Client))).bind fun xs1 => ((app 3769754152374 ([] : List S_api_Consent) s.a).bind fun xs2 => ((holdfastref13_Store_Narrow.l1 K tenant name scopes xs2 (0 : Int)).bind fun a9 => ((gt xs1 r_).bind fun e9 => (some (e9.Scopes, (0 : Int), (⟨xs1, a9⟩ : S_holdfastref13_Store)))))))))))

-- (*holdfast/grant.Store).Drop$1
def grant_Store_Drop_1 (K : Nat) (u : S_grant_use) (x_ : UInt8) (x2 : List UInt8) (x3 : List UInt8) : Option Bool :=
  some ((decide (u.Owner.Tenant = x2)) && (decide (u.client = x3)))

-- maps.DeleteFunc[map[holdfast/grant.use]holdfast/api.Scopes,holdfast/grant.use,holdfast/api.Scopes]
def api_Scopes_53_f54.m1 (K : Nat) (cap : List UInt8) (cap1 : List UInt8) (x : S_grant_use × UInt8) (s : (List (S_grant_use × UInt8))) : Option (Lr Unit (List (S_grant_use × UInt8))) :=
  (fun k1 u m1 => (grant_Store_Drop_1 K k1 u cap cap1).bind fun r_ => (if r_ = true then ((some (mdel m1 k1)).bind fun m2 => (some (.go m2))) else (some (.go m1)))) x.1 x.2 s
def api_Scopes_53_f54 (K : Nat) (m : List (S_grant_use × UInt8)) (cap : List UInt8) (cap1 : List UInt8) : Option (List (S_grant_use × UInt8)) :=
  mrngK (api_Scopes_53_f54.m1 K cap cap1 : S_grant_use × UInt8 → (List (S_grant_use × UInt8)) → Option (Lr Unit (List (S_grant_use × UInt8)))) m m fun q => (lrc q (fun a => none) (fun z => (fun m1 => some m1) z))

-- (*holdfast/grant.Store).Drop
def grant_Store_Drop.j1 (K : Nat) (r_ : S_api_Client × Int) (x : List (S_grant_name × S_api_Client)) (x1 : List (S_grant_use × UInt8)) : Option (Int × S_grant_Store) :=
  some (r_.2, (⟨x, x1⟩ : S_grant_Store))
def grant_Store_Drop (K : Nat) (s : S_grant_Store) (tenant : List UInt8) (client : List UInt8) : Option (Int × S_grant_Store) :=
  (grant_Store_look K (⟨s.clients, s.consents⟩ : S_grant_Store) tenant client).bind fun r_ => (if (decide (r_.2 = (0 : Int))) = true then ((some (mdel s.clients (⟨tenant, client⟩ : S_grant_name))).bind fun m => ((api_Scopes_53_f54 K s.consents tenant client).bind fun r_1 => (grant_Store_Drop.j1 K r_ m r_1))) else (grant_Store_Drop.j1 K r_ s.clients s.consents))

-- (*holdfast/holdfastref13.Store).Drop
def holdfastref13_Store_Drop.l1 : Nat → S_holdfastref13_Store → (List UInt8) → (List UInt8) → (List S_api_Client) → Int → Option (List S_api_Client)
  | 0, _, _, _, _, _ => none
  | k + 1, s, tenant, name, l, i => if (decide (i < (s.c_.length : Int))) = true then ((gt s.c_ i).bind fun e1 => ((if (!decide (e1.Tenant = tenant)) = true then some true else ((gt s.c_ i).bind fun e2 => (some (!decide (e2.Name = name))))).bind fun b => (if b = true then ((gt s.c_ i).bind fun e3 => ((some ([e3] : List S_api_Client)).bind fun l2 => ((app 3769754152374 l l2).bind fun l3 => (holdfastref13_Store_Drop.l1 k s tenant name l3 (W (i + (1 : Int))))))) else (holdfastref13_Store_Drop.l1 k s tenant name l (W (i + (1 : Int))))))) else (some l)
def holdfastref13_Store_Drop.l2 : Nat → S_holdfastref13_Store → (List UInt8) → (List UInt8) → (List S_api_Consent) → Int → Option (List S_api_Consent)
  | 0, _, _, _, _, _ => none
  | k + 1, s, tenant, name, a10, i1 => if (decide (i1 < (s.a.length : Int))) = true then ((gt s.a i1).bind fun e4 => ((if (!decide (e4.Owner.Tenant = tenant)) = true then some true else ((gt s.a i1).bind fun e5 => (some (!decide (e5.Client = name))))).bind fun b1 => (if b1 = true then ((gt s.a i1).bind fun e6 => ((some ([e6] : List S_api_Consent)).bind fun l4 => ((app 3769754152374 a10 l4).bind fun a22 => (holdfastref13_Store_Drop.l2 k s tenant name a22 (W (i1 + (1 : Int))))))) else (holdfastref13_Store_Drop.l2 k s tenant name a10 (W (i1 + (1 : Int))))))) else (some a10)
def holdfastref13_Store_Drop (K : Nat) (s : S_holdfastref13_Store) (tenant : List UInt8) (name : List UInt8) : Option (Int × S_holdfastref13_Store) :=
  (holdfastref13_Store_client K (⟨s.c_, s.a⟩ : S_holdfastref13_Store) tenant name).bind fun r_ => (if (decide (r_ < (0 : Int))) = true then (some ((4 : Int), (⟨s.c_, s.a⟩ : S_holdfastref13_Store))) else ((holdfastref13_Store_Drop.l1 K s tenant name ([] : List S_api_Client) (0 : Int)).bind fun l1 => ((holdfastref13_Store_Drop.l2 K s tenant name ([] : List S_api_Consent) (0 : Int)).bind fun a11 => (some ((0 : Int), (⟨l1, a11⟩ : S_holdfastref13_Store))))))

-- (*holdfast/grant.Store).Withdraw
def grant_Store_Withdraw.j1 (K : Nat) (r_ : S_api_Consent × Int) (s : S_grant_Store) (x : List (S_grant_use × UInt8)) : Option (Int × S_grant_Store) :=
  some (r_.2, (⟨s.clients, x⟩ : S_grant_Store))
def grant_Store_Withdraw (K : Nat) (s : S_grant_Store) (o3 : S_api_Owner) (client : List UInt8) : Option (Int × S_grant_Store) :=
  (grant_Store_Consent K (⟨s.clients, s.consents⟩ : S_grant_Store) o3 client).bind fun r_ => (if (decide (r_.2 = (0 : Int))) = true then ((some (mdel s.consents (⟨o3, client⟩ : S_grant_use))).bind fun m => (grant_Store_Withdraw.j1 K r_ s m)) else (grant_Store_Withdraw.j1 K r_ s s.consents))

-- (*holdfast/holdfastref13.Store).Withdraw
def holdfastref13_Store_Withdraw (K : Nat) (s : S_holdfastref13_Store) (o3 : S_api_Owner) (client : List UInt8) : Option (Int × S_holdfastref13_Store) :=
  (holdfastref13_Store_consent K (⟨s.c_, s.a⟩ : S_holdfastref13_Store) o3 client).bind fun r_ => (if (decide (r_ < (0 : Int))) = true then (some ((4 : Int), (⟨s.c_, s.a⟩ : S_holdfastref13_Store))) else ((sub s.a (0 : Int) r_).bind fun ys1 => ((app 3769754152374 ([] : List S_api_Consent) ys1).bind fun xs => ((sub s.a (W (r_ + (1 : Int))) (s.a.length : Int)).bind fun ys2 => ((app 3769754152374 xs ys2).bind fun xs1 => (some ((0 : Int), (⟨s.c_, xs1⟩ : S_holdfastref13_Store))))))))

-- (*holdfast/grant.Store).DropUser$1
def grant_Store_DropUser_1 (K : Nat) (u : S_grant_use) (x_ : UInt8) (x2 : S_api_Owner) : Option Bool :=
  some (decide (u.Owner = x2))

-- maps.DeleteFunc[map[holdfast/grant.use]holdfast/api.Scopes,holdfast/grant.use,holdfast/api.Scopes]
def api_Scopes_53_f55.m1 (K : Nat) (cap : S_api_Owner) (x : S_grant_use × UInt8) (s : (List (S_grant_use × UInt8))) : Option (Lr Unit (List (S_grant_use × UInt8))) :=
  (fun k1 u m1 => (grant_Store_DropUser_1 K k1 u cap).bind fun r_ => (if r_ = true then ((some (mdel m1 k1)).bind fun m2 => (some (.go m2))) else (some (.go m1)))) x.1 x.2 s
def api_Scopes_53_f55 (K : Nat) (m : List (S_grant_use × UInt8)) (cap : S_api_Owner) : Option (List (S_grant_use × UInt8)) :=
  mrngK (api_Scopes_53_f55.m1 K cap : S_grant_use × UInt8 → (List (S_grant_use × UInt8)) → Option (Lr Unit (List (S_grant_use × UInt8)))) m m fun q => (lrc q (fun a => none) (fun z => (fun m1 => some m1) z))

-- (*holdfast/grant.Store).DropUser
def grant_Store_DropUser (K : Nat) (s : S_grant_Store) (o3 : S_api_Owner) : Option (Int × S_grant_Store) :=
  (api_Scopes_53_f55 K s.consents o3).bind fun r_ => (some (W ((s.consents.length : Int) - (r_.length : Int)), (⟨s.clients, r_⟩ : S_grant_Store)))

-- (*holdfast/holdfastref13.Store).DropUser
def holdfastref13_Store_DropUser.l1 : Nat → S_holdfastref13_Store → S_api_Owner → (List S_api_Consent) → Int → Option (List S_api_Consent)
  | 0, _, _, _, _ => none
  | k + 1, s, o3, a1, i => if (decide (i < (s.a.length : Int))) = true then ((gt s.a i).bind fun e1 => (if (!decide (e1.Owner = o3)) = true then ((gt s.a i).bind fun e2 => ((some ([e2] : List S_api_Consent)).bind fun l1 => ((app 3769754152374 a1 l1).bind fun a9 => (holdfastref13_Store_DropUser.l1 k s o3 a9 (W (i + (1 : Int))))))) else (holdfastref13_Store_DropUser.l1 k s o3 a1 (W (i + (1 : Int)))))) else (some a1)
def holdfastref13_Store_DropUser (K : Nat) (s : S_holdfastref13_Store) (o3 : S_api_Owner) : Option (Int × S_holdfastref13_Store) :=
  (holdfastref13_Store_DropUser.l1 K s o3 ([] : List S_api_Consent) (0 : Int)).bind fun a2 => (some (W ((s.a.length : Int) - (a2.length : Int)), (⟨s.c_, a2⟩ : S_holdfastref13_Store)))

-- (*holdfast/holdfastref13.Store).May
def holdfastref13_Store_May (K : Nat) (s : S_holdfastref13_Store) (o3 : S_api_Owner) (client : List UInt8) (redirect : List UInt8) (scopes : UInt8) : Option Int :=
  (holdfastref13_Store_client K (⟨s.c_, s.a⟩ : S_holdfastref13_Store) o3.Tenant client).bind fun r_ => ((holdfastref13_Store_consent K (⟨s.c_, s.a⟩ : S_holdfastref13_Store) o3 client).bind fun r_1 => (if ((decide (r_ < (0 : Int))) || (decide (r_1 < (0 : Int)))) = true then (some (4 : Int)) else ((gt s.c_ r_).bind fun e1 => (if (!decide (e1.Redirect = redirect)) = true then (some (10 : Int)) else ((gt s.a r_1).bind fun e2 => (if (!decide (scopes &&& e2.Scopes = scopes)) = true then (some (14 : Int)) else (some (0 : Int))))))))

-- holdfast/holdfastlaw13.do
def holdfastlaw13_do (K : Nat) (s : S_grant_Store) (r_ : S_holdfastref13_Store) (x : S_holdfastlaw13_Deed) : Option (Bool × S_grant_Store × S_holdfastref13_Store) :=
  if (decide (x.Kind = (0 : Int))) = true then ((grant_Store_Register K (⟨s.clients, s.consents⟩ : S_grant_Store) (⟨x.Owner.Tenant, x.Client, x.Redirect, x.Scopes⟩ : S_api_Client)).bind fun r_1 => ((holdfastref13_Store_Register K (⟨r_.c_, r_.a⟩ : S_holdfastref13_Store) (⟨x.Owner.Tenant, x.Client, x.Redirect, x.Scopes⟩ : S_api_Client)).bind fun r_2 => (some (decide (r_1.1 = r_2.1), (⟨r_1.2.clients, r_1.2.consents⟩ : S_grant_Store), (⟨r_2.2.c_, r_2.2.a⟩ : S_holdfastref13_Store))))) else (if (decide (x.Kind = (1 : Int))) = true then ((grant_Store_Narrow K (⟨s.clients, s.consents⟩ : S_grant_Store) x.Owner.Tenant x.Client x.Scopes).bind fun r_3 => ((holdfastref13_Store_Narrow K (⟨r_.c_, r_.a⟩ : S_holdfastref13_Store) x.Owner.Tenant x.Client x.Scopes).bind fun r_4 => (some ((decide (r_3.1 = r_4.1)) && (decide (r_3.2.1 = r_4.2.1)), (⟨r_3.2.2.clients, r_3.2.2.consents⟩ : S_grant_Store), (⟨r_4.2.2.c_, r_4.2.2.a⟩ : S_holdfastref13_Store))))) else (if (decide (x.Kind = (2 : Int))) = true then ((grant_Store_Drop K (⟨s.clients, s.consents⟩ : S_grant_Store) x.Owner.Tenant x.Client).bind fun r_5 => ((holdfastref13_Store_Drop K (⟨r_.c_, r_.a⟩ : S_holdfastref13_Store) x.Owner.Tenant x.Client).bind fun r_6 => (some (decide (r_5.1 = r_6.1), (⟨r_5.2.clients, r_5.2.consents⟩ : S_grant_Store), (⟨r_6.2.c_, r_6.2.a⟩ : S_holdfastref13_Store))))) else (if (decide (x.Kind = (3 : Int))) = true then ((grant_Store_Allow K (⟨s.clients, s.consents⟩ : S_grant_Store) (⟨x.Owner, x.Client, x.Scopes⟩ : S_api_Consent)).bind fun r_7 => ((holdfastref13_Store_Allow K (⟨r_.c_, r_.a⟩ : S_holdfastref13_Store) (⟨x.Owner, x.Client, x.Scopes⟩ : S_api_Consent)).bind fun r_8 => (some (decide (r_7.1 = r_8.1), (⟨r_7.2.clients, r_7.2.consents⟩ : S_grant_Store), (⟨r_8.2.c_, r_8.2.a⟩ : S_holdfastref13_Store))))) else (if (decide (x.Kind = (4 : Int))) = true then ((grant_Store_Withdraw K (⟨s.clients, s.consents⟩ : S_grant_Store) x.Owner x.Client).bind fun r_9 => ((holdfastref13_Store_Withdraw K (⟨r_.c_, r_.a⟩ : S_holdfastref13_Store) x.Owner x.Client).bind fun r_10 => (some (decide (r_9.1 = r_10.1), (⟨r_9.2.clients, r_9.2.consents⟩ : S_grant_Store), (⟨r_10.2.c_, r_10.2.a⟩ : S_holdfastref13_Store))))) else (if (decide (x.Kind = (5 : Int))) = true then ((grant_Store_DropUser K (⟨s.clients, s.consents⟩ : S_grant_Store) x.Owner).bind fun r_11 => ((holdfastref13_Store_DropUser K (⟨r_.c_, r_.a⟩ : S_holdfastref13_Store) x.Owner).bind fun r_12 => (some (decide (r_11.1 = r_12.1), (⟨r_11.2.clients, r_11.2.consents⟩ : S_grant_Store), (⟨r_12.2.c_, r_12.2.a⟩ : S_holdfastref13_Store))))) else ((grant_Store_May K (⟨s.clients, s.consents⟩ : S_grant_Store) x.Owner x.Client x.Redirect x.Scopes).bind fun r_13 => ((holdfastref13_Store_May K (⟨r_.c_, r_.a⟩ : S_holdfastref13_Store) x.Owner x.Client x.Redirect x.Scopes).bind fun r_14 => (some (decide (r_13 = r_14), (⟨s.clients, s.consents⟩ : S_grant_Store), (⟨r_.c_, r_.a⟩ : S_holdfastref13_Store))))))))))

-- holdfast/holdfastref02.digit
def holdfastref02_digit (K : Nat) (n1 : Int) : Option UInt8 :=
  (gt ([48, 49, 50, 51, 52, 53, 54, 55, 56, 57, 97, 98, 99, 100, 101, 102] : List UInt8) n1).bind fun e => (some e)

-- holdfast/holdfastref02.Number
def holdfastref02_Number.l1 (K : Nat) : Nat → Int → (List UInt8) → Int → Option ((List UInt8) × Int)
  | 0, _, _, _ => none
  | k + 1, n2, s, k1 => if (decide ((0 : Int) < n2)) = true then ((holdfastref02_digit K (n2.tmod (16 : Int))).bind fun r_ => ((some ([r_] : List UInt8)).bind fun l1 => ((app 9223372036854775807 l1 s).bind fun t => (holdfastref02_Number.l1 K k (W (n2.tdiv (16 : Int))) t (W (k1 + (1 : Int))))))) else (some (s, k1))
def holdfastref02_Number (K : Nat) (n1 : Int) : Option ((List UInt8) × Int) :=
  if ((decide (n1 < (0 : Int))) || (decide ((4611686018427387904 : Int) < n1))) = true then (some (([] : List UInt8), (2 : Int))) else ((holdfastref02_Number.l1 K K n1 ([] : List UInt8) (0 : Int)).bind fun q => ((fun s1 k2 => (some ([iU8 (W ((97 : Int) + k2))] : List UInt8)).bind fun l2 => ((app 9223372036854775807 l2 s1).bind fun t1 => (some (t1, (0 : Int))))) q.1 q.2))

-- holdfast/holdfastref11.Num
def holdfastref11_Num (K : Nat) (n1 : Int) : Option (List UInt8) :=
  (holdfastref02_Number K n1).bind fun r_ => (some r_.1)

-- holdfast/holdfastref09.Sorted
def holdfastref09_Sorted.l2 : Nat → (List S_api_Row) → (List S_api_Row) → Int → Int → Option Int
  | 0, _, _, _, _ => none
  | k + 1, out, l, i1, at_ => if (decide ((0 : Int) < at_)) = true then ((gt out (W (at_ - (1 : Int)))).bind fun e1 => ((gt l i1).bind fun e2 => (if (!(ltS e1.Key e2.Key || decide (e1.Key = e2.Key))) = true then (holdfastref09_Sorted.l2 k out l i1 (W (at_ - (1 : Int)))) else (some at_)))) else (some at_)
def holdfastref09_Sorted.l1 (K : Nat) : Nat → (List S_api_Row) → (List S_api_Row) → Int → Option (List S_api_Row)
  | 0, _, _, _ => none
  | k + 1, l, out, i1 => if (decide (i1 < (l.length : Int))) = true then ((holdfastref09_Sorted.l2 K out l i1 (out.length : Int)).bind fun at_1 => ((sub out (0 : Int) at_1).bind fun zs => ((app 5277655813324 ([] : List S_api_Row) zs).bind fun xs => ((gt l i1).bind fun e3 => ((some ([(⟨e3.Key, e3.Columns⟩ : S_api_Row)] : List S_api_Row)).bind fun l2 => ((app 5277655813324 xs l2).bind fun xs1 => ((sub out at_1 (out.length : Int)).bind fun zs1 => ((app 5277655813324 xs1 zs1).bind fun xs2 => (holdfastref09_Sorted.l1 K k l xs2 (W (i1 + (1 : Int)))))))))))) else (some out)
def holdfastref09_Sorted (K : Nat) (l : List S_api_Row) : Option (List S_api_Row) :=
  (holdfastref09_Sorted.l1 K K l ([] : List S_api_Row) (0 : Int)).bind fun out1 => (some out1)

-- (*holdfast/holdfastref13.Store).Rows
def holdfastref13_Store_Rows.l1 (K : Nat) : Nat → S_holdfastref13_Store → (List S_api_Row) → Int → Option (List S_api_Row)
  | 0, _, _, _ => none
  | k + 1, s, out, i => if (decide (i < (s.c_.length : Int))) = true then ((gt s.c_ i).bind fun e1 => ((app 9223372036854775807 e1.Tenant ([47] : List UInt8)).bind fun t => ((app 9223372036854775807 t e1.Name).bind fun t1 => ((holdfastref11_Num K (e1.Scopes.toNat : Int)).bind fun r_ => ((some ([e1.Redirect, r_] : List (List UInt8))).bind fun l1 => ((some ([(⟨t1, l1⟩ : S_api_Row)] : List S_api_Row)).bind fun l2 => ((app 5277655813324 out l2).bind fun out2 => (holdfastref13_Store_Rows.l1 K k s out2 (W (i + (1 : Int))))))))))) else (some out)
def holdfastref13_Store_Rows.l2 (K : Nat) : Nat → S_holdfastref13_Store → (List S_api_Row) → Int → Option (List S_api_Row)
  | 0, _, _, _ => none
  | k + 1, s, out3, i1 => if (decide (i1 < (s.a.length : Int))) = true then ((gt s.a i1).bind fun e2 => ((app 9223372036854775807 e2.Owner.Tenant ([47] : List UInt8)).bind fun t2 => ((app 9223372036854775807 t2 e2.Owner.User).bind fun t3 => ((app 9223372036854775807 t3 ([47] : List UInt8)).bind fun t4 => ((app 9223372036854775807 t4 e2.Client).bind fun t5 => ((holdfastref11_Num K (e2.Scopes.toNat : Int)).bind fun r_1 => ((some ([r_1] : List (List UInt8))).bind fun l4 => ((some ([(⟨t5, l4⟩ : S_api_Row)] : List S_api_Row)).bind fun l5 => ((app 5277655813324 out3 l5).bind fun out5 => (holdfastref13_Store_Rows.l2 K k s out5 (W (i1 + (1 : Int))))))))))))) else (some out3)
def holdfastref13_Store_Rows (K : Nat) (s : S_holdfastref13_Store) : Option (List S_api_Row) :=
  (holdfastref13_Store_Rows.l1 K K s ([] : List S_api_Row) (0 : Int)).bind fun out1 => ((holdfastref13_Store_Rows.l2 K K s out1 (0 : Int)).bind fun out4 => ((holdfastref09_Sorted K out4).bind fun r_2 => (some r_2)))

-- holdfast/holdfastlaw13.GrantLoads
def holdfastlaw13_GrantLoads.l1 (K : Nat) : Nat → (List S_holdfastlaw13_Deed) → (List (S_grant_name × S_api_Client)) → (List (S_grant_use × UInt8)) → (List S_api_Client) → (List S_api_Consent) → Int → Option (Lr Bool ((List (S_grant_name × S_api_Client)) × (List (S_grant_use × UInt8)) × (List S_api_Client) × (List S_api_Consent)))
  | 0, _, _, _, _, _, _ => none
  | k + 1, l, x3, x4, x5, x6, i2 => if ((decide (i2 < (l.length : Int))) && (decide (i2 < (40 : Int)))) = true then ((gt l i2).bind fun e1 => ((holdfastlaw13_do K (⟨x3, x4⟩ : S_grant_Store) (⟨x5, x6⟩ : S_holdfastref13_Store) e1).bind fun r_9 => (if (!r_9.1) = true then (some (.ret false)) else (holdfastlaw13_GrantLoads.l1 K k l r_9.2.1.clients r_9.2.1.consents r_9.2.2.c_ r_9.2.2.a (W (i2 + (1 : Int))))))) else (some (.go (x3, x4, x5, x6)))
def holdfastlaw13_GrantLoads (K : Nat) (rows : List S_api_Row) (l : List S_holdfastlaw13_Deed) : Option Bool :=
  (grant_Load K rows).bind fun r_ => ((r_.1).elim ((holdfastref13_Load K rows).bind fun r_1 => ((r_1.1).elim ((holdfastlaw13_live K).bind fun r_2 => (if (((!r_2) || (!decide (r_.2 = r_1.2))) || (!decide (true = true))) = true then (some false) else (some true))) (fun x1 => (holdfastlaw13_live K).bind fun r_3 => (some false)))) (fun x => (holdfastref13_Load K rows).bind fun r_4 => ((r_4.1).elim ((holdfastlaw13_live K).bind fun r_5 => (some false)) (fun x2 => (holdfastlaw13_live K).bind fun r_6 => (if (((!r_6) || (!decide (r_.2 = r_4.2))) || (!decide (false = false))) = true then (some false) else ((grant_Store_Rows K (⟨x.clients, x.consents⟩ : S_grant_Store)).bind fun r_7 => ((holdfastref06_SameRows K r_7 rows).bind fun r_8 => (if (!r_8) = true then (some false) else ((holdfastlaw13_GrantLoads.l1 K K l x.clients x.consents x2.c_ x2.a (0 : Int)).bind fun q => (lrc q (fun a => some a) (fun z => (fun x7 x8 x9 x10 => (grant_Store_Rows K (⟨x7, x8⟩ : S_grant_Store)).bind fun r_10 => ((holdfastref13_Store_Rows K (⟨x9, x10⟩ : S_holdfastref13_Store)).bind fun r_11 => ((holdfastref06_SameRows K r_10 r_11).bind fun r_12 => (some r_12)))) z.1 z.2.1 z.2.2.1 z.2.2.2)))))))))))
end
end Go.Proofs.YtjgbakieogadfaaGreatDoor
