import Derived.Test.YtjgbakieogadfaaGreatDoorLib22
import Derived.Ground.NamesProg
import Derived.Ground.SlsfProg
import Derived.Shelf.SlGeneric
import Derived.Shelf.SlSortCmp.NoneTotal
import Derived.Shelf.Strings.SlTrimAscii
namespace Go.Proofs.YtjgbakieogadfaaGreatDoor
open Go L
set_option linter.unusedVariables false
structure S_api_Owner where
  Tenant : List UInt8
  User : List UInt8
  deriving DecidableEq, Inhabited
structure S_api_Client where
  Tenant : List UInt8
  Name : List UInt8
  Redirect : List UInt8
  Scopes : UInt8
  deriving DecidableEq, Inhabited
structure S_api_Consent where
  Owner : S_api_Owner
  Client : List UInt8
  Scopes : UInt8
  deriving DecidableEq, Inhabited
structure S_grant_name where
  tenant : List UInt8
  name : List UInt8
  deriving DecidableEq, Inhabited
structure S_grant_use where
  Owner : S_api_Owner
  client : List UInt8
  deriving DecidableEq, Inhabited
structure S_grant_Store where
  clients : List (S_grant_name × S_api_Client)
  consents : List (S_grant_use × UInt8)
  deriving Inhabited
noncomputable section

-- (*holdfast/grant.Store).look
def grant_Store_look_nil0 (K : Nat) (tenant : List UInt8) (client : List UInt8) : Option (S_api_Client × Int) :=
  some ((⟨([] : List UInt8), ([] : List UInt8), ([] : List UInt8), (0 : UInt8)⟩ : S_api_Client), (1 : Int))

-- (*holdfast/grant.Store).Narrow
def grant_Store_Narrow_nil0 (K : Nat) (tenant : List UInt8) (client : List UInt8) (scopes : UInt8) : Option (UInt8 × Int) :=
  (grant_Store_look_nil0 K tenant client).bind fun r_ => (if (!decide (r_.2 = (0 : Int))) = true then (some ((0 : UInt8), r_.2)) else (none))

-- (*holdfast/grant.Store).Client
def grant_Store_Client_nil0 (K : Nat) (tenant : List UInt8) (client : List UInt8) : Option (S_api_Client × Int) :=
  (grant_Store_look_nil0 K tenant client).bind fun r_ => (some (r_.1, r_.2))

-- (*holdfast/grant.Store).Consent
def grant_Store_Consent_nil0 (K : Nat) (o : S_api_Owner) (client : List UInt8) : Option (S_api_Consent × Int) :=
  some ((⟨(⟨([] : List UInt8), ([] : List UInt8)⟩ : S_api_Owner), ([] : List UInt8), (0 : UInt8)⟩ : S_api_Consent), (1 : Int))

-- holdfast/grant.New
def grant_New (K : Nat) : Option S_grant_Store :=
  some (⟨([] : List (S_grant_name × S_api_Client)), ([] : List (S_grant_use × UInt8))⟩ : S_grant_Store)

-- strings.Trim
def strings_Trim (K : Nat) (s cut : List UInt8) : Option (List UInt8) := if (cut.all fun b => decide (b.toNat < 128)) = true ∧ s.length ≤ 9223372036854775807 ∧ cut.length < 4294967281 then some (Go.Lib.trimS s cut) else none

-- holdfast/codec.IsName
def codec_IsName (K : Nat) (s : List UInt8) : Option Bool :=
  (if ((!decide (s = ([] : List UInt8))) && (decide ((s.length : Int) ≤ (9 : Int)))) = true then ((strings_Trim K s ([97, 98, 99, 100, 101, 102, 103, 104, 105, 106, 107, 108, 109, 110, 111, 112, 113, 114, 115, 116, 117, 118, 119, 120, 121, 122, 48, 49, 50, 51, 52, 53, 54, 55, 56, 57, 45] : List UInt8)).bind fun r_ => (some (decide (r_ = ([] : List UInt8))))) else some false).bind fun b => (some b)

-- (*holdfast/grant.Store).full
def grant_Store_full.m1 (K : Nat) (x : S_grant_name × S_api_Client) (s : (List ((List UInt8) × Int))) : Option (Lr Unit (List ((List UInt8) × Int))) :=
  (fun k1 u of_ => (some (mset of_ k1.tenant (W (((mget of_ k1.tenant).getD (0 : Int)) + (1 : Int))))).bind fun m => (some (.go m))) x.1 x.2 s
def grant_Store_full (K : Nat) (s : S_grant_Store) (tenant : List UInt8) : Option Bool :=
  mrngK (grant_Store_full.m1 K : S_grant_name × S_api_Client → (List ((List UInt8) × Int)) → Option (Lr Unit (List ((List UInt8) × Int)))) s.clients ([] : List ((List UInt8) × Int)) fun q => (lrc q (fun a => none) (fun z => (fun of_ => some ((decide ((4 : Int) ≤ ((mget of_ tenant).getD (0 : Int)))) || ((decide (((mget of_ tenant).getD (0 : Int)) = (0 : Int))) && (decide ((4 : Int) ≤ (of_.length : Int)))))) z))

-- (*holdfast/grant.Store).Register
def grant_Store_Register (K : Nat) (s : S_grant_Store) (c_ : S_api_Client) : Option (Int × S_grant_Store) :=
  (codec_IsName K c_.Tenant).bind fun r_ => ((if (!r_) = true then some true else ((codec_IsName K c_.Name).bind fun r_1 => (some (!r_1)))).bind fun b2 => (if b2 = true then (some ((8 : Int), (⟨s.clients, s.consents⟩ : S_grant_Store))) else (if (decide ((24 : Int) < (c_.Redirect.length : Int))) = true then (some ((6 : Int), (⟨s.clients, s.consents⟩ : S_grant_Store))) else (if ((mget s.clients (⟨c_.Tenant, c_.Name⟩ : S_grant_name)).isSome) = true then (some ((5 : Int), (⟨s.clients, s.consents⟩ : S_grant_Store))) else ((grant_Store_full K (⟨s.clients, s.consents⟩ : S_grant_Store) c_.Tenant).bind fun r_2 => (if r_2 = true then (some ((24 : Int), (⟨s.clients, s.consents⟩ : S_grant_Store))) else ((some (mset s.clients (⟨c_.Tenant, c_.Name⟩ : S_grant_name) c_)).bind fun m => (some ((0 : Int), (⟨m, s.consents⟩ : S_grant_Store))))))))))

-- (*holdfast/grant.Store).look
def grant_Store_look (K : Nat) (s : S_grant_Store) (tenant : List UInt8) (client : List UInt8) : Option (S_api_Client × Int) :=
  if (!((mget s.clients (⟨tenant, client⟩ : S_grant_name)).isSome)) = true then (some ((⟨([] : List UInt8), ([] : List UInt8), ([] : List UInt8), (0 : UInt8)⟩ : S_api_Client), (4 : Int))) else (some (((mget s.clients (⟨tenant, client⟩ : S_grant_name)).getD (⟨([] : List UInt8), ([] : List UInt8), ([] : List UInt8), (0 : UInt8)⟩ : S_api_Client)), (0 : Int)))

-- slices.SortFunc[[]holdfast/api.Consent,holdfast/api.Consent]
def api_Consent_58_f59 (K : Nat) (x : List S_api_Consent) : Option (List S_api_Consent) := if x.length < 4611686018427387904 then some (sortS (fun (a b : S_api_Consent) => cmpS a.Client b.Client) x) else none

-- (*holdfast/grant.Store).Consents
def grant_Store_Consents.m1 (K : Nat) (o3 : S_api_Owner) (x : S_grant_use × UInt8) (s : (List S_api_Consent)) : Option (Lr Unit (List S_api_Consent)) :=
  (fun k1 u out => if (decide (k1.Owner = o3)) = true then ((some ([(⟨o3, k1.client, u⟩ : S_api_Consent)] : List S_api_Consent)).bind fun l2 => ((app 2513169434916 out l2).bind fun out1 => (some (.go out1)))) else (some (.go out))) x.1 x.2 s
def grant_Store_Consents (K : Nat) (s : S_grant_Store) (o3 : S_api_Owner) : Option (List S_api_Consent) :=
  mrngK (grant_Store_Consents.m1 K o3 : S_grant_use × UInt8 → (List S_api_Consent) → Option (Lr Unit (List S_api_Consent))) s.consents ([] : List S_api_Consent) fun q => (lrc q (fun a => none) (fun z => (fun out => (api_Consent_58_f59 K out).bind fun r_ => (some r_)) z))

-- (*holdfast/grant.Store).Allow
def grant_Store_Allow (K : Nat) (s : S_grant_Store) (c_ : S_api_Consent) : Option (Int × S_grant_Store) :=
  (codec_IsName K c_.Owner.Tenant).bind fun r_ => ((if (!r_) = true then some true else ((codec_IsName K c_.Owner.User).bind fun r_1 => (some (!r_1)))).bind fun b2 => (if b2 = true then (some ((8 : Int), (⟨s.clients, s.consents⟩ : S_grant_Store))) else ((grant_Store_look K (⟨s.clients, s.consents⟩ : S_grant_Store) c_.Owner.Tenant c_.Client).bind fun r_2 => (if (!decide (r_2.2 = (0 : Int))) = true then (some (r_2.2, (⟨s.clients, s.consents⟩ : S_grant_Store))) else (if (!decide (c_.Scopes &&& ~~~r_2.1.Scopes = (0 : UInt8))) = true then (some ((14 : Int), (⟨s.clients, s.consents⟩ : S_grant_Store))) else ((if (!((mget s.consents (⟨c_.Owner, c_.Client⟩ : S_grant_use)).isSome)) = true then ((grant_Store_Consents K (⟨s.clients, s.consents⟩ : S_grant_Store) c_.Owner).bind fun r_3 => (some (decide ((4 : Int) ≤ (r_3.length : Int))))) else some false).bind fun b3 => (if b3 = true then (some ((25 : Int), (⟨s.clients, s.consents⟩ : S_grant_Store))) else ((some (mset s.consents (⟨c_.Owner, c_.Client⟩ : S_grant_use) c_.Scopes)).bind fun m => (some ((0 : Int), (⟨s.clients, m⟩ : S_grant_Store)))))))))))

-- (*holdfast/grant.Store).Consent
def grant_Store_Consent (K : Nat) (s : S_grant_Store) (o3 : S_api_Owner) (client : List UInt8) : Option (S_api_Consent × Int) :=
  if (!((mget s.consents (⟨o3, client⟩ : S_grant_use)).isSome)) = true then (some ((⟨(⟨([] : List UInt8), ([] : List UInt8)⟩ : S_api_Owner), ([] : List UInt8), (0 : UInt8)⟩ : S_api_Consent), (4 : Int))) else (some ((⟨o3, client, ((mget s.consents (⟨o3, client⟩ : S_grant_use)).getD (0 : UInt8))⟩ : S_api_Consent), (0 : Int)))

-- (*holdfast/grant.Store).May
def grant_Store_May (K : Nat) (s : S_grant_Store) (o3 : S_api_Owner) (client : List UInt8) (redirect : List UInt8) (scopes : UInt8) : Option Int :=
  (grant_Store_look K (⟨s.clients, s.consents⟩ : S_grant_Store) o3.Tenant client).bind fun r_ => (if (!decide (r_.2 = (0 : Int))) = true then (some r_.2) else ((grant_Store_Consent K (⟨s.clients, s.consents⟩ : S_grant_Store) o3 client).bind fun r_1 => (if (!decide (r_1.2 = (0 : Int))) = true then (some r_1.2) else (if (!decide (r_.1.Redirect = redirect)) = true then (some (10 : Int)) else (if (!decide (scopes &&& ~~~r_1.1.Scopes = (0 : UInt8))) = true then (some (14 : Int)) else (some (0 : Int)))))))

-- (*holdfast/grant.Store).Narrow
def grant_Store_Narrow.m1 (K : Nat) (tenant : List UInt8) (client : List UInt8) (scopes : UInt8) (x : S_grant_use × UInt8) (s : (List (S_grant_use × UInt8))) : Option (Lr Unit (List (S_grant_use × UInt8))) :=
  (fun k1 u x => if ((decide (k1.Owner.Tenant = tenant)) && (decide (k1.client = client))) = true then ((req ((mget x k1).isSome = true)).bind fun u1 => ((some (mset x k1 (u &&& scopes))).bind fun m1 => (some (.go m1)))) else (some (.go x))) x.1 x.2 s
def grant_Store_Narrow (K : Nat) (s : S_grant_Store) (tenant : List UInt8) (client : List UInt8) (scopes : UInt8) : Option (UInt8 × Int × S_grant_Store) :=
  (grant_Store_look K (⟨s.clients, s.consents⟩ : S_grant_Store) tenant client).bind fun r_ => (if (!decide (r_.2 = (0 : Int))) = true then (some ((0 : UInt8), r_.2, (⟨s.clients, s.consents⟩ : S_grant_Store))) else ((some (mset s.clients (⟨tenant, client⟩ : S_grant_name) (⟨r_.1.Tenant, r_.1.Name, r_.1.Redirect, r_.1.Scopes &&& scopes⟩ : S_api_Client))).bind fun m => (mrngK (grant_Store_Narrow.m1 K tenant client scopes : S_grant_use × UInt8 → (List (S_grant_use × UInt8)) → Option (Lr Unit (List (S_grant_use × UInt8)))) s.consents s.consents fun q => (lrc q (fun a => none) (fun z => (fun x => some (r_.1.Scopes &&& scopes, (0 : Int), (⟨m, x⟩ : S_grant_Store))) z)))))

-- holdfast/holdfastlaw13.live
def holdfastlaw13_live (K : Nat) : Option Bool :=
  (grant_New K).bind fun r_ => ((grant_Store_Register K (⟨r_.clients, r_.consents⟩ : S_grant_Store) (⟨([116] : List UInt8), ([99] : List UInt8), ([114] : List UInt8), (3 : UInt8)⟩ : S_api_Client)).bind fun r_1 => ((grant_Store_Allow K (⟨r_1.2.clients, r_1.2.consents⟩ : S_grant_Store) (⟨(⟨([116] : List UInt8), ([117] : List UInt8)⟩ : S_api_Owner), ([99] : List UInt8), (1 : UInt8)⟩ : S_api_Consent)).bind fun r_2 => ((grant_Store_May K (⟨r_2.2.clients, r_2.2.consents⟩ : S_grant_Store) (⟨([116] : List UInt8), ([117] : List UInt8)⟩ : S_api_Owner) ([99] : List UInt8) ([114] : List UInt8) (1 : UInt8)).bind fun r_3 => ((grant_Store_Narrow K (⟨r_2.2.clients, r_2.2.consents⟩ : S_grant_Store) ([116] : List UInt8) ([99] : List UInt8) (2 : UInt8)).bind fun r_4 => ((if (((((decide (r_1.1 = (0 : Int))) && (decide (r_2.1 = (0 : Int)))) && (decide (r_3 = (0 : Int)))) && (decide (r_4.1 = (2 : UInt8)))) && (decide (r_4.2.1 = (0 : Int)))) = true then ((grant_Store_May K (⟨r_4.2.2.clients, r_4.2.2.consents⟩ : S_grant_Store) (⟨([116] : List UInt8), ([117] : List UInt8)⟩ : S_api_Owner) ([99] : List UInt8) ([114] : List UInt8) (1 : UInt8)).bind fun r_5 => (some (decide (r_5 = (14 : Int))))) else some false).bind fun b8 => (some b8))))))

-- (*holdfast/grant.Store).Register
def grant_Store_Register_nil0 (K : Nat) (c_ : S_api_Client) : Option Int :=
  some (1 : Int)

-- (*holdfast/grant.Store).Drop
def grant_Store_Drop_nil0.j1 (K : Nat) (r_ : S_api_Client × Int) : Option Int :=
  some r_.2
def grant_Store_Drop_nil0 (K : Nat) (tenant : List UInt8) (client : List UInt8) : Option Int :=
  (grant_Store_look_nil0 K tenant client).bind fun r_ => (if (decide (r_.2 = (0 : Int))) = true then (none) else (grant_Store_Drop_nil0.j1 K r_))

-- (*holdfast/grant.Store).Allow
def grant_Store_Allow_nil0 (K : Nat) (c_ : S_api_Consent) : Option Int :=
  some (1 : Int)

-- (*holdfast/grant.Store).Withdraw
def grant_Store_Withdraw_nil0.j1 (K : Nat) (r_ : S_api_Consent × Int) : Option Int :=
  some r_.2
def grant_Store_Withdraw_nil0 (K : Nat) (o : S_api_Owner) (client : List UInt8) : Option Int :=
  (grant_Store_Consent_nil0 K o client).bind fun r_ => (if (decide (r_.2 = (0 : Int))) = true then (none) else (grant_Store_Withdraw_nil0.j1 K r_))

-- (*holdfast/grant.Store).DropUser
def grant_Store_DropUser_nil0 (K : Nat) (o : S_api_Owner) : Option Int :=
  some (0 : Int)

-- (*holdfast/grant.Store).May
def grant_Store_May_nil0 (K : Nat) (o : S_api_Owner) (client : List UInt8) (redirect : List UInt8) (scopes : UInt8) : Option Int :=
  (grant_Store_look_nil0 K o.Tenant client).bind fun r_ => (if (!decide (r_.2 = (0 : Int))) = true then (some r_.2) else ((grant_Store_Consent_nil0 K o client).bind fun r_1 => (if (!decide (r_1.2 = (0 : Int))) = true then (some r_1.2) else (if (!decide (r_.1.Redirect = redirect)) = true then (some (10 : Int)) else (if (!decide (scopes &&& ~~~r_1.1.Scopes = (0 : UInt8))) = true then (some (14 : Int)) else (some (0 : Int)))))))

-- (*holdfast/grant.Store).Clients
def grant_Store_Clients_nil0 (K : Nat) (tenant : List UInt8) : Option (List S_api_Client) :=
  some ([] : List S_api_Client)

-- (*holdfast/grant.Store).Consents
def grant_Store_Consents_nil0 (K : Nat) (o : S_api_Owner) : Option (List S_api_Consent) :=
  some ([] : List S_api_Consent)

-- (*holdfast/grant.Store).Rows
def grant_Store_Rows_nil0 (K : Nat) : Option Unit :=
  some ()

-- (*holdfast/grant.Store).Fork
def grant_Store_Fork_nil0 (K : Nat) : Option Unit :=
  some ()

-- holdfast/holdfastlaw13.GrantNone
def holdfastlaw13_GrantNone (K : Nat) (o : S_api_Owner) (c_ : List UInt8) : Option Bool :=
  (grant_Store_Narrow_nil0 K c_ c_ (1 : UInt8)).bind fun r_ => ((grant_Store_Client_nil0 K c_ c_).bind fun r_1 => ((grant_Store_Consent_nil0 K o c_).bind fun r_2 => ((holdfastlaw13_live K).bind fun r_3 => ((if (((r_3 && (decide (r_.2 = (1 : Int)))) && (decide (r_1.2 = (1 : Int)))) && (decide (r_2.2 = (1 : Int)))) = true then ((grant_Store_Register_nil0 K (⟨([] : List UInt8), ([] : List UInt8), ([] : List UInt8), (0 : UInt8)⟩ : S_api_Client)).bind fun r_4 => (some (decide (r_4 = (1 : Int))))) else some false).bind fun b => ((if b = true then ((grant_Store_Drop_nil0 K c_ c_).bind fun r_5 => (some (decide (r_5 = (1 : Int))))) else some false).bind fun b1 => ((if b1 = true then ((grant_Store_Allow_nil0 K (⟨(⟨([] : List UInt8), ([] : List UInt8)⟩ : S_api_Owner), ([] : List UInt8), (0 : UInt8)⟩ : S_api_Consent)).bind fun r_6 => (some (decide (r_6 = (1 : Int))))) else some false).bind fun b2 => ((if b2 = true then ((grant_Store_Withdraw_nil0 K o c_).bind fun r_7 => (some (decide (r_7 = (1 : Int))))) else some false).bind fun b3 => ((if b3 = true then ((grant_Store_DropUser_nil0 K o).bind fun r_8 => (some (decide (r_8 = (0 : Int))))) else some false).bind fun b4 => ((if b4 = true then ((grant_Store_May_nil0 K o c_ c_ (1 : UInt8)).bind fun r_9 => (some (decide (r_9 = (1 : Int))))) else some false).bind fun b5 => ((if b5 = true then ((grant_Store_Clients_nil0 K c_).bind fun r_10 => (some (decide ((r_10.length : Int) = (0 : Int))))) else some false).bind fun b6 => ((if b6 = true then ((grant_Store_Consents_nil0 K o).bind fun r_11 => (some (decide ((r_11.length : Int) = (0 : Int))))) else some false).bind fun b7 => ((if b7 = true then ((grant_Store_Rows_nil0 K).bind fun r_12 => (some (decide ((0 : Int) = (0 : Int))))) else some false).bind fun b8 => ((if b8 = true then ((grant_Store_Fork_nil0 K).bind fun r_13 => (some true)) else some false).bind fun b9 => (some b9))))))))))))))

-- (*holdfast/grant.Store).Client
def grant_Store_Client (K : Nat) (s : S_grant_Store) (tenant : List UInt8) (client : List UInt8) : Option (S_api_Client × Int) :=
  (grant_Store_look K (⟨s.clients, s.consents⟩ : S_grant_Store) tenant client).bind fun r_ => (some (r_.1, r_.2))

-- (*holdfast/grant.Store).Drop$1
def grant_Store_Drop_1 (K : Nat) (u : S_grant_use) (x_ : UInt8) (x2 : List UInt8) (x3 : List UInt8) : Option Bool :=
  some ((decide (u.Owner.Tenant = x2)) && (decide (u.client = x3)))

-- maps.DeleteFunc[map[holdfast/grant.use]holdfast/api.Scopes,holdfast/grant.use,holdfast/api.Scopes]
def api_Scopes_53_f54.m1 (K : Nat) (cap : List UInt8) (cap1 : List UInt8) (x : S_grant_use × UInt8) (s : (List (S_grant_use × UInt8))) : Option (Lr Unit (List (S_grant_use × UInt8))) :=
  (fun k1 u m1 => (grant_Store_Drop_1 K k1 u cap cap1).bind fun r_ => (if r_ = true then ((some (mdel m1 k1)).bind fun m2 => (some (.go m2))) else (some (.go m1)))) x.1 x.2 s
def api_Scopes_53_f54 (K : Nat) (m : List (S_grant_use × UInt8)) (cap : List UInt8) (cap1 : List UInt8) : Option (List (S_grant_use × UInt8)) :=
  mrngK (api_Scopes_53_f54.m1 K cap cap1 : S_grant_use × UInt8 → (List (S_grant_use × UInt8)) → Option (Lr Unit (List (S_grant_use × UInt8)))) m m fun q => (lrc q (fun a => none) (fun z => (fun m1 => some m1) z))

-- (*holdfast/grant.Store).Drop
def grant_Store_Drop.j1 (K : Nat) (r_ : S_api_Client × Int) (x : List (S_grant_name × S_api_Client)) (x1 : List (S_grant_use × UInt8)) : Option (Int × S_grant_Store) :=
  some (r_.2, (⟨x, x1⟩ : S_grant_Store))
def grant_Store_Drop (K : Nat) (s : S_grant_Store) (tenant : List UInt8) (client : List UInt8) : Option (Int × S_grant_Store) :=
  (grant_Store_look K (⟨s.clients, s.consents⟩ : S_grant_Store) tenant client).bind fun r_ => (if (decide (r_.2 = (0 : Int))) = true then ((some (mdel s.clients (⟨tenant, client⟩ : S_grant_name))).bind fun m => ((api_Scopes_53_f54 K s.consents tenant client).bind fun r_1 => (grant_Store_Drop.j1 K r_ m r_1))) else (grant_Store_Drop.j1 K r_ s.clients s.consents))

-- (*holdfast/grant.Store).Withdraw
def grant_Store_Withdraw.j1 (K : Nat) (r_ : S_api_Consent × Int) (s : S_grant_Store) (x : List (S_grant_use × UInt8)) : Option (Int × S_grant_Store) :=
  some (r_.2, (⟨s.clients, x⟩ : S_grant_Store))
def grant_Store_Withdraw (K : Nat) (s : S_grant_Store) (o3 : S_api_Owner) (client : List UInt8) : Option (Int × S_grant_Store) :=
  (grant_Store_Consent K (⟨s.clients, s.consents⟩ : S_grant_Store) o3 client).bind fun r_ => (if (decide (r_.2 = (0 : Int))) = true then ((some (mdel s.consents (⟨o3, client⟩ : S_grant_use))).bind fun m => (grant_Store_Withdraw.j1 K r_ s m)) else (grant_Store_Withdraw.j1 K r_ s s.consents))

-- (*holdfast/grant.Store).DropUser$1
def grant_Store_DropUser_1 (K : Nat) (u : S_grant_use) (x_ : UInt8) (x2 : S_api_Owner) : Option Bool :=
  some (decide (u.Owner = x2))

-- maps.DeleteFunc[map[holdfast/grant.use]holdfast/api.Scopes,holdfast/grant.use,holdfast/api.Scopes]
def api_Scopes_53_f55.m1 (K : Nat) (cap : S_api_Owner) (x : S_grant_use × UInt8) (s : (List (S_grant_use × UInt8))) : Option (Lr Unit (List (S_grant_use × UInt8))) :=
  (fun k1 u m1 => (grant_Store_DropUser_1 K k1 u cap).bind fun r_ => (if r_ = true then ((some (mdel m1 k1)).bind fun m2 => (some (.go m2))) else (some (.go m1)))) x.1 x.2 s
def api_Scopes_53_f55 (K : Nat) (m : List (S_grant_use × UInt8)) (cap : S_api_Owner) : Option (List (S_grant_use × UInt8)) :=
  mrngK (api_Scopes_53_f55.m1 K cap : S_grant_use × UInt8 → (List (S_grant_use × UInt8)) → Option (Lr Unit (List (S_grant_use × UInt8)))) m m fun q => (lrc q (fun a => none) (fun z => (fun m1 => some m1) z))

-- (*holdfast/grant.Store).DropUser
def grant_Store_DropUser (K : Nat) (s : S_grant_Store) (o3 : S_api_Owner) : Option (Int × S_grant_Store) :=
  (api_Scopes_53_f55 K s.consents o3).bind fun r_ => (some (W ((s.consents.length : Int) - (r_.length : Int)), (⟨s.clients, r_⟩ : S_grant_Store)))

-- slices.SortFunc[[]holdfast/api.Client,holdfast/api.Client]
def api_Client_56_f57 (K : Nat) (x : List S_api_Client) : Option (List S_api_Client) := if x.length < 4611686018427387904 then some (sortS (fun (a b : S_api_Client) => cmpS a.Name b.Name) x) else none

-- (*holdfast/grant.Store).Clients
def grant_Store_Clients.m1 (K : Nat) (tenant : List UInt8) (x : S_grant_name × S_api_Client) (s : (List S_api_Client)) : Option (Lr Unit (List S_api_Client)) :=
  (fun k1 u out => if (decide (k1.tenant = tenant)) = true then ((some ([u] : List S_api_Client)).bind fun l2 => ((app 2513169434916 out l2).bind fun out1 => (some (.go out1)))) else (some (.go out))) x.1 x.2 s
def grant_Store_Clients (K : Nat) (s : S_grant_Store) (tenant : List UInt8) : Option (List S_api_Client) :=
  mrngK (grant_Store_Clients.m1 K tenant : S_grant_name × S_api_Client → (List S_api_Client) → Option (Lr Unit (List S_api_Client))) s.clients ([] : List S_api_Client) fun q => (lrc q (fun a => none) (fun z => (fun out => (api_Client_56_f57 K out).bind fun r_ => (some r_)) z))
end
end Go.Proofs.YtjgbakieogadfaaGreatDoor
