import Derived.Test.YtjgbakieogadfabGreatDoorLib29
import Derived.Ground.NamesProg
import Derived.Ground.SlsfProg
import Derived.Shelf.SlGeneric
import Derived.Shelf.SlSortCmp.NoneTotal
import Derived.Shelf.Strings.Count
import Derived.Shelf.Strings.Search1
import Derived.Shelf.Strings.SlTrimAscii
namespace Go.Proofs.YtjgbakieogadfabGreatDoor
open Go L
set_option linter.unusedVariables false
structure S_hl09_Deed where
  Kind:Int
  Tenant:List UInt8
  Purpose:List UInt8
  Bytes:List UInt8
  N_:Int
  Last:Bool
  deriving Inhabited
structure S_keys_purpose where
  tenant:List UInt8
  name:List UInt8
  deriving DecidableEq, Inhabited
structure S_keys_Tree where
  root:List UInt8
  sealed:Int
  gone:List ((List UInt8)×Bool)
  at_:List (S_keys_purpose×Int)
  deriving Inhabited
structure S_hr09_version where
  tenant:List UInt8
  purpose:List UInt8
  n:Int
  deriving DecidableEq, Inhabited
structure S_hr09_Tree where
  root:List UInt8
  sealed:Int
  gone:List (List UInt8)
  l:List S_hr09_version
  deriving Inhabited
structure S_api_Row where
  Key:List UInt8
  Columns:List (List UInt8)
  deriving Inhabited
def tab0:List UInt64:=[1,10,100,1000,10000,100000,1000000,10000000,100000000,1000000000,10000000000,100000000000,1000000000000,10000000000000,100000000000000,1000000000000000,10000000000000000,100000000000000000,1000000000000000000,10000000000000000000]
def tab7:List UInt8:=[0,1,56,2,57,49,28,3,61,58,42,50,38,29,17,4,62,47,59,36,45,43,51,22,53,39,33,30,24,18,12,5,63,55,48,27,60,41,37,16,46,35,44,21,52,32,23,11,54,26,40,15,34,20,31,10,25,14,19,9,13,8,7,6]
noncomputable section
def keys_New (K:Nat) (root:List UInt8):Option S_keys_Tree :=
  some (⟨root,(0:Int),([]:List ((List UInt8)×Bool)),([]:List (S_keys_purpose×Int))⟩:S_keys_Tree)
def strings_Trim (K:Nat) (s cut:List UInt8):Option (List UInt8):=if (cut.all fun b=>decide (b.toNat<128)) = true∧s.length≤9223372036854775807∧cut.length<4294967281 then some (Go.Lib.trimS s cut) else none
def codec_IsName (K:Nat) (s:List UInt8):Option Bool :=
  (if ((!decide (s = ([]:List UInt8)))&&(decide ((s.length:Int)≤(9:Int)))) = true then ((strings_Trim K s ([97,98,99,100,101,102,103,104,105,106,107,108,109,110,111,112,113,114,115,116,117,118,119,120,121,122,48,49,50,51,52,53,54,55,56,57,45]:List UInt8)).bind fun r_=>(some (decide (r_ = ([]:List UInt8))))) else some false).bind fun b=>(some b)
def stringslite_HasPrefix (K:Nat) (s:List UInt8) (prefix_:List UInt8):Option Bool :=
  (if (decide ((prefix_.length:Int)≤(s.length:Int))) = true then ((sub s (0:Int) (prefix_.length:Int)).bind fun t1=>(some (decide (t1 = prefix_)))) else some false).bind fun b=>(some b)
def strings_HasPrefix (K:Nat) (s:List UInt8) (prefix_:List UInt8):Option Bool :=
  (stringslite_HasPrefix K s prefix_).bind fun r_=>(some r_)
def strconv_lower (K:Nat) (c_:UInt8):Option UInt8 :=
  some (c_ ||| (32:UInt8))
def strconv_underscoreOK (K:Nat) (_s:List UInt8):Option Bool:=none
def strconv_ParseUint_121.j4 (K:Nat) (lk1:Bool→UInt64→Int→Option (Lr (UInt64×Unit) (Bool×UInt64))) (base1:Int) (cutoff:UInt64) (n1:UInt64) (bitSize1:Int) (underscores:Bool) (x101:Int) (d4:UInt8):Option (Lr (UInt64×Unit) (Bool×UInt64)) :=
  if (decide (iU8 base1≤d4)) = true then (none) else (if (decide (cutoff≤n1)) = true then (none) else (if ((decide ((n1*(iU64 base1))+d4.toUInt64<n1*(iU64 base1)))||(decide ((shl64 (1:UInt64) (iU64 bitSize1).toNat) - (1:UInt64)<(n1*(iU64 base1))+d4.toUInt64))) = true then (none) else (lk1 underscores ((n1*(iU64 base1))+d4.toUInt64) (W (x101+(1:Int))))))
def strconv_ParseUint_121.l1 (K:Nat):Nat→(List UInt8)→Int→Int→UInt64→Int→Bool→UInt64→Int→Option (Lr (UInt64×Unit) (Bool×UInt64))
  |0,_,_,_,_,_,_,_,_=>none
  |k+1,s1,base,base1,cutoff,bitSize1,underscores,n1,x101=>if (decide (x101<(s1.length:Int))) = true then ((gt s1 x101).bind fun e5=>(if ((decide (e5 = (95:UInt8)))&&(decide (base = (0:Int)))) = true then (strconv_ParseUint_121.l1 K k s1 base base1 cutoff bitSize1 true n1 (W (x101+(1:Int)))) else (if ((decide ((48:UInt8)≤e5))&&(decide (e5≤(57:UInt8)))) = true then (strconv_ParseUint_121.j4 K (strconv_ParseUint_121.l1 K k s1 base base1 cutoff bitSize1) base1 cutoff n1 bitSize1 underscores x101 (e5 - (48:UInt8))) else ((strconv_lower K e5).bind fun r_3=>((if (decide ((97:UInt8)≤r_3)) = true then ((strconv_lower K e5).bind fun r_4=>(some (decide (r_4≤(122:UInt8))))) else some false).bind fun b3=>(if b3 = true then ((strconv_lower K e5).bind fun r_5=>(strconv_ParseUint_121.j4 K (strconv_ParseUint_121.l1 K k s1 base base1 cutoff bitSize1) base1 cutoff n1 bitSize1 underscores x101 ((r_5 - (97:UInt8))+(10:UInt8)))) else (none))))))) else (some (.go (underscores,n1)))
def strconv_ParseUint_121.j3 (K:Nat) (s1:List UInt8) (base:Int) (base1:Int) (bitSize1:Int) (s:List UInt8) (cutoff:UInt64):Option (UInt64×Unit) :=
  (strconv_ParseUint_121.l1 K K s1 base base1 cutoff bitSize1 false (0:UInt64) (0:Int)).bind fun q=>(lrc q (fun a=>some a) (fun z=>(fun underscores1 n2=>(if underscores1 = true then ((strconv_underscoreOK K s).bind fun r_6=>(some (!r_6))) else some false).bind fun b4=>(if b4 = true then (none) else (some (n2,())))) z.1 z.2))
def strconv_ParseUint_121.j2 (K:Nat) (base1:Int) (s1:List UInt8) (base:Int) (s:List UInt8) (bitSize1:Int):Option (UInt64×Unit) :=
  if (decide (base1 = (10:Int))) = true then (strconv_ParseUint_121.j3 K s1 base base1 bitSize1 s (1844674407370955162:UInt64)) else (if (decide (base1 = (16:Int))) = true then (strconv_ParseUint_121.j3 K s1 base base1 bitSize1 s (1152921504606846976:UInt64)) else ((req (iU64 base1 ≠ 0)).bind fun u=>(strconv_ParseUint_121.j3 K s1 base base1 bitSize1 s (((18446744073709551615:UInt64) / (iU64 base1))+(1:UInt64)))))
def strconv_ParseUint_121.j1 (K:Nat) (bitSize:Int) (base:Int) (s:List UInt8) (s1:List UInt8) (base1:Int):Option (UInt64×Unit) :=
  if (decide (bitSize = (0:Int))) = true then (strconv_ParseUint_121.j2 K base1 s1 base s (64:Int)) else (if ((decide (bitSize<(0:Int)))||(decide ((64:Int)<bitSize))) = true then (none) else (strconv_ParseUint_121.j2 K base1 s1 base s bitSize))
def strconv_ParseUint_121 (K:Nat) (s:List UInt8) (base:Int) (bitSize:Int):Option (UInt64×Unit) :=
  if (decide (s = ([]:List UInt8))) = true then (none) else (if ((decide ((2:Int)≤base))&&(decide (base≤(36:Int)))) = true then (strconv_ParseUint_121.j1 K bitSize base s s base) else (if (decide (base = (0:Int))) = true then ((gt s (0:Int)).bind fun e1=>(if (decide (e1 = (48:UInt8))) = true then ((if (decide ((3:Int)≤(s.length:Int))) = true then ((gt s (1:Int)).bind fun e2=>((strconv_lower K e2).bind fun r_=>(some (decide (r_ = (98:UInt8)))))) else some false).bind fun b=>(if b = true then ((sub s (2:Int) (s.length:Int)).bind fun t1=>(strconv_ParseUint_121.j1 K bitSize base s t1 (2:Int))) else ((if (decide ((3:Int)≤(s.length:Int))) = true then ((gt s (1:Int)).bind fun e3=>((strconv_lower K e3).bind fun r_1=>(some (decide (r_1 = (111:UInt8)))))) else some false).bind fun b1=>(if b1 = true then ((sub s (2:Int) (s.length:Int)).bind fun t3=>(strconv_ParseUint_121.j1 K bitSize base s t3 (8:Int))) else ((if (decide ((3:Int)≤(s.length:Int))) = true then ((gt s (1:Int)).bind fun e4=>((strconv_lower K e4).bind fun r_2=>(some (decide (r_2 = (120:UInt8)))))) else some false).bind fun b2=>(if b2 = true then ((sub s (2:Int) (s.length:Int)).bind fun t5=>(strconv_ParseUint_121.j1 K bitSize base s t5 (16:Int))) else ((sub s (1:Int) (s.length:Int)).bind fun t6=>(strconv_ParseUint_121.j1 K bitSize base s t6 (8:Int))))))))) else (strconv_ParseUint_121.j1 K bitSize base s s (10:Int)))) else (none)))
def strconv_ParseUint_99 (K:Nat) (s:List UInt8) (base:Int) (bitSize:Int):Option (UInt64×Unit) :=
  (strconv_ParseUint_121 K s base bitSize).bind fun r_=>(some (r_.1,()))
def codec_ToNumber (K:Nat) (s:List UInt8):Option (Int×Int) :=
  (if (decide (s = ([]:List UInt8))) = true then some true else ((gt s (0:Int)).bind fun e1=>(some (!decide ((e1.toNat:Int) = W ((W ((97:Int)+(s.length:Int))) - (1:Int))))))).bind fun b=>(if (b||(decide ((17:Int)<(s.length:Int)))) = true then (some ((0:Int),(3:Int))) else ((sub s (1:Int) (s.length:Int)).bind fun t1=>((strings_HasPrefix K t1 ([48]:List UInt8)).bind fun r_=>((if r_ = true then some true else ((strings_Trim K t1 ([48,49,50,51,52,53,54,55,56,57,97,98,99,100,101,102]:List UInt8)).bind fun r_1=>(some (!decide (r_1 = ([]:List UInt8)))))).bind fun b1=>(if b1 = true then (some ((0:Int),(3:Int))) else ((app 9223372036854775807 ([48]:List UInt8) t1).bind fun t3=>((strconv_ParseUint_99 K t3 (16:Int) (64:Int)).bind fun r_2=>(if (decide ((4611686018427387904:UInt64)<r_2.1)) = true then (some ((0:Int),(2:Int))) else (some (W (r_2.1.toNat:Int),(0:Int)))))))))))
def stringslite_IndexByte (K:Nat) (s:List UInt8) (c_:UInt8):Option Int:=some (Go.Lib.indexByte s c_)
def stringslite_Index (K:Nat) (s:List UInt8) (substr:List UInt8):Option Int :=
  if ((decide ((substr.length:Int) = (0:Int)))||(decide (substr = s))) = true then (some (0:Int)) else (if (decide ((substr.length:Int) = (1:Int))) = true then ((gt substr (0:Int)).bind fun e1=>((stringslite_IndexByte K s e1).bind fun r_=>(some r_))) else (if (decide ((s.length:Int)≤(substr.length:Int))) = true then (some (-1:Int)) else (none)))
def stringslite_Cut (K:Nat) (s:List UInt8) (sep:List UInt8):Option ((List UInt8)×(List UInt8)×Bool) :=
  (stringslite_Index K s sep).bind fun r_=>(if (decide ((0:Int)≤r_)) = true then ((sub s (0:Int) r_).bind fun t=>((sub s (W (r_+(sep.length:Int))) (s.length:Int)).bind fun t1=>(some (t,t1,true)))) else (some (s,([]:List UInt8),false)))
def strings_Cut (K:Nat) (s:List UInt8) (sep:List UInt8):Option ((List UInt8)×(List UInt8)×Bool) :=
  (stringslite_Cut K s sep).bind fun r_=>(some (r_.1,r_.2.1,r_.2.2))
def keys_Tree_take (K:Nat) (t:S_keys_Tree) (r_:S_api_Row):Option (Bool×S_keys_Tree) :=
  if (decide ((r_.Columns.length:Int) = (0:Int))) = true then ((some (mset t.gone r_.Key true)).bind fun m=>((codec_IsName K r_.Key).bind fun r_1=>(some (r_1,(⟨t.root,t.sealed,m,t.at_⟩:S_keys_Tree))))) else ((gt r_.Columns (0:Int)).bind fun e1=>((codec_ToNumber K e1).bind fun r_2=>(if ((!decide (r_2.2 = (0:Int)))||(!decide ((r_.Columns.length:Int) = (1:Int)))) = true then (some (false,(⟨t.root,t.sealed,t.gone,t.at_⟩:S_keys_Tree))) else (if (decide (r_.Key = ([35]:List UInt8))) = true then (some (decide (r_2.1≤(1099511627776:Int)),(⟨t.root,r_2.1,t.gone,t.at_⟩:S_keys_Tree))) else ((strings_Cut K r_.Key ([47]:List UInt8)).bind fun r_3=>((some (mset t.at_ (⟨r_3.1,r_3.2.1⟩:S_keys_purpose) r_2.1)).bind fun m1=>((if r_3.2.2 = true then ((codec_IsName K r_3.1).bind fun r_4=>(some r_4)) else some false).bind fun b2=>((if b2 = true then ((codec_IsName K r_3.2.1).bind fun r_5=>(some r_5)) else some false).bind fun b3=>(some ((b3&&(decide ((2:Int)≤r_2.1)))&&(decide (r_2.1≤(16:Int))),(⟨t.root,t.sealed,t.gone,m1⟩:S_keys_Tree)))))))))))
def keys_Load.l1 (K:Nat):Nat→(List S_api_Row)→(List UInt8)→Int→(List ((List UInt8)×Bool))→(List (S_keys_purpose×Int))→Int→Option (Lr ((Option S_keys_Tree)×Int) ((List UInt8)×Int×(List ((List UInt8)×Bool))×(List (S_keys_purpose×Int))))
  |0,_,_,_,_,_,_=>none
  |k+1,rows,x,x1,x2,x3,x14=>if (decide (x14<(rows.length:Int))) = true then ((gt rows x14).bind fun e1=>(if (decide ((0:Int)<x14)) = true then ((gt rows (W (x14 - (1:Int)))).bind fun e2=>(if (!ltS e2.Key e1.Key) = true then (some (.ret (none,(3:Int)))) else ((keys_Tree_take K (⟨x,x1,x2,x3⟩:S_keys_Tree) (⟨e1.Key,e1.Columns⟩:S_api_Row)).bind fun r_1=>(if (!r_1.1) = true then (some (.ret (none,(3:Int)))) else (keys_Load.l1 K k rows r_1.2.root r_1.2.sealed r_1.2.gone r_1.2.at_ (W (x14+(1:Int)))))))) else ((keys_Tree_take K (⟨x,x1,x2,x3⟩:S_keys_Tree) (⟨e1.Key,e1.Columns⟩:S_api_Row)).bind fun r_2=>(if (!r_2.1) = true then (some (.ret (none,(3:Int)))) else (keys_Load.l1 K k rows r_2.2.root r_2.2.sealed r_2.2.gone r_2.2.at_ (W (x14+(1:Int)))))))) else (some (.go (x,x1,x2,x3)))
def keys_Load.m2 (K:Nat) (x6:List ((List UInt8)×Bool)) (x:S_keys_purpose×Int) (s:Unit):Option (Lr ((Option S_keys_Tree)×Int) Unit) :=
  (fun k1 u _=>if ((mget x6 k1.tenant).getD false) = true then (some (.ret (none,(3:Int)))) else (some (.go ()))) x.1 x.2 s
def keys_Load (K:Nat) (root:List UInt8) (rows:List S_api_Row):Option ((Option S_keys_Tree)×Int) :=
  (keys_New K root).bind fun r_=>((keys_Load.l1 K K rows r_.root r_.sealed r_.gone r_.at_ (0:Int)).bind fun q=>(lrc q (fun a=>some a) (fun z=>(fun x4 x5 x6 x7=>mrngK (keys_Load.m2 K x6:S_keys_purpose×Int→Unit→Option (Lr ((Option S_keys_Tree)×Int) Unit)) x7 () fun q1=>(lrc q1 (fun a=>some a) (fun _=>if (!decide ((rows.length:Int) = W ((W ((1:Int)+(x6.length:Int)))+(x7.length:Int)))) = true then (some (none,(3:Int))) else (if (decide ((16:Int)<(x6.length:Int))) = true then (some (none,(3:Int))) else (if (decide ((16:Int)<(x7.length:Int))) = true then (some (none,(3:Int))) else (some (some (⟨x4,x5,x6,x7⟩:S_keys_Tree),(0:Int)))))))) z.1 z.2.1 z.2.2.1 z.2.2.2)))
def hr09_New (K:Nat) (root:List UInt8):Option S_hr09_Tree :=
  some (⟨root,(0:Int),([]:List (List UInt8)),([]:List S_hr09_version)⟩:S_hr09_Tree)
def hr02_IsName.l1:Nat→(List UInt8)→Int→Option (Lr Bool Unit)
  |0,_,_=>none
  |k+1,s,i=>if (decide (i<(s.length:Int))) = true then ((gt s i).bind fun e1=>(if (!((((decide ((97:UInt8)≤e1))&&(decide (e1≤(122:UInt8))))||((decide ((48:UInt8)≤e1))&&(decide (e1≤(57:UInt8)))))||(decide (e1 = (45:UInt8))))) = true then (some (.ret false)) else (hr02_IsName.l1 k s (W (i+(1:Int)))))) else (some (.go ()))
def hr02_IsName (K:Nat) (s:List UInt8):Option Bool :=
  (hr02_IsName.l1 K s (0:Int)).bind fun q=>(lrc q (fun a=>some a) (fun _=>some ((decide ((1:Int)≤(s.length:Int)))&&(decide ((s.length:Int)≤(9:Int))))))
def hr02_ToNumber.l1:Nat→(List UInt8)→Int→Option (Lr (Int×Int) Unit)
  |0,_,_=>none
  |k+1,s,i=>if (decide (i<(s.length:Int))) = true then ((gt s i).bind fun e2=>(if ((!(((decide ((48:UInt8)≤e2))&&(decide (e2≤(57:UInt8))))||((decide ((97:UInt8)≤e2))&&(decide (e2≤(102:UInt8))))))||((decide (i = (1:Int)))&&(decide (e2 = (48:UInt8))))) = true then (some (.ret ((0:Int),(3:Int)))) else (hr02_ToNumber.l1 k s (W (i+(1:Int)))))) else (some (.go ()))
def hr02_ToNumber.j1 (K:Nat) (lk2:Int→Int→Option (Lr (Int×Int) Int)) (n1:Int) (i1:Int) (d1:Int):Option (Lr (Int×Int) Int) :=
  if ((decide ((288230376151711744:Int)<n1))||((decide (n1 = (288230376151711744:Int)))&&(decide ((0:Int)<d1)))) = true then (some (.ret ((0:Int),(2:Int)))) else (lk2 (W ((W (n1*(16:Int)))+d1)) (W (i1+(1:Int))))
def hr02_ToNumber.l2 (K:Nat):Nat→(List UInt8)→Int→Int→Option (Lr (Int×Int) Int)
  |0,_,_,_=>none
  |k+1,s,n1,i1=>if (decide (i1<(s.length:Int))) = true then ((gt s i1).bind fun e3=>((gt s i1).bind fun e4=>(if (decide ((97:UInt8)≤e4)) = true then ((gt s i1).bind fun e5=>(hr02_ToNumber.j1 K (hr02_ToNumber.l2 K k s) n1 i1 (W ((W ((e5.toNat:Int) - (97:Int)))+(10:Int))))) else (hr02_ToNumber.j1 K (hr02_ToNumber.l2 K k s) n1 i1 (W ((e3.toNat:Int) - (48:Int))))))) else (some (.go n1))
def hr02_ToNumber (K:Nat) (s:List UInt8):Option (Int×Int) :=
  (if ((decide ((s.length:Int)<(1:Int)))||(decide ((17:Int)<(s.length:Int)))) = true then some true else ((gt s (0:Int)).bind fun e1=>(some (!decide (W ((e1.toNat:Int) - (97:Int)) = W ((s.length:Int) - (1:Int))))))).bind fun b=>(if b = true then (some ((0:Int),(3:Int))) else ((hr02_ToNumber.l1 K s (1:Int)).bind fun q=>(lrc q (fun a=>some a) (fun _=>(hr02_ToNumber.l2 K K s (0:Int) (1:Int)).bind fun q1=>(lrc q1 (fun a=>some a) (fun n2=>some (n2,(0:Int))))))))
def hr09_Split.l1:Nat→(List UInt8)→Int→Option (Lr ((List UInt8)×(List UInt8)×Bool) Unit)
  |0,_,_=>none
  |k+1,s,i=>if (decide (i<(s.length:Int))) = true then ((gt s i).bind fun e1=>(if (decide (e1 = (47:UInt8))) = true then ((sub s (0:Int) i).bind fun t=>((sub s (W (i+(1:Int))) (s.length:Int)).bind fun t1=>(some (.ret (t,t1,true))))) else (hr09_Split.l1 k s (W (i+(1:Int)))))) else (some (.go ()))
def hr09_Split (K:Nat) (s:List UInt8):Option ((List UInt8)×(List UInt8)×Bool) :=
  (hr09_Split.l1 K s (0:Int)).bind fun q=>(lrc q (fun a=>some a) (fun _=>some (s,([]:List UInt8),false)))
def hr09_Tree_isGone.l1:Nat→S_hr09_Tree→(List UInt8)→Int→Option (Lr Bool Unit)
  |0,_,_,_=>none
  |k+1,t,tenant,i=>if (decide (i<(t.gone.length:Int))) = true then ((gt t.gone i).bind fun e1=>(if (decide (e1 = tenant)) = true then (some (.ret true)) else (hr09_Tree_isGone.l1 k t tenant (W (i+(1:Int)))))) else (some (.go ()))
def hr09_Tree_isGone (K:Nat) (t:S_hr09_Tree) (tenant:List UInt8):Option Bool :=
  (hr09_Tree_isGone.l1 K t tenant (0:Int)).bind fun q=>(lrc q (fun a=>some a) (fun _=>some false))
def hr09_Load.l1 (K:Nat):Nat→(List S_api_Row)→Int→(List (List UInt8))→(List S_hr09_version)→Int→Int→Option (Lr ((Option S_hr09_Tree)×Int) (Int×(List (List UInt8))×(List S_hr09_version)×Int))
  |0,_,_,_,_,_,_=>none
  |k+1,rows,x,x1,x2,count,i1=>if (decide (i1<(rows.length:Int))) = true then ((gt rows i1).bind fun e1=>(if (decide ((0:Int)<i1)) = true then ((gt rows (W (i1 - (1:Int)))).bind fun e2=>(if (!ltS e2.Key e1.Key) = true then (some (.ret (none,(3:Int)))) else (if (decide ((e1.Columns.length:Int) = (0:Int))) = true then ((hr02_IsName K e1.Key).bind fun r_1=>(if (!r_1) = true then (some (.ret (none,(3:Int)))) else ((some ([e1.Key]:List (List UInt8))).bind fun l3=>((app 8796093022208 x1 l3).bind fun x6=>(hr09_Load.l1 K k rows x x6 x2 count (W (i1+(1:Int)))))))) else ((gt e1.Columns (0:Int)).bind fun e4=>((hr02_ToNumber K e4).bind fun r_2=>(if ((!decide ((e1.Columns.length:Int) = (1:Int)))||(!decide (r_2.2 = (0:Int)))) = true then (some (.ret (none,(3:Int)))) else (if ((decide (e1.Key = ([35]:List UInt8)))&&(decide ((1099511627776:Int)<r_2.1))) = true then (some (.ret (none,(3:Int)))) else (if (decide (e1.Key = ([35]:List UInt8))) = true then (hr09_Load.l1 K k rows r_2.1 x1 x2 (W (count+(1:Int))) (W (i1+(1:Int)))) else ((hr09_Split K e1.Key).bind fun r_3=>((if (!r_3.2.2) = true then some true else ((hr02_IsName K r_3.1).bind fun r_4=>(some (!r_4)))).bind fun b=>((if b = true then some true else ((hr02_IsName K r_3.2.1).bind fun r_5=>(some (!r_5)))).bind fun b1=>(if ((b1||(decide (r_2.1<(2:Int))))||(decide ((16:Int)<r_2.1))) = true then (some (.ret (none,(3:Int)))) else ((some ([(⟨r_3.1,r_3.2.1,r_2.1⟩:S_hr09_version)]:List S_hr09_version)).bind fun l4=>((app 3518437208883 x2 l4).bind fun x7=>(hr09_Load.l1 K k rows x x1 x7 count (W (i1+(1:Int)))))))))))))))))) else (if (decide ((e1.Columns.length:Int) = (0:Int))) = true then ((hr02_IsName K e1.Key).bind fun r_6=>(if (!r_6) = true then (some (.ret (none,(3:Int)))) else ((some ([e1.Key]:List (List UInt8))).bind fun l5=>((app 8796093022208 x1 l5).bind fun x8=>(hr09_Load.l1 K k rows x x8 x2 count (W (i1+(1:Int)))))))) else ((gt e1.Columns (0:Int)).bind fun e7=>((hr02_ToNumber K e7).bind fun r_7=>(if ((!decide ((e1.Columns.length:Int) = (1:Int)))||(!decide (r_7.2 = (0:Int)))) = true then (some (.ret (none,(3:Int)))) else (if ((decide (e1.Key = ([35]:List UInt8)))&&(decide ((1099511627776:Int)<r_7.1))) = true then (some (.ret (none,(3:Int)))) else (if (decide (e1.Key = ([35]:List UInt8))) = true then (hr09_Load.l1 K k rows r_7.1 x1 x2 (W (count+(1:Int))) (W (i1+(1:Int)))) else ((hr09_Split K e1.Key).bind fun r_8=>((if (!r_8.2.2) = true then some true else ((hr02_IsName K r_8.1).bind fun r_9=>(some (!r_9)))).bind fun b2=>((if b2 = true then some true else ((hr02_IsName K r_8.2.1).bind fun r_10=>(some (!r_10)))).bind fun b3=>(if ((b3||(decide (r_7.1<(2:Int))))||(decide ((16:Int)<r_7.1))) = true then (some (.ret (none,(3:Int)))) else ((some ([(⟨r_8.1,r_8.2.1,r_7.1⟩:S_hr09_version)]:List S_hr09_version)).bind fun l6=>((app 3518437208883 x2 l6).bind fun x9=>(hr09_Load.l1 K k rows x x1 x9 count (W (i1+(1:Int)))))))))))))))))) else (some (.go (x,x1,x2,count)))
def hr09_Load.l2 (K:Nat):Nat→S_hr09_Tree→Int→(List (List UInt8))→(List S_hr09_version)→Int→Option (Lr ((Option S_hr09_Tree)×Int) ((List (List UInt8))×(List S_hr09_version)))
  |0,_,_,_,_,_=>none
  |k+1,r_,x3,x10,x11,i2=>if (decide (i2<(x11.length:Int))) = true then ((gt x11 i2).bind fun e9=>((hr09_Tree_isGone K (⟨r_.root,x3,x10,x11⟩:S_hr09_Tree) e9.tenant).bind fun r_11=>(if r_11 = true then (some (.ret (none,(3:Int)))) else (hr09_Load.l2 K k r_ x3 x10 x11 (W (i2+(1:Int))))))) else (some (.go (x10,x11)))
def hr09_Load (K:Nat) (root:List UInt8) (rows:List S_api_Row):Option ((Option S_hr09_Tree)×Int) :=
  (hr09_New K root).bind fun r_=>((hr09_Load.l1 K K rows r_.sealed r_.gone r_.l (0:Int) (0:Int)).bind fun q=>(lrc q (fun a=>some a) (fun z=>(fun x3 x4 x5 count1=>(hr09_Load.l2 K K r_ x3 x4 x5 (0:Int)).bind fun q1=>(lrc q1 (fun a=>some a) (fun z=>(fun x12 x13=>if (((!decide (count1 = (1:Int)))||(decide ((16:Int)<(x12.length:Int))))||(decide ((16:Int)<(x13.length:Int)))) = true then (some (none,(3:Int))) else (some (some (⟨r_.root,x3,x12,x13⟩:S_hr09_Tree),(0:Int)))) z.1 z.2))) z.1 z.2.1 z.2.2.1 z.2.2.2)))
def keys_Tree_Current (K:Nat) (t:S_keys_Tree) (tenant:List UInt8) (name:List UInt8):Option (Int×Int) :=
  (codec_IsName K tenant).bind fun r_=>((if (!r_) = true then some true else ((codec_IsName K name).bind fun r_1=>(some (!r_1)))).bind fun b2=>(if b2 = true then (some ((0:Int),(8:Int))) else (if ((mget t.gone tenant).getD false) = true then (some ((0:Int),(12:Int))) else (some (maxI ((mget t.at_ (⟨tenant,name⟩:S_keys_purpose)).getD (0:Int)) (1:Int),(0:Int))))))
def bits_Len64.j3 (K:Nat) (x3:UInt64) (n3:Int):Option Int :=
  (gt ([0,1,2,2,3,3,3,3,4,4,4,4,4,4,4,4,5,5,5,5,5,5,5,5,5,5,5,5,5,5,5,5,6,6,6,6,6,6,6,6,6,6,6,6,6,6,6,6,6,6,6,6,6,6,6,6,6,6,6,6,6,6,6,6,7,7,7,7,7,7,7,7,7,7,7,7,7,7,7,7,7,7,7,7,7,7,7,7,7,7,7,7,7,7,7,7,7,7,7,7,7,7,7,7,7,7,7,7,7,7,7,7,7,7,7,7,7,7,7,7,7,7,7,7,7,7,7,7,8,8,8,8,8,8,8,8,8,8,8,8,8,8,8,8,8,8,8,8,8,8,8,8,8,8,8,8,8,8,8,8,8,8,8,8,8,8,8,8,8,8,8,8,8,8,8,8,8,8,8,8,8,8,8,8,8,8,8,8,8,8,8,8,8,8,8,8,8,8,8,8,8,8,8,8,8,8,8,8,8,8,8,8,8,8,8,8,8,8,8,8,8,8,8,8,8,8,8,8,8,8,8,8,8,8,8,8,8,8,8,8,8,8,8,8,8,8,8,8,8,8,8,8,8,8,8,8]:List UInt8) (x3.toUInt8.toNat:Int)).bind fun e=>(some (W (n3+(e.toNat:Int))))
def bits_Len64.j2 (K:Nat) (x2:UInt64) (n2:Int):Option Int :=
  if (decide ((256:UInt64)≤x2)) = true then (bits_Len64.j3 K (shr64 x2 8) (W (n2+(8:Int)))) else (bits_Len64.j3 K x2 n2)
def bits_Len64.j1 (K:Nat) (x1:UInt64) (n1:Int):Option Int :=
  if (decide ((65536:UInt64)≤x1)) = true then (bits_Len64.j2 K (shr64 x1 16) (W (n1+(16:Int)))) else (bits_Len64.j2 K x1 n1)
def bits_Len64 (K:Nat) (x:UInt64):Option Int :=
  if (decide ((4294967296:UInt64)≤x)) = true then (bits_Len64.j1 K (shr64 x 32) (32:Int)) else (bits_Len64.j1 K x (0:Int))
def strconv_log10Pow2 (K:Nat) (x:Int):Option Int :=
  some (shrI (W (x*(78913:Int))) 18)
def strconv_bool2_int (K:Nat) (b:Bool):Option Int :=
  if b = true then (some (1:Int)) else (some (0:Int))
def strconv_numDigits (K:Nat) (d1:UInt64):Option Int :=
  (bits_Len64 K d1).bind fun r_=>((strconv_log10Pow2 K r_).bind fun r_1=>((gt tab0 r_1).bind fun e1=>((strconv_bool2_int K (decide (e1≤d1))).bind fun r_2=>(some (W (r_1+r_2))))))
def strconv_isPowerOfTwo (K:Nat) (x:Int):Option Bool :=
  some (decide (andI x (W (x - (1:Int))) = (0:Int)))
def bits_TrailingZeros64 (K:Nat) (x:UInt64):Option Int :=
  if (decide (x = (0:UInt64))) = true then (some (64:Int)) else ((gt tab7 ((shr64 ((x &&& (0 - x))*(285870213051353865:UInt64)) 58).toNat:Int)).bind fun e1=>(some (e1.toNat:Int)))
def bits_TrailingZeros (K:Nat) (x:UInt64):Option Int :=
  (bits_TrailingZeros64 K x).bind fun r_=>(some r_)
def strconv_formatBits.l1:Nat→Int→Int→UInt64→(List UInt8)→Int→Option (UInt64×(List UInt8)×Int)
  |0,_,_,_,_,_=>none
  |k+1,base,r_1,u2,a2,i2=>if (decide (iU64 base≤u2)) = true then ((gt ([48,49,50,51,52,53,54,55,56,57,97,98,99,100,101,102,103,104,105,106,107,108,109,110,111,112,113,114,115,116,117,118,119,120,121,122]:List UInt8) ((u2 &&& ((iU64 base) - (1:UInt64))).toNat:Int)).bind fun e1=>((req (0≤W (i2 - (1:Int))∧W (i2 - (1:Int))<(a2.length:Int))).bind fun u4=>((some (a2.set (W (i2 - (1:Int))).toNat e1)).bind fun a5=>(strconv_formatBits.l1 k base r_1 (shr64 u2 (iU64 r_1).toNat) a5 (W (i2 - (1:Int))))))) else (some (u2,a2,i2))
def strconv_formatBits.l2:Nat→Int→UInt64→(List UInt8)→Int→Option (UInt64×(List UInt8)×Int)
  |0,_,_,_,_=>none
  |k+1,base,u6,a8,i4=>if (decide (iU64 base≤u6)) = true then ((req (iU64 base ≠ 0)).bind fun u8=>((gt ([48,49,50,51,52,53,54,55,56,57,97,98,99,100,101,102,103,104,105,106,107,108,109,110,111,112,113,114,115,116,117,118,119,120,121,122]:List UInt8) ((u6 - ((u6 / (iU64 base))*(iU64 base))).toNat:Int)).bind fun e3=>((req (0≤W (i4 - (1:Int))∧W (i4 - (1:Int))<(a8.length:Int))).bind fun u9=>((some (a8.set (W (i4 - (1:Int))).toNat e3)).bind fun a11=>(strconv_formatBits.l2 k base (u6 / (iU64 base)) a11 (W (i4 - (1:Int)))))))) else (some (u6,a8,i4))
def strconv_formatBits.j4 (K:Nat) (append_:Bool) (a14:List UInt8) (i6:Int):Option ((List UInt8)×(List UInt8)) :=
  if append_ = true then (none) else ((sub a14 i6 (65:Int)).bind fun ys1=>(some (([]:List UInt8),ys1)))
def strconv_formatBits.j3 (K:Nat) (neg:Bool) (append_:Bool) (a1:List UInt8) (i1:Int):Option ((List UInt8)×(List UInt8)) :=
  if neg = true then ((req (0≤W (i1 - (1:Int))∧W (i1 - (1:Int))<(a1.length:Int))).bind fun u11=>((some (a1.set (W (i1 - (1:Int))).toNat (45:UInt8))).bind fun a16=>(strconv_formatBits.j4 K append_ a16 (W (i1 - (1:Int)))))) else (strconv_formatBits.j4 K append_ a1 i1)
def strconv_formatBits.j2 (K:Nat) (base:Int) (neg:Bool) (append_:Bool) (u1:UInt64):Option ((List UInt8)×(List UInt8)) :=
  (strconv_isPowerOfTwo K base).bind fun r_=>(if r_ = true then ((bits_TrailingZeros K (iU64 base)).bind fun r_1=>((strconv_formatBits.l1 K base r_1 u1 (List.replicate 65 (0:UInt8)) (65:Int)).bind fun q=>((fun u3 a3 i3=>(gt ([48,49,50,51,52,53,54,55,56,57,97,98,99,100,101,102,103,104,105,106,107,108,109,110,111,112,113,114,115,116,117,118,119,120,121,122]:List UInt8) (u3.toNat:Int)).bind fun e2=>((req (0≤W (i3 - (1:Int))∧W (i3 - (1:Int))<(a3.length:Int))).bind fun u5=>((some (a3.set (W (i3 - (1:Int))).toNat e2)).bind fun a7=>(strconv_formatBits.j3 K neg append_ a7 (W (i3 - (1:Int))))))) q.1 q.2.1 q.2.2))) else ((strconv_formatBits.l2 K base u1 (List.replicate 65 (0:UInt8)) (65:Int)).bind fun q1=>((fun u7 a9 i5=>(gt ([48,49,50,51,52,53,54,55,56,57,97,98,99,100,101,102,103,104,105,106,107,108,109,110,111,112,113,114,115,116,117,118,119,120,121,122]:List UInt8) (u7.toNat:Int)).bind fun e4=>((req (0≤W (i5 - (1:Int))∧W (i5 - (1:Int))<(a9.length:Int))).bind fun u10=>((some (a9.set (W (i5 - (1:Int))).toNat e4)).bind fun a13=>(strconv_formatBits.j3 K neg append_ a13 (W (i5 - (1:Int))))))) q1.1 q1.2.1 q1.2.2)))
def strconv_formatBits.j1 (K:Nat) (neg:Bool) (base:Int) (append_:Bool) (u:UInt64):Option ((List UInt8)×(List UInt8)) :=
  if neg = true then (strconv_formatBits.j2 K base neg append_ (0 - u)) else (strconv_formatBits.j2 K base neg append_ u)
def strconv_formatBits (K:Nat) (dst:List UInt8) (u:UInt64) (base:Int) (neg:Bool) (append_:Bool):Option ((List UInt8)×(List UInt8)) :=
  if (((decide (base<(2:Int)))||(decide (base = (10:Int))))||(decide ((36:Int)<base))) = true then (none) else (strconv_formatBits.j1 K neg base append_ u)
def strconv_FormatInt_84.j1 (K:Nat) (u:UInt64):Option (List UInt8) :=
  none
def strconv_FormatInt_84 (K:Nat) (i:Int) (base:Int):Option (List UInt8) :=
  if (decide (base = (10:Int))) = true then (if ((decide ((0:Int)≤i))&&(decide (i<(100:Int)))) = true then (none) else (if (decide (i<(0:Int))) = true then (strconv_FormatInt_84.j1 K (0 - (iU64 i))) else (strconv_FormatInt_84.j1 K (iU64 i)))) else ((strconv_formatBits K ([]:List UInt8) (iU64 i) base (decide (i<(0:Int))) false).bind fun r_=>(some r_.2))
def strconv_FormatInt_57 (K:Nat) (i:Int) (base:Int):Option (List UInt8) :=
  (strconv_FormatInt_84 K i base).bind fun r_=>(some r_)
def stringslite_TrimPrefix (K:Nat) (s:List UInt8) (prefix_:List UInt8):Option (List UInt8) :=
  (stringslite_HasPrefix K s prefix_).bind fun r_=>(if r_ = true then ((sub s (prefix_.length:Int) (s.length:Int)).bind fun t=>(some t)) else (some s))
def strings_TrimPrefix (K:Nat) (s:List UInt8) (prefix_:List UInt8):Option (List UInt8) :=
  (stringslite_TrimPrefix K s prefix_).bind fun r_=>(some r_)
def codec_Number (K:Nat) (n1:Int):Option ((List UInt8)×Int) :=
  if ((decide (n1<(0:Int)))||(decide ((4611686018427387904:Int)<n1))) = true then (some (([]:List UInt8),(2:Int))) else ((strconv_FormatInt_57 K n1 (16:Int)).bind fun r_=>((strings_TrimPrefix K r_ ([48]:List UInt8)).bind fun r_1=>((app 9223372036854775807 (runeS (R32 (W ((97:Int)+(r_1.length:Int))))) r_1).bind fun t=>(some (t,(0:Int))))))
def strings_Count (K:Nat) (s sub:List UInt8):Option Int:=match sub with
  | [x]=>some ((Go.Lib.countByte s x:Nat):Int)
  |_=>none
def strings_Replace.j1 (K:Nat) (n2:Int):Option (List UInt8) :=
  none
def strings_Replace (K:Nat) (s:List UInt8) (old:List UInt8) (new:List UInt8) (n1:Int):Option (List UInt8) :=
  if ((decide (old = new))||(decide (n1 = (0:Int)))) = true then (some s) else ((strings_Count K s old).bind fun r_=>(if (decide (r_ = (0:Int))) = true then (some s) else (if ((decide (n1<(0:Int)))||(decide (r_<n1))) = true then (strings_Replace.j1 K r_) else (strings_Replace.j1 K n1))))
def strings_ReplaceAll (K:Nat) (s:List UInt8) (old:List UInt8) (new:List UInt8):Option (List UInt8) :=
  (strings_Replace K s old new (-1:Int)).bind fun r_=>(some r_)
def codec_Key.l1 (K:Nat):Nat→(List (List UInt8))→(List UInt8)→Int→Option (Lr ((List UInt8)×Int) (List UInt8))
  |0,_,_,_=>none
  |k+1,parts,out,x17=>if (decide (x17<(parts.length:Int))) = true then ((gt parts x17).bind fun e1=>(if (decide ((64:Int)<(e1.length:Int))) = true then (some (.ret (([]:List UInt8),(6:Int)))) else ((strings_ReplaceAll K e1 ([0]:List UInt8) ([0,255]:List UInt8)).bind fun r_=>((app 140737488355328 out r_).bind fun out2=>((some ([(0:UInt8),(1:UInt8)]:List UInt8)).bind fun l1=>((app 140737488355328 out2 l1).bind fun out3=>(codec_Key.l1 K k parts out3 (W (x17+(1:Int)))))))))) else (some (.go out))
def codec_Key (K:Nat) (parts:List (List UInt8)):Option ((List UInt8)×Int) :=
  if ((decide ((parts.length:Int)<(1:Int)))||(decide ((8:Int)<(parts.length:Int)))) = true then (some (([]:List UInt8),(2:Int))) else ((codec_Key.l1 K K parts ([]:List UInt8) (0:Int)).bind fun q=>(lrc q (fun a=>some a) (fun out1=>if (decide ((64:Int)<(out1.length:Int))) = true then (some (([]:List UInt8),(6:Int))) else (some (out1,(0:Int))))))
def hash_rounds (K:Nat):Option (List UInt32) :=
  (some ([(1116352408:UInt32),(1899447441:UInt32),(3049323471:UInt32),(3921009573:UInt32),(961987163:UInt32),(1508970993:UInt32),(2453635748:UInt32),(2870763221:UInt32),(3624381080:UInt32),(310598401:UInt32),(607225278:UInt32),(1426881987:UInt32),(1925078388:UInt32),(2162078206:UInt32),(2614888103:UInt32),(3248222580:UInt32),(3835390401:UInt32),(4022224774:UInt32),(264347078:UInt32),(604807628:UInt32),(770255983:UInt32),(1249150122:UInt32),(1555081692:UInt32),(1996064986:UInt32),(2554220882:UInt32),(2821834349:UInt32),(2952996808:UInt32),(3210313671:UInt32),(3336571891:UInt32),(3584528711:UInt32),(113926993:UInt32),(338241895:UInt32),(666307205:UInt32),(773529912:UInt32),(1294757372:UInt32),(1396182291:UInt32),(1695183700:UInt32),(1986661051:UInt32),(2177026350:UInt32),(2456956037:UInt32),(2730485921:UInt32),(2820302411:UInt32),(3259730800:UInt32),(3345764771:UInt32),(3516065817:UInt32),(3600352804:UInt32),(4094571909:UInt32),(275423344:UInt32),(430227734:UInt32),(506948616:UInt32),(659060556:UInt32),(883997877:UInt32),(958139571:UInt32),(1322822218:UInt32),(1537002063:UInt32),(1747873779:UInt32),(1955562222:UInt32),(2024104815:UInt32),(2227730452:UInt32),(2361852424:UInt32),(2428436474:UInt32),(2756734187:UInt32),(3204031479:UInt32),(3329325298:UInt32)]:List UInt32)).bind fun l1=>(some l1)
def bits_RotateLeft32 (K:Nat) (x:UInt32) (k1:Int):Option UInt32 :=
  some ((shl32 x ((iU64 k1) &&& (31:UInt64)).toNat) ||| (shr32 x ((32:UInt64) - ((iU64 k1) &&& (31:UInt64))).toNat))
def hash_words_mix.l1 (K:Nat):Nat→(List UInt8)→(List UInt32)→Int→Option (List UInt32)
  |0,_,_,_=>none
  |k+1,b,xs,x18=>if (decide (x18<(64:Int))) = true then (if (decide (x18<(16:Int))) = true then ((gt b (W ((4:Int)*x18))).bind fun e=>((gt b (W ((W ((4:Int)*x18))+(1:Int)))).bind fun e1=>((gt b (W ((W ((4:Int)*x18))+(2:Int)))).bind fun e2=>((gt b (W ((W ((4:Int)*x18))+(3:Int)))).bind fun e3=>((req (0≤x18∧x18<(xs.length:Int))).bind fun u=>((some (xs.set (x18).toNat ((((shl32 e.toUInt32 24) ||| (shl32 e1.toUInt32 16)) ||| (shl32 e2.toUInt32 8)) ||| e3.toUInt32))).bind fun xs2=>(hash_words_mix.l1 K k b xs2 (W (x18+(1:Int)))))))))) else ((gt xs (W (x18 - (15:Int)))).bind fun e4=>((bits_RotateLeft32 K e4 (-7:Int)).bind fun r_=>((gt xs (W (x18 - (15:Int)))).bind fun e5=>((bits_RotateLeft32 K e5 (-18:Int)).bind fun r_1=>((gt xs (W (x18 - (15:Int)))).bind fun e6=>((gt xs (W (x18 - (2:Int)))).bind fun e7=>((bits_RotateLeft32 K e7 (-17:Int)).bind fun r_2=>((gt xs (W (x18 - (2:Int)))).bind fun e8=>((bits_RotateLeft32 K e8 (-19:Int)).bind fun r_3=>((gt xs (W (x18 - (2:Int)))).bind fun e9=>((gt xs (W (x18 - (16:Int)))).bind fun e10=>((gt xs (W (x18 - (7:Int)))).bind fun e11=>((req (0≤x18∧x18<(xs.length:Int))).bind fun u1=>((some (xs.set (x18).toNat (((e10+((r_ ^^^ r_1) ^^^ (shr32 e6 3)))+e11)+((r_2 ^^^ r_3) ^^^ (shr32 e9 10))))).bind fun xs3=>(hash_words_mix.l1 K k b xs3 (W (x18+(1:Int))))))))))))))))))) else (some xs)
def hash_words_mix.l2 (K:Nat):Nat→(List UInt32)→(List UInt32)→(List UInt32)→Int→Option (List UInt32)
  |0,_,_,_,_=>none
  |k+1,k1,xs1,h38,x109=>if (decide (x109<(64:Int))) = true then ((bits_RotateLeft32 K (h38.getD 4 0) (-6:Int)).bind fun r_4=>((bits_RotateLeft32 K (h38.getD 4 0) (-11:Int)).bind fun r_5=>((bits_RotateLeft32 K (h38.getD 4 0) (-25:Int)).bind fun r_6=>((gt k1 x109).bind fun e12=>((gt xs1 x109).bind fun e13=>((bits_RotateLeft32 K (h38.getD 0 0) (-2:Int)).bind fun r_7=>((bits_RotateLeft32 K (h38.getD 0 0) (-13:Int)).bind fun r_8=>((bits_RotateLeft32 K (h38.getD 0 0) (-22:Int)).bind fun r_9=>((some (h38.take 1 ++ ((h38.take 7).drop 0).take 7 ++ h38.drop (1+min ((h38.take 7).drop 0).length 7))).bind fun h74=>((some (h74.set 4 ((h74.getD 4 0)+(((((h38.getD 7 0)+((r_4 ^^^ r_5) ^^^ r_6))+((h38.getD 6 0) ^^^ ((h38.getD 4 0) &&& ((h38.getD 5 0) ^^^ (h38.getD 6 0)))))+e12)+e13)))).bind fun h75=>((some (h75.set 0 ((((((h38.getD 7 0)+((r_4 ^^^ r_5) ^^^ r_6))+((h38.getD 6 0) ^^^ ((h38.getD 4 0) &&& ((h38.getD 5 0) ^^^ (h38.getD 6 0)))))+e12)+e13)+(((r_7 ^^^ r_8) ^^^ r_9)+(((h38.getD 0 0) &&& (h38.getD 1 0)) ||| ((h38.getD 2 0) &&& ((h38.getD 0 0) ||| (h38.getD 1 0)))))))).bind fun h76=>(hash_words_mix.l2 K k k1 xs1 h76 (W (x109+(1:Int))))))))))))))) else (some h38)
def hash_words_mix.l3:Nat→(List UInt32)→(List UInt32)→Int→Option (List UInt32)
  |0,_,_,_=>none
  |k+1,h39,h80,x189=>if (decide (x189<(8:Int))) = true then ((gt h80 x189).bind fun e14=>((gt h39 x189).bind fun e15=>((req (0≤x189∧x189<(h80.length:Int))).bind fun u2=>((some (h80.set (x189).toNat (e14+e15))).bind fun h90=>(hash_words_mix.l3 k h39 h90 (W (x189+(1:Int)))))))) else (some h80)
def hash_words_mix (K:Nat) (h:List UInt32) (k1:List UInt32) (b:List UInt8):Option (List UInt32) :=
  (hash_words_mix.l1 K K b (List.replicate 64 (0:UInt32)) (0:Int)).bind fun xs1=>((hash_words_mix.l2 K K k1 xs1 h (0:Int)).bind fun h39=>((hash_words_mix.l3 K h39 h (0:Int)).bind fun h81=>(some h81)))
def bytes_Clone (K:Nat) (b:List UInt8):Option (List UInt8):=app 140737488355328 ([]:List UInt8) b
def hash_Sum.l1 (K:Nat):Nat→(List UInt32)→(List UInt8)→(List UInt32)→Option ((List UInt8)×(List UInt32))
  |0,_,_,_=>none
  |k+1,r_,b1,l2=>if (decide ((64:Int)≤(b1.length:Int))) = true then ((hash_words_mix K l2 r_ b1).bind fun r_1=>((sub b1 (64:Int) (b1.length:Int)).bind fun ys=>(hash_Sum.l1 K k r_ ys r_1))) else (some (b1,l2))
def hash_Sum.l2:Nat→(List UInt8)→(List UInt8)→Int→Option (List UInt8)
  |0,_,_,_=>none
  |k+1,b,end_,x35=>if (decide (x35<(8:Int))) = true then ((shc (W ((56:Int) - (W ((8:Int)*x35))))).bind fun k1=>((some ([(shr64 (shl64 (iU64 (b.length:Int)) 3) (W ((56:Int) - (W ((8:Int)*x35)))).toNat).toUInt8]:List UInt8)).bind fun l11=>((app 140737488355328 end_ l11).bind fun end_2=>(hash_Sum.l2 k b end_2 (W (x35+(1:Int))))))) else (some end_)
def hash_Sum.l3 (K:Nat):Nat→(List UInt32)→(List UInt32)→(List UInt8)→Option (List UInt32)
  |0,_,_,_=>none
  |k+1,r_,l12,end_3=>if (decide ((0:Int)<(end_3.length:Int))) = true then ((hash_words_mix K l12 r_ end_3).bind fun r_4=>((sub end_3 (64:Int) (end_3.length:Int)).bind fun ys1=>(hash_Sum.l3 K k r_ r_4 ys1))) else (some l12)
def hash_Sum.l4:Nat→(List UInt32)→(List UInt8)→Int→Option (List UInt8)
  |0,_,_,_=>none
  |k+1,l13,xs1,x58=>if (decide (x58<(8:Int))) = true then ((gt l13 x58).bind fun e=>((req (0≤W ((4:Int)*x58)∧W ((4:Int)*x58)<(xs1.length:Int))).bind fun u=>((some (xs1.set (W ((4:Int)*x58)).toNat ((shr32 e 24).toUInt8))).bind fun xs3=>((req (0≤W ((W ((4:Int)*x58))+(1:Int))∧W ((W ((4:Int)*x58))+(1:Int))<(xs3.length:Int))).bind fun u1=>((some (xs3.set (W ((W ((4:Int)*x58))+(1:Int))).toNat ((shr32 e 16).toUInt8))).bind fun xs4=>((req (0≤W ((W ((4:Int)*x58))+(2:Int))∧W ((W ((4:Int)*x58))+(2:Int))<(xs4.length:Int))).bind fun u2=>((some (xs4.set (W ((W ((4:Int)*x58))+(2:Int))).toNat ((shr32 e 8).toUInt8))).bind fun xs5=>((req (0≤W ((W ((4:Int)*x58))+(3:Int))∧W ((W ((4:Int)*x58))+(3:Int))<(xs5.length:Int))).bind fun u3=>((some (xs5.set (W ((W ((4:Int)*x58))+(3:Int))).toNat e.toUInt8)).bind fun xs6=>(hash_Sum.l4 k l13 xs6 (W (x58+(1:Int))))))))))))) else (some xs1)
def hash_Sum (K:Nat) (b:List UInt8):Option (List UInt8) :=
  (some ([(1779033703:UInt32),(3144134277:UInt32),(1013904242:UInt32),(2773480762:UInt32),(1359893119:UInt32),(2600822924:UInt32),(528734635:UInt32),(1541459225:UInt32)]:List UInt32)).bind fun l1=>((hash_rounds K).bind fun r_=>((hash_Sum.l1 K K r_ b l1).bind fun q=>((fun b2 l3=>(bytes_Clone K b2).bind fun r_2=>((some ([(128:UInt8)]:List UInt8)).bind fun l9=>((app 140737488355328 r_2 l9).bind fun r_3=>(((mks 140737488355328 (0:UInt8) ((W ((119:Int) - (b2.length:Int))).tmod (64:Int))).bind fun z1=>app 140737488355328 r_3 z1).bind fun xs=>((hash_Sum.l2 K b xs (0:Int)).bind fun end_1=>((hash_Sum.l3 K K r_ l3 end_1).bind fun l13=>((hash_Sum.l4 K l13 (List.replicate 32 (0:UInt8)) (0:Int)).bind fun xs2=>(some xs2)))))))) q.1 q.2)))
def hash_Tag.l1:Nat→(List UInt8)→(List UInt8)→Int→Option ((List UInt8)×(List UInt8))
  |0,_,_,_=>none
  |k+1,xs1,xs2,x20=>if (decide (x20<(64:Int))) = true then ((gt xs1 x20).bind fun e=>((req (0≤x20∧x20<(xs1.length:Int))).bind fun u=>((some (xs1.set (x20).toNat (e ^^^ (54:UInt8)))).bind fun xs5=>((gt xs2 x20).bind fun e1=>((req (0≤x20∧x20<(xs2.length:Int))).bind fun u1=>((some (xs2.set (x20).toNat (e1 ^^^ (92:UInt8)))).bind fun xs6=>(hash_Tag.l1 k xs5 xs6 (W (x20+(1:Int)))))))))) else (some (xs1,xs2))
def hash_Tag.j1 (K:Nat) (b:List UInt8) (key1:List UInt8):Option (List UInt8) :=
  (some ((List.replicate 64 (0:UInt8)).take 0 ++ key1.take 64 ++ (List.replicate 64 (0:UInt8)).drop (0+min key1.length 64))).bind fun xs=>((hash_Tag.l1 K xs xs (0:Int)).bind fun q=>((fun xs3 xs4=>(app 140737488355328 xs3 b).bind fun xs7=>((hash_Sum K xs7).bind fun r_1=>((app 140737488355328 xs4 r_1).bind fun xs8=>((hash_Sum K xs8).bind fun r_2=>(some r_2))))) q.1 q.2))
def hash_Tag (K:Nat) (key:List UInt8) (b:List UInt8):Option (List UInt8) :=
  if (decide ((64:Int)<(key.length:Int))) = true then ((hash_Sum K key).bind fun r_=>(hash_Tag.j1 K b r_)) else (hash_Tag.j1 K b key)
def hash_Derive (K:Nat) (key:List UInt8) (labels:List (List UInt8)):Option ((List UInt8)×Int) :=
  (codec_Key K labels).bind fun r_=>(if (!decide (r_.2 = (0:Int))) = true then ((some ([(0:UInt8),(0:UInt8),(0:UInt8),(0:UInt8),(0:UInt8),(0:UInt8),(0:UInt8),(0:UInt8),(0:UInt8),(0:UInt8),(0:UInt8),(0:UInt8),(0:UInt8),(0:UInt8),(0:UInt8),(0:UInt8),(0:UInt8),(0:UInt8),(0:UInt8),(0:UInt8),(0:UInt8),(0:UInt8),(0:UInt8),(0:UInt8),(0:UInt8),(0:UInt8),(0:UInt8),(0:UInt8),(0:UInt8),(0:UInt8),(0:UInt8),(0:UInt8)]:List UInt8)).bind fun l1=>(some (l1,r_.2))) else ((hash_Tag K key r_.1).bind fun r_1=>(some (r_1,(0:Int)))))
def keys_Tree_Key (K:Nat) (t:S_keys_Tree) (tenant:List UInt8) (name:List UInt8) (version:Int):Option ((List UInt8)×Int) :=
  (keys_Tree_Current K (⟨t.root,t.sealed,t.gone,t.at_⟩:S_keys_Tree) tenant name).bind fun r_=>(if (!decide (r_.2 = (0:Int))) = true then ((some ([(0:UInt8),(0:UInt8),(0:UInt8),(0:UInt8),(0:UInt8),(0:UInt8),(0:UInt8),(0:UInt8),(0:UInt8),(0:UInt8),(0:UInt8),(0:UInt8),(0:UInt8),(0:UInt8),(0:UInt8),(0:UInt8),(0:UInt8),(0:UInt8),(0:UInt8),(0:UInt8),(0:UInt8),(0:UInt8),(0:UInt8),(0:UInt8),(0:UInt8),(0:UInt8),(0:UInt8),(0:UInt8),(0:UInt8),(0:UInt8),(0:UInt8),(0:UInt8)]:List UInt8)).bind fun l1=>(some (l1,r_.2))) else (if ((decide (version<(1:Int)))||(decide (r_.1<version))) = true then ((some ([(0:UInt8),(0:UInt8),(0:UInt8),(0:UInt8),(0:UInt8),(0:UInt8),(0:UInt8),(0:UInt8),(0:UInt8),(0:UInt8),(0:UInt8),(0:UInt8),(0:UInt8),(0:UInt8),(0:UInt8),(0:UInt8),(0:UInt8),(0:UInt8),(0:UInt8),(0:UInt8),(0:UInt8),(0:UInt8),(0:UInt8),(0:UInt8),(0:UInt8),(0:UInt8),(0:UInt8),(0:UInt8),(0:UInt8),(0:UInt8),(0:UInt8),(0:UInt8)]:List UInt8)).bind fun l4=>(some (l4,(2:Int)))) else ((codec_Number K version).bind fun r_1=>((some ([tenant,name,r_1.1]:List (List UInt8))).bind fun l7=>((hash_Derive K t.root l7).bind fun r_2=>(some (r_2.1,r_2.2)))))))
def seal_eight.l1:Nat→(List UInt8)→UInt64→(List UInt8)→Int→Option (List UInt8)
  |0,_,_,_,_=>none
  |k+1,out,n1,out1,x8=>if (decide (x8<(out.length:Int))) = true then ((shc (W ((56:Int) - (W ((8:Int)*x8))))).bind fun k1=>((req (0≤x8∧x8<(out1.length:Int))).bind fun u=>((some (out1.set (x8).toNat ((shr64 n1 (W ((56:Int) - (W ((8:Int)*x8)))).toNat).toUInt8))).bind fun out3=>(seal_eight.l1 k out n1 out3 (W (x8+(1:Int))))))) else (some out1)
def seal_eight (K:Nat) (n1:UInt64):Option (List UInt8) :=
  (some (List.replicate 8 (0:UInt8))).bind fun out=>((seal_eight.l1 K out n1 out (0:Int)).bind fun out2=>(some out2))
def seal_blocks (K:Nat) (key:List UInt8) (once:UInt64):Option ((List UInt8)×UInt64) :=
  some (key,once)
def slices_Grow_byte_byte.j2 (K:Nat) (s1:List UInt8):Option (List UInt8) :=
  some s1
def slices_Grow_byte_byte.j1 (K:Nat) (n1:Int):Option (List UInt8) :=
  if (decide ((0:Int)<W (n1 - (W ((0:Int) - (0:Int)))))) = true then ((sub ([]:List UInt8) (0:Int) (0:Int)).bind fun ys=>(((mks 140737488355328 (0:UInt8) (W (n1 - (W ((0:Int) - (0:Int)))))).bind fun z1=>app 140737488355328 ys z1).bind fun xs=>((sub xs (0:Int) (0:Int)).bind fun ys1=>(slices_Grow_byte_byte.j2 K ys1)))) else (slices_Grow_byte_byte.j2 K ([]:List UInt8))
def slices_Grow_byte_byte (K:Nat) (n1:Int):Option (List UInt8) :=
  if (decide (n1<(0:Int))) = true then (none) else (slices_Grow_byte_byte.j1 K n1)
def slices_Concat_byte_byte.l1:Nat→(List (List UInt8))→Int→Int→Option Int
  |0,_,_,_=>none
  |k+1,slices,size,x11=>if (decide (x11<(slices.length:Int))) = true then ((gt slices x11).bind fun e=>(if (decide (W (size+(e.length:Int))<(0:Int))) = true then (none) else (slices_Concat_byte_byte.l1 k slices (W (size+(e.length:Int))) (W (x11+(1:Int)))))) else (some size)
def slices_Concat_byte_byte.l2:Nat→(List (List UInt8))→(List UInt8)→Int→Option (List UInt8)
  |0,_,_,_=>none
  |k+1,slices,newslice,x27=>if (decide (x27<(slices.length:Int))) = true then ((gt slices x27).bind fun e2=>((app 140737488355328 newslice e2).bind fun newslice2=>(slices_Concat_byte_byte.l2 k slices newslice2 (W (x27+(1:Int)))))) else (some newslice)
def slices_Concat_byte_byte (K:Nat) (slices:List (List UInt8)):Option (List UInt8) :=
  (slices_Concat_byte_byte.l1 K slices (0:Int) (0:Int)).bind fun size1=>((slices_Grow_byte_byte K size1).bind fun r_=>((slices_Concat_byte_byte.l2 K slices r_ (0:Int)).bind fun newslice1=>(some newslice1)))
def seal_blocks_1.l1 {σ:Type} (Y:σ→(List UInt8)→Option (Bool×σ)) (K:Nat):Nat→UInt64→(List UInt8)→σ→UInt64→Option σ
  |0,_,_,_,_=>none
  |k+1,x2,x1,yield1,i=>(some ([(115:UInt8)]:List UInt8)).bind fun l2=>((seal_eight K x2).bind fun r_=>((seal_eight K i).bind fun r_1=>((slices_Concat_byte_byte K ([l2,r_,r_1]:List (List UInt8))).bind fun r_2=>((hash_Tag K x1 r_2).bind fun r_3=>((Y yield1 r_3).bind fun q1=>(if q1.1 = true then (seal_blocks_1.l1 Y K k x2 x1 q1.2 (i+(1:UInt64))) else (some q1.2)))))))
def seal_blocks_1 {σ:Type} (Y:σ→(List UInt8)→Option (Bool×σ)) (K:Nat) (yield:σ) (x1:List UInt8) (x2:UInt64):Option σ :=
  (seal_blocks_1.l1 Y K K x2 x1 yield (0:UInt64)).bind fun yield2=>(some yield2)
def seal_Stream.y1 (K:Nat) (n1:Int) (s:(List UInt8)) (x:(List UInt8)):Option (Option Nat×(List UInt8)) :=
  (fun xs=>if (decide (n1≤(xs.length:Int))) = true then (some (some 1,xs)) else ((app 140737488355328 xs x).bind fun xs1=>(some (none,xs1)))) s
def seal_Stream (K:Nat) (key:List UInt8) (once:UInt64) (n1:Int):Option ((List UInt8)×Int) :=
  if ((decide (n1<(0:Int)))||(decide ((1024:Int)<n1))) = true then (some ([],(2:Int))) else ((seal_blocks K key once).bind fun r_=>((seal_blocks_1 (Yc (seal_Stream.y1 K n1)) K (([]:List UInt8),none) r_.1 r_.2).bind fun q=>((fun xs j=>jm j ((sub xs (0:Int) n1).bind fun ys=>(some (ys,(0:Int)))) (fun j=>if j = 1 then ((sub xs (0:Int) n1).bind fun ys1=>(some (ys1,(0:Int)))) else none)) q.1 q.2)))
def seal_hidden.l1:Nat→(List UInt8)→(List UInt8)→Int→Option (List UInt8)
  |0,_,_,_=>none
  |k+1,b,out,x21=>if (decide (x21<(b.length:Int))) = true then ((gt b x21).bind fun e=>((gt out x21).bind fun e1=>((req (0≤x21∧x21<(out.length:Int))).bind fun u=>((some (out.set (x21).toNat (e1 ^^^ e))).bind fun out2=>(seal_hidden.l1 k b out2 (W (x21+(1:Int)))))))) else (some out)
def seal_hidden (K:Nat) (key:List UInt8) (once:UInt64) (b:List UInt8):Option (List UInt8) :=
  (seal_Stream K key once (b.length:Int)).bind fun r_=>((seal_hidden.l1 K b r_.1 (0:Int)).bind fun out1=>(some out1))
def seal_tagOf (K:Nat) (key:List UInt8) (body:List UInt8):Option (List UInt8) :=
  (some ([(116:UInt8)]:List UInt8)).bind fun l1=>((app 140737488355328 l1 body).bind fun l2=>((hash_Tag K key l2).bind fun r_=>((req (16≤((r_.take 16).drop 0).length)).bind fun u=>(some (((r_.take 16).drop 0).take 16)))))
def seal_Seal (K:Nat) (key:List UInt8) (once:UInt64) (plain:List UInt8):Option ((List UInt8)×Int) :=
  if (decide ((1024:Int)<(plain.length:Int))) = true then (some ([],(6:Int))) else ((seal_eight K once).bind fun r_=>((seal_hidden K key once plain).bind fun r_1=>((app 140737488355328 r_ r_1).bind fun r_2=>((seal_tagOf K key r_2).bind fun r_3=>((app 140737488355328 r_2 r_3).bind fun r_4=>(some (r_4,(0:Int))))))))
def keys_Tree_Seal (K:Nat) (t:S_keys_Tree) (tenant:List UInt8) (name:List UInt8) (plain:List UInt8):Option ((List UInt8)×Int×S_keys_Tree) :=
  (keys_Tree_Current K (⟨t.root,t.sealed,t.gone,t.at_⟩:S_keys_Tree) tenant name).bind fun r_=>(if (!decide (r_.2 = (0:Int))) = true then (some (([]:List UInt8),r_.2,(⟨t.root,t.sealed,t.gone,t.at_⟩:S_keys_Tree))) else ((keys_Tree_Key K (⟨t.root,t.sealed,t.gone,t.at_⟩:S_keys_Tree) tenant name r_.1).bind fun r_1=>((seal_Seal K r_1.1 (iU64 t.sealed) plain).bind fun r_2=>(if (!decide (r_2.2 = (0:Int))) = true then (some (([]:List UInt8),r_2.2,(⟨t.root,t.sealed,t.gone,t.at_⟩:S_keys_Tree))) else (if (decide ((1099511627776:Int)≤t.sealed)) = true then (some (([]:List UInt8),(7:Int),(⟨t.root,t.sealed,t.gone,t.at_⟩:S_keys_Tree))) else ((some ([iU8 r_.1]:List UInt8)).bind fun l3=>((app 140737488355328 l3 r_2.1).bind fun l4=>(some (l4,(0:Int),(⟨t.root,W (t.sealed+(1:Int)),t.gone,t.at_⟩:S_keys_Tree))))))))))
def keys_Tree_Rotate (K:Nat) (t:S_keys_Tree) (tenant:List UInt8) (name:List UInt8):Option (Int×Int×S_keys_Tree) :=
  (keys_Tree_Current K (⟨t.root,t.sealed,t.gone,t.at_⟩:S_keys_Tree) tenant name).bind fun r_=>(if (!decide (r_.2 = (0:Int))) = true then (some ((0:Int),r_.2,(⟨t.root,t.sealed,t.gone,t.at_⟩:S_keys_Tree))) else (if ((decide ((16:Int)≤r_.1))||((decide (r_.1 = (1:Int)))&&(decide ((16:Int)≤(t.at_.length:Int))))) = true then (some ((0:Int),(7:Int),(⟨t.root,t.sealed,t.gone,t.at_⟩:S_keys_Tree))) else ((some (mset t.at_ (⟨tenant,name⟩:S_keys_purpose) (W (r_.1+(1:Int))))).bind fun m=>(some (W (r_.1+(1:Int)),(0:Int),(⟨t.root,t.sealed,t.gone,m⟩:S_keys_Tree))))))
def seal_Size (K:Nat) (plain:Int):Option Int :=
  if ((decide (plain<(0:Int)))||(decide ((1024:Int)<plain))) = true then (some (0:Int)) else (some (W (plain+(24:Int))))
def seal_Open.l1:Nat→(List UInt8)→UInt64→Int→Option UInt64
  |0,_,_,_=>none
  |k+1,ys2,once,x37=>if (decide (x37<(ys2.length:Int))) = true then ((gt ys2 x37).bind fun e=>(seal_Open.l1 k ys2 ((shl64 once 8) ||| e.toUInt64) (W (x37+(1:Int))))) else (some once)
def seal_Open (K:Nat) (key:List UInt8) (sealed:List UInt8):Option ((List UInt8)×UInt64×Int) :=
  (seal_Size K (0:Int)).bind fun r_=>(if (decide ((sealed.length:Int)<r_)) = true then (some ([],(0:UInt64),(3:Int))) else ((seal_Size K (1024:Int)).bind fun r_1=>(if (decide (r_1<(sealed.length:Int))) = true then (some ([],(0:UInt64),(6:Int))) else ((sub sealed (0:Int) (W ((sealed.length:Int) - (16:Int)))).bind fun ys=>((seal_tagOf K key ys).bind fun r_2=>((sub sealed (W ((sealed.length:Int) - (16:Int))) (sealed.length:Int)).bind fun ys1=>((req (16≤ys1.length)).bind fun u=>(if (!decide (r_2 = (ys1.take 16))) = true then (some ([],(0:UInt64),(10:Int))) else ((sub sealed (0:Int) (8:Int)).bind fun ys2=>((seal_Open.l1 K ys2 (0:UInt64) (0:Int)).bind fun once1=>((sub sealed (8:Int) (W ((sealed.length:Int) - (16:Int)))).bind fun ys3=>((seal_hidden K key once1 ys3).bind fun r_3=>(some (r_3,once1,(0:Int)))))))))))))))
def keys_Tree_Open.j1 (K:Nat) (sealed:List UInt8) (t:S_keys_Tree) (tenant:List UInt8) (name:List UInt8) (e1:Int):Option ((List UInt8)×Int×Int) :=
  if (!decide (e1 = (0:Int))) = true then (some (([]:List UInt8),(0:Int),e1)) else ((gt sealed (0:Int)).bind fun e2=>((keys_Tree_Key K (⟨t.root,t.sealed,t.gone,t.at_⟩:S_keys_Tree) tenant name (e2.toNat:Int)).bind fun r_1=>(if (!decide (r_1.2 = (0:Int))) = true then (some (([]:List UInt8),(0:Int),r_1.2)) else ((sub sealed (1:Int) (sealed.length:Int)).bind fun ys1=>((seal_Open K r_1.1 ys1).bind fun r_2=>(if (!decide (r_2.2.2 = (0:Int))) = true then (some (([]:List UInt8),(0:Int),r_2.2.2)) else (some (r_2.1,(e2.toNat:Int),(0:Int)))))))))
def keys_Tree_Open (K:Nat) (t:S_keys_Tree) (tenant:List UInt8) (name:List UInt8) (sealed:List UInt8):Option ((List UInt8)×Int×Int) :=
  (keys_Tree_Current K (⟨t.root,t.sealed,t.gone,t.at_⟩:S_keys_Tree) tenant name).bind fun r_=>(if ((decide (r_.2 = (0:Int)))&&(decide ((sealed.length:Int) = (0:Int)))) = true then (keys_Tree_Open.j1 K sealed t tenant name (3:Int)) else (keys_Tree_Open.j1 K sealed t tenant name r_.2))
def hl09_live (K:Nat):Option Bool :=
  (some ([(1:UInt8),(0:UInt8),(0:UInt8),(0:UInt8),(0:UInt8),(0:UInt8),(0:UInt8),(0:UInt8),(0:UInt8),(0:UInt8),(0:UInt8),(0:UInt8),(0:UInt8),(0:UInt8),(0:UInt8),(0:UInt8),(0:UInt8),(0:UInt8),(0:UInt8),(0:UInt8),(0:UInt8),(0:UInt8),(0:UInt8),(0:UInt8),(0:UInt8),(0:UInt8),(0:UInt8),(0:UInt8),(0:UInt8),(0:UInt8),(0:UInt8),(0:UInt8)]:List UInt8)).bind fun l=>((keys_New K l).bind fun r_=>((some ([(120:UInt8)]:List UInt8)).bind fun l3=>((keys_Tree_Seal K (⟨r_.root,r_.sealed,r_.gone,r_.at_⟩:S_keys_Tree) ([97]:List UInt8) ([109,97,105,108]:List UInt8) l3).bind fun r_1=>((keys_Tree_Rotate K (⟨r_1.2.2.root,r_1.2.2.sealed,r_1.2.2.gone,r_1.2.2.at_⟩:S_keys_Tree) ([97]:List UInt8) ([109,97,105,108]:List UInt8)).bind fun r_2=>((keys_Tree_Open K (⟨r_2.2.2.root,r_2.2.2.sealed,r_2.2.2.gone,r_2.2.2.at_⟩:S_keys_Tree) ([97]:List UInt8) ([109,97,105,108]:List UInt8) r_1.1).bind fun r_3=>(some ((((((decide (r_1.2.1 = (0:Int)))&&(decide (r_2.2.1 = (0:Int))))&&(decide (r_2.1 = (2:Int))))&&(decide (r_3.2.2 = (0:Int))))&&(decide (r_3.2.1 = (1:Int))))&&(decide (r_3.1 = ([120]:List UInt8))))))))))
def keys_number (K:Nat) (n1:Int):Option (List UInt8) :=
  (codec_Number K n1).bind fun r_=>(some r_.1)
def api_Row_41_f42 (K:Nat) (x:List S_api_Row):Option (List S_api_Row):=if x.length<4611686018427387904∧(x.map fun a=>a.Key).Nodup then some (sortS (fun (a b:S_api_Row)=>cmpS a.Key b.Key) x) else none
def keys_Tree_Rows.m1 (K:Nat) (x:(List UInt8)×Bool) (s:(List S_api_Row)):Option (Lr Unit (List S_api_Row)) :=
  (fun k1 u out=>(some ([(⟨k1,([]:List (List UInt8))⟩:S_api_Row)]:List S_api_Row)).bind fun l5=>((app 3518437208883 out l5).bind fun out1=>(some (.go out1)))) x.1 x.2 s
def keys_Tree_Rows.m2 (K:Nat) (x:S_keys_purpose×Int) (s:(List S_api_Row)):Option (Lr Unit (List S_api_Row)) :=
  (fun k2 u1 out2=>(app 9223372036854775807 k2.tenant ([47]:List UInt8)).bind fun t1=>((app 9223372036854775807 t1 k2.name).bind fun t2=>((keys_number K u1).bind fun r_1=>((some ([r_1]:List (List UInt8))).bind fun l8=>((some ([(⟨t2,l8⟩:S_api_Row)]:List S_api_Row)).bind fun l9=>((app 3518437208883 out2 l9).bind fun out3=>(some (.go out3)))))))) x.1 x.2 s
def keys_Tree_Rows (K:Nat) (t:S_keys_Tree):Option (List S_api_Row) :=
  (keys_number K t.sealed).bind fun r_=>((some ([r_]:List (List UInt8))).bind fun l1=>((some ([(⟨([35]:List UInt8),l1⟩:S_api_Row)]:List S_api_Row)).bind fun l2=>(mrngK (keys_Tree_Rows.m1 K:(List UInt8)×Bool→(List S_api_Row)→Option (Lr Unit (List S_api_Row))) t.gone l2 fun q=>(lrc q (fun a=>none) (fun z=>(fun out=>mrngK (keys_Tree_Rows.m2 K:S_keys_purpose×Int→(List S_api_Row)→Option (Lr Unit (List S_api_Row))) t.at_ out fun q1=>(lrc q1 (fun a=>none) (fun z=>(fun out2=>(api_Row_41_f42 K out2).bind fun r_2=>(some r_2)) z))) z)))))
def hr02_SameTexts.l1:Nat→(List (List UInt8))→(List (List UInt8))→Int→Option (Lr Bool Unit)
  |0,_,_,_=>none
  |k+1,a1,b,i=>if (decide (i<(a1.length:Int))) = true then ((gt a1 i).bind fun e=>((gt b i).bind fun e1=>(if (!decide (e = e1)) = true then (some (.ret false)) else (hr02_SameTexts.l1 k a1 b (W (i+(1:Int))))))) else (some (.go ()))
def hr02_SameTexts (K:Nat) (a1:List (List UInt8)) (b:List (List UInt8)):Option Bool :=
  if (!decide ((a1.length:Int) = (b.length:Int))) = true then (some false) else ((hr02_SameTexts.l1 K a1 b (0:Int)).bind fun q=>(lrc q (fun a=>some a) (fun _=>some true)))
def hr06_SameRows.l1 (K:Nat):Nat→(List S_api_Row)→(List S_api_Row)→Int→Option (Lr Bool Unit)
  |0,_,_,_=>none
  |k+1,a1,b,i2=>if (decide (i2<(a1.length:Int))) = true then ((gt a1 i2).bind fun e1=>((gt b i2).bind fun e2=>(if (!decide (e1.Key = e2.Key)) = true then (some (.ret false)) else ((gt a1 i2).bind fun e3=>((gt b i2).bind fun e4=>((hr02_SameTexts K e3.Columns e4.Columns).bind fun r_=>(if (!r_) = true then (some (.ret false)) else (hr06_SameRows.l1 K k a1 b (W (i2+(1:Int))))))))))) else (some (.go ()))
def hr06_SameRows (K:Nat) (a1:List S_api_Row) (b:List S_api_Row):Option Bool :=
  if (!decide ((a1.length:Int) = (b.length:Int))) = true then (some false) else ((hr06_SameRows.l1 K K a1 b (0:Int)).bind fun q=>(lrc q (fun a=>some a) (fun _=>some true)))
def hr01_Copy (K:Nat) (b:List UInt8):Option (List UInt8) :=
  (app 140737488355328 ([]:List UInt8) b).bind fun xs=>(some xs)
def hr09_Tree_Current.l1:Nat→S_hr09_Tree→(List UInt8)→(List UInt8)→Int→Option (Lr (Int×Int) Unit)
  |0,_,_,_,_=>none
  |k+1,t,tenant,purpose,i=>if (decide (i<(t.l.length:Int))) = true then ((gt t.l i).bind fun e1=>((if (decide (e1.tenant = tenant)) = true then ((gt t.l i).bind fun e2=>(some (decide (e2.purpose = purpose)))) else some false).bind fun b1=>(if b1 = true then ((gt t.l i).bind fun e3=>(some (.ret (e3.n,(0:Int))))) else (hr09_Tree_Current.l1 k t tenant purpose (W (i+(1:Int))))))) else (some (.go ()))
def hr09_Tree_Current (K:Nat) (t:S_hr09_Tree) (tenant:List UInt8) (purpose:List UInt8):Option (Int×Int) :=
  (hr02_IsName K tenant).bind fun r_=>((if (!r_) = true then some true else ((hr02_IsName K purpose).bind fun r_1=>(some (!r_1)))).bind fun b=>(if b = true then (some ((0:Int),(8:Int))) else ((hr09_Tree_isGone K (⟨t.root,t.sealed,t.gone,t.l⟩:S_hr09_Tree) tenant).bind fun r_2=>(if r_2 = true then (some ((0:Int),(12:Int))) else ((hr09_Tree_Current.l1 K t tenant purpose (0:Int)).bind fun q=>(lrc q (fun a=>some a) (fun _=>some ((1:Int),(0:Int)))))))))
def hr09_Tree_Rotate.l1:Nat→S_hr09_Tree→(List UInt8)→(List UInt8)→(List S_hr09_version)→Int→Option (List S_hr09_version)
  |0,_,_,_,_,_=>none
  |k+1,t,tenant,purpose,out,i=>if (decide (i<(t.l.length:Int))) = true then ((gt t.l i).bind fun e1=>((if (!decide (e1.tenant = tenant)) = true then some true else ((gt t.l i).bind fun e2=>(some (!decide (e2.purpose = purpose))))).bind fun b=>(if b = true then ((gt t.l i).bind fun e3=>((some ([e3]:List S_hr09_version)).bind fun l2=>((app 3518437208883 out l2).bind fun out2=>(hr09_Tree_Rotate.l1 k t tenant purpose out2 (W (i+(1:Int))))))) else (hr09_Tree_Rotate.l1 k t tenant purpose out (W (i+(1:Int))))))) else (some out)
def hr09_Tree_Rotate (K:Nat) (t:S_hr09_Tree) (tenant:List UInt8) (purpose:List UInt8):Option (Int×Int×S_hr09_Tree) :=
  (hr09_Tree_Current K (⟨t.root,t.sealed,t.gone,t.l⟩:S_hr09_Tree) tenant purpose).bind fun r_=>(if (!decide (r_.2 = (0:Int))) = true then (some ((0:Int),r_.2,(⟨t.root,t.sealed,t.gone,t.l⟩:S_hr09_Tree))) else (if ((decide ((16:Int)≤r_.1))||((decide (r_.1 = (1:Int)))&&(decide ((16:Int)≤(t.l.length:Int))))) = true then (some ((0:Int),(7:Int),(⟨t.root,t.sealed,t.gone,t.l⟩:S_hr09_Tree))) else ((hr09_Tree_Rotate.l1 K t tenant purpose ([]:List S_hr09_version) (0:Int)).bind fun out1=>((some ([(⟨tenant,purpose,W (r_.1+(1:Int))⟩:S_hr09_version)]:List S_hr09_version)).bind fun l3=>((app 3518437208883 out1 l3).bind fun out3=>(some (W (r_.1+(1:Int)),(0:Int),(⟨t.root,t.sealed,t.gone,out3⟩:S_hr09_Tree))))))))
def keys_Tree_Destroy.m1 (K:Nat) (tenant:List UInt8) (x:S_keys_purpose×Int) (s:(List (S_keys_purpose×Int))):Option (Lr Unit (List (S_keys_purpose×Int))) :=
  (fun k1 u x=>if (decide (k1.tenant = tenant)) = true then ((some (mdel x k1)).bind fun m1=>(some (.go m1))) else (some (.go x))) x.1 x.2 s
def keys_Tree_Destroy (K:Nat) (t:S_keys_Tree) (tenant:List UInt8):Option (Int×S_keys_Tree) :=
  (codec_IsName K tenant).bind fun r_=>(if (!r_) = true then (some ((8:Int),(⟨t.root,t.sealed,t.gone,t.at_⟩:S_keys_Tree))) else (if ((mget t.gone tenant).getD false) = true then (some ((12:Int),(⟨t.root,t.sealed,t.gone,t.at_⟩:S_keys_Tree))) else (if (decide ((16:Int)≤(t.gone.length:Int))) = true then (some ((7:Int),(⟨t.root,t.sealed,t.gone,t.at_⟩:S_keys_Tree))) else ((some (mset t.gone tenant true)).bind fun m=>(mrngK (keys_Tree_Destroy.m1 K tenant:S_keys_purpose×Int→(List (S_keys_purpose×Int))→Option (Lr Unit (List (S_keys_purpose×Int)))) t.at_ t.at_ fun q=>(lrc q (fun a=>none) (fun z=>(fun x=>some ((0:Int),(⟨t.root,t.sealed,m,x⟩:S_keys_Tree))) z)))))))
def hr09_Tree_Destroy.l1:Nat→S_hr09_Tree→(List UInt8)→(List S_hr09_version)→Int→Option (List S_hr09_version)
  |0,_,_,_,_=>none
  |k+1,t,tenant,out,i=>if (decide (i<(t.l.length:Int))) = true then ((gt t.l i).bind fun e2=>(if (!decide (e2.tenant = tenant)) = true then ((gt t.l i).bind fun e3=>((some ([e3]:List S_hr09_version)).bind fun l3=>((app 3518437208883 out l3).bind fun out2=>(hr09_Tree_Destroy.l1 k t tenant out2 (W (i+(1:Int))))))) else (hr09_Tree_Destroy.l1 k t tenant out (W (i+(1:Int)))))) else (some out)
def hr09_Tree_Destroy (K:Nat) (t:S_hr09_Tree) (tenant:List UInt8):Option (Int×S_hr09_Tree) :=
  (hr02_IsName K tenant).bind fun r_=>(if (!r_) = true then (some ((8:Int),(⟨t.root,t.sealed,t.gone,t.l⟩:S_hr09_Tree))) else ((hr09_Tree_isGone K (⟨t.root,t.sealed,t.gone,t.l⟩:S_hr09_Tree) tenant).bind fun r_1=>(if r_1 = true then (some ((12:Int),(⟨t.root,t.sealed,t.gone,t.l⟩:S_hr09_Tree))) else (if (decide ((16:Int)≤(t.gone.length:Int))) = true then (some ((7:Int),(⟨t.root,t.sealed,t.gone,t.l⟩:S_hr09_Tree))) else ((some ([tenant]:List (List UInt8))).bind fun l1=>((app 8796093022208 t.gone l1).bind fun xs=>((hr09_Tree_Destroy.l1 K t tenant ([]:List S_hr09_version) (0:Int)).bind fun out1=>(some ((0:Int),(⟨t.root,t.sealed,xs,out1⟩:S_hr09_Tree))))))))))
def hr02_digit (K:Nat) (n1:Int):Option UInt8 :=
  (gt ([48,49,50,51,52,53,54,55,56,57,97,98,99,100,101,102]:List UInt8) n1).bind fun e=>(some e)
def hr02_Number.l1 (K:Nat):Nat→Int→(List UInt8)→Int→Option ((List UInt8)×Int)
  |0,_,_,_=>none
  |k+1,n2,s,k1=>if (decide ((0:Int)<n2)) = true then ((hr02_digit K (n2.tmod (16:Int))).bind fun r_=>((some ([r_]:List UInt8)).bind fun l1=>((app 9223372036854775807 l1 s).bind fun t=>(hr02_Number.l1 K k (W (n2.tdiv (16:Int))) t (W (k1+(1:Int))))))) else (some (s,k1))
def hr02_Number (K:Nat) (n1:Int):Option ((List UInt8)×Int) :=
  if ((decide (n1<(0:Int)))||(decide ((4611686018427387904:Int)<n1))) = true then (some (([]:List UInt8),(2:Int))) else ((hr02_Number.l1 K K n1 ([]:List UInt8) (0:Int)).bind fun q=>((fun s1 k2=>(some ([iU8 (W ((97:Int)+k2))]:List UInt8)).bind fun l2=>((app 9223372036854775807 l2 s1).bind fun t1=>(some (t1,(0:Int))))) q.1 q.2))
def hr02_Key.l2:Nat→(List (List UInt8))→Int→(List UInt8)→Int→Option (List UInt8)
  |0,_,_,_,_=>none
  |k+1,parts,i,out2,k1=>(gt parts i).bind fun e1=>(if (decide (k1<(e1.length:Int))) = true then ((gt parts i).bind fun e2=>((gt e2 k1).bind fun e3=>((some ([e3]:List UInt8)).bind fun l2=>((app 140737488355328 out2 l2).bind fun out4=>((gt parts i).bind fun e4=>((gt e4 k1).bind fun e5=>(if (decide (e5 = (0:UInt8))) = true then ((some ([(255:UInt8)]:List UInt8)).bind fun l3=>((app 140737488355328 out4 l3).bind fun out5=>(hr02_Key.l2 k parts i out5 (W (k1+(1:Int)))))) else (hr02_Key.l2 k parts i out4 (W (k1+(1:Int))))))))))) else (some out2))
def hr02_Key.l1 (K:Nat):Nat→(List (List UInt8))→(List UInt8)→Int→Option (Lr ((List UInt8)×Int) (List UInt8))
  |0,_,_,_=>none
  |k+1,parts,out,i=>if (decide (i<(parts.length:Int))) = true then ((gt parts i).bind fun e=>(if (decide ((64:Int)<(e.length:Int))) = true then (some (.ret ([],(6:Int)))) else ((hr02_Key.l2 K parts i out (0:Int)).bind fun out3=>((some ([(0:UInt8),(1:UInt8)]:List UInt8)).bind fun l4=>((app 140737488355328 out3 l4).bind fun out6=>(hr02_Key.l1 K k parts out6 (W (i+(1:Int))))))))) else (some (.go out))
def hr02_Key (K:Nat) (parts:List (List UInt8)):Option ((List UInt8)×Int) :=
  if ((decide ((parts.length:Int)<(1:Int)))||(decide ((8:Int)<(parts.length:Int)))) = true then (some ([],(2:Int))) else ((hr02_Key.l1 K K parts ([]:List UInt8) (0:Int)).bind fun q=>(lrc q (fun a=>some a) (fun out1=>if (decide ((64:Int)<(out1.length:Int))) = true then (some ([],(6:Int))) else (some (out1,(0:Int))))))
def hr07_bytesOf.l1:Nat→(List UInt8)→(List UInt8)→Int→Option (List UInt8)
  |0,_,_,_=>none
  |k+1,h,out,i=>if (decide (i<(32:Int))) = true then ((gt h i).bind fun e=>((some ([e]:List UInt8)).bind fun l2=>((app 140737488355328 out l2).bind fun out2=>(hr07_bytesOf.l1 k h out2 (W (i+(1:Int))))))) else (some out)
def hr07_bytesOf (K:Nat) (h:List UInt8):Option (List UInt8) :=
  (hr07_bytesOf.l1 K h ([]:List UInt8) (0:Int)).bind fun out1=>(some out1)
def hr07_constants (K:Nat):Option (List UInt32) :=
  (some ([(1116352408:UInt32),(1899447441:UInt32),(3049323471:UInt32),(3921009573:UInt32),(961987163:UInt32),(1508970993:UInt32),(2453635748:UInt32),(2870763221:UInt32),(3624381080:UInt32),(310598401:UInt32),(607225278:UInt32),(1426881987:UInt32),(1925078388:UInt32),(2162078206:UInt32),(2614888103:UInt32),(3248222580:UInt32),(3835390401:UInt32),(4022224774:UInt32),(264347078:UInt32),(604807628:UInt32),(770255983:UInt32),(1249150122:UInt32),(1555081692:UInt32),(1996064986:UInt32),(2554220882:UInt32),(2821834349:UInt32),(2952996808:UInt32),(3210313671:UInt32),(3336571891:UInt32),(3584528711:UInt32),(113926993:UInt32),(338241895:UInt32),(666307205:UInt32),(773529912:UInt32),(1294757372:UInt32),(1396182291:UInt32),(1695183700:UInt32),(1986661051:UInt32),(2177026350:UInt32),(2456956037:UInt32),(2730485921:UInt32),(2820302411:UInt32),(3259730800:UInt32),(3345764771:UInt32),(3516065817:UInt32),(3600352804:UInt32),(4094571909:UInt32),(275423344:UInt32),(430227734:UInt32),(506948616:UInt32),(659060556:UInt32),(883997877:UInt32),(958139571:UInt32),(1322822218:UInt32),(1537002063:UInt32),(1747873779:UInt32),(1955562222:UInt32),(2024104815:UInt32),(2227730452:UInt32),(2361852424:UInt32),(2428436474:UInt32),(2756734187:UInt32),(3204031479:UInt32),(3329325298:UInt32)]:List UInt32)).bind fun l1=>(some l1)
def hr07_turn (K:Nat) (x:UInt32) (n1:Int):Option UInt32 :=
  (shc n1).bind fun k1=>((shc (W ((32:Int) - n1))).bind fun k2=>(some ((shr32 x (n1).toNat) ||| (shl32 x (W ((32:Int) - n1)).toNat))))
def hr07_Sum.l1:Nat→(List UInt8)→Option (List UInt8)
  |0,_=>none
  |k+1,m=>if (!decide ((m.length:Int).tmod (64:Int) = (56:Int))) = true then ((some ([(0:UInt8)]:List UInt8)).bind fun l3=>((app 140737488355328 m l3).bind fun m2=>(hr07_Sum.l1 k m2))) else (some m)
def hr07_Sum.l2:Nat→(List UInt8)→(List UInt8)→Int→Option (List UInt8)
  |0,_,_,_=>none
  |k+1,b,m3,i=>if (decide (i<(8:Int))) = true then ((shc (W ((56:Int) - (W ((8:Int)*i))))).bind fun k1=>((some ([(shr64 ((iU64 (b.length:Int))*(8:UInt64)) (W ((56:Int) - (W ((8:Int)*i)))).toNat).toUInt8]:List UInt8)).bind fun l5=>((app 140737488355328 m3 l5).bind fun m5=>(hr07_Sum.l2 k b m5 (W (i+(1:Int))))))) else (some m3)
def hr07_Sum.l5:Nat→Int→(List UInt8)→Int→(List UInt32)→Int→Option (List UInt32)
  |0,_,_,_,_,_=>none
  |k+1,i1,m4,at_,w_22,j=>if (decide (j<(4:Int))) = true then ((gt w_22 i1).bind fun e=>((gt m4 (W ((W (at_+(W ((4:Int)*i1))))+j))).bind fun e1=>((req (0≤i1∧i1<(w_22.length:Int))).bind fun u=>((some (w_22.set (i1).toNat ((shl32 e 8) ||| e1.toUInt32))).bind fun w_45=>(hr07_Sum.l5 k i1 m4 at_ w_45 (W (j+(1:Int)))))))) else (some w_22)
def hr07_Sum.l4 (K:Nat):Nat→(List UInt8)→Int→(List UInt32)→Int→Option (List UInt32)
  |0,_,_,_,_=>none
  |k+1,m4,at_,w_18,i1=>if (decide (i1<(16:Int))) = true then ((hr07_Sum.l5 K i1 m4 at_ w_18 (0:Int)).bind fun w_23=>(hr07_Sum.l4 K k m4 at_ w_23 (W (i1+(1:Int))))) else (some w_18)
def hr07_Sum.l6 (K:Nat):Nat→(List UInt32)→Int→Option (List UInt32)
  |0,_,_=>none
  |k+1,w_47,i2=>if (decide (i2<(64:Int))) = true then ((gt w_47 (W (i2 - (15:Int)))).bind fun e2=>((gt w_47 (W (i2 - (2:Int)))).bind fun e3=>((gt w_47 (W (i2 - (16:Int)))).bind fun e4=>((hr07_turn K e2 (7:Int)).bind fun r_1=>((hr07_turn K e2 (18:Int)).bind fun r_2=>((gt w_47 (W (i2 - (7:Int)))).bind fun e5=>((hr07_turn K e3 (17:Int)).bind fun r_3=>((hr07_turn K e3 (19:Int)).bind fun r_4=>((req (0≤i2∧i2<(w_47.length:Int))).bind fun u1=>((some (w_47.set (i2).toNat (((e4+((r_1 ^^^ r_2) ^^^ (shr32 e2 3)))+e5)+((r_3 ^^^ r_4) ^^^ (shr32 e3 10))))).bind fun w_95=>(hr07_Sum.l6 K k w_95 (W (i2+(1:Int)))))))))))))) else (some w_47)
def hr07_Sum.l7 (K:Nat):Nat→(List UInt32)→(List UInt32)→(List UInt32)→Int→Option (List UInt32)
  |0,_,_,_,_=>none
  |k+1,r_,w_48,v_16,i3=>if (decide (i3<(64:Int))) = true then ((gt v_16 (4:Int)).bind fun e6=>((hr07_turn K e6 (6:Int)).bind fun r_5=>((gt v_16 (4:Int)).bind fun e7=>((hr07_turn K e7 (11:Int)).bind fun r_6=>((gt v_16 (4:Int)).bind fun e8=>((hr07_turn K e8 (25:Int)).bind fun r_7=>((gt v_16 (4:Int)).bind fun e9=>((gt v_16 (5:Int)).bind fun e10=>((gt v_16 (4:Int)).bind fun e11=>((gt v_16 (6:Int)).bind fun e12=>((gt v_16 (7:Int)).bind fun e13=>((gt r_ i3).bind fun e14=>((gt w_48 i3).bind fun e15=>((gt v_16 (0:Int)).bind fun e16=>((hr07_turn K e16 (2:Int)).bind fun r_8=>((gt v_16 (0:Int)).bind fun e17=>((hr07_turn K e17 (13:Int)).bind fun r_9=>((gt v_16 (0:Int)).bind fun e18=>((hr07_turn K e18 (22:Int)).bind fun r_10=>((gt v_16 (0:Int)).bind fun e19=>((gt v_16 (1:Int)).bind fun e20=>((gt v_16 (0:Int)).bind fun e21=>((gt v_16 (2:Int)).bind fun e22=>((gt v_16 (1:Int)).bind fun e23=>((gt v_16 (2:Int)).bind fun e24=>((gt v_16 (0:Int)).bind fun e25=>((gt v_16 (1:Int)).bind fun e26=>((gt v_16 (2:Int)).bind fun e27=>((gt v_16 (3:Int)).bind fun e28=>((gt v_16 (4:Int)).bind fun e29=>((gt v_16 (5:Int)).bind fun e30=>((gt v_16 (6:Int)).bind fun e31=>((some ([(((((e13+((r_5 ^^^ r_6) ^^^ r_7))+((e9 &&& e10) ^^^ ((~~~e11) &&& e12)))+e14)+e15)+((r_8 ^^^ r_9) ^^^ r_10))+(((e19 &&& e20) ^^^ (e21 &&& e22)) ^^^ (e23 &&& e24)),e25,e26,e27,e28+((((e13+((r_5 ^^^ r_6) ^^^ r_7))+((e9 &&& e10) ^^^ ((~~~e11) &&& e12)))+e14)+e15),e29,e30,e31]:List UInt32)).bind fun l11=>(hr07_Sum.l7 K k r_ w_48 l11 (W (i3+(1:Int))))))))))))))))))))))))))))))))))))) else (some v_16)
def hr07_Sum.l8:Nat→(List UInt32)→(List UInt32)→Int→Option (List UInt32)
  |0,_,_,_=>none
  |k+1,v_18,h155,i4=>if (decide (i4<(8:Int))) = true then ((gt h155 i4).bind fun e32=>((gt v_18 i4).bind fun e33=>((req (0≤i4∧i4<(h155.length:Int))).bind fun u2=>((some (h155.set (i4).toNat (e32+e33))).bind fun h171=>(hr07_Sum.l8 k v_18 h171 (W (i4+(1:Int)))))))) else (some h155)
def hr07_Sum.l3 (K:Nat):Nat→(List UInt8)→(List UInt32)→(List UInt32)→Int→Option (List UInt32)
  |0,_,_,_,_=>none
  |k+1,m4,r_,h20,at_=>if (decide (at_<(m4.length:Int))) = true then ((some (List.replicate 64 (0:UInt32))).bind fun w_16=>((hr07_Sum.l4 K K m4 at_ w_16 (0:Int)).bind fun w_19=>((hr07_Sum.l6 K K w_19 (16:Int)).bind fun w_48=>((app 35184372088832 ([]:List UInt32) h20).bind fun xs2=>((hr07_Sum.l7 K K r_ w_48 xs2 (0:Int)).bind fun v_18=>((hr07_Sum.l8 K v_18 h20 (0:Int)).bind fun h156=>(hr07_Sum.l3 K k m4 r_ h156 (W (at_+(64:Int)))))))))) else (some h20)
def hr07_Sum.l9:Nat→(List UInt32)→(List UInt8)→Int→Option (List UInt8)
  |0,_,_,_=>none
  |k+1,h21,xs3,i5=>if (decide (i5<(32:Int))) = true then ((gt h21 (W (i5.tdiv (4:Int)))).bind fun e34=>((shc (W ((24:Int) - (W ((8:Int)*(i5.tmod (4:Int))))))).bind fun k2=>((req (0≤i5∧i5<(xs3.length:Int))).bind fun u3=>((some (xs3.set (i5).toNat ((shr32 e34 (W ((24:Int) - (W ((8:Int)*(i5.tmod (4:Int)))))).toNat).toUInt8))).bind fun xs5=>(hr07_Sum.l9 k h21 xs5 (W (i5+(1:Int)))))))) else (some xs3)
def hr07_Sum (K:Nat) (b:List UInt8):Option (List UInt8) :=
  (some ([(1779033703:UInt32),(3144134277:UInt32),(1013904242:UInt32),(2773480762:UInt32),(1359893119:UInt32),(2600822924:UInt32),(528734635:UInt32),(1541459225:UInt32)]:List UInt32)).bind fun l1=>((hr07_constants K).bind fun r_=>((app 140737488355328 ([]:List UInt8) b).bind fun xs=>((some ([(128:UInt8)]:List UInt8)).bind fun l2=>((app 140737488355328 xs l2).bind fun xs1=>((hr07_Sum.l1 K xs1).bind fun m1=>((hr07_Sum.l2 K b m1 (0:Int)).bind fun m4=>((hr07_Sum.l3 K K m4 r_ l1 (0:Int)).bind fun h21=>((hr07_Sum.l9 K h21 (List.replicate 32 (0:UInt8)) (0:Int)).bind fun xs4=>(some xs4)))))))))
def hr07_Tag.l1:Nat→(List UInt8)→Option (List UInt8)
  |0,_=>none
  |k+1,k2=>if (decide ((k2.length:Int)<(64:Int))) = true then ((some ([(0:UInt8)]:List UInt8)).bind fun l2=>((app 140737488355328 k2 l2).bind fun k4=>(hr07_Tag.l1 k k4))) else (some k2)
def hr07_Tag.l2:Nat→(List UInt8)→(List UInt8)→(List UInt8)→Int→Option ((List UInt8)×(List UInt8))
  |0,_,_,_,_=>none
  |k+1,k3,in_,out,i=>if (decide (i<(64:Int))) = true then ((gt k3 i).bind fun e=>((some ([e ^^^ (54:UInt8)]:List UInt8)).bind fun l4=>((app 140737488355328 in_ l4).bind fun in_2=>((gt k3 i).bind fun e1=>((some ([e1 ^^^ (92:UInt8)]:List UInt8)).bind fun l5=>((app 140737488355328 out l5).bind fun out2=>(hr07_Tag.l2 k k3 in_2 out2 (W (i+(1:Int)))))))))) else (some (in_,out))
def hr07_Tag.j1 (K:Nat) (b:List UInt8) (k1:List UInt8):Option (List UInt8) :=
  (hr07_Tag.l1 K k1).bind fun k3=>((hr07_Tag.l2 K k3 ([]:List UInt8) ([]:List UInt8) (0:Int)).bind fun q1=>((fun in_1 out1=>(app 140737488355328 in_1 b).bind fun in_3=>((hr07_Sum K in_3).bind fun r_2=>((hr07_bytesOf K r_2).bind fun r_3=>((app 140737488355328 out1 r_3).bind fun out3=>((hr07_Sum K out3).bind fun r_4=>(some r_4)))))) q1.1 q1.2))
def hr07_Tag (K:Nat) (key:List UInt8) (b:List UInt8):Option (List UInt8) :=
  (app 140737488355328 ([]:List UInt8) key).bind fun xs=>(if (decide ((64:Int)<(xs.length:Int))) = true then ((hr07_Sum K key).bind fun r_=>((hr07_bytesOf K r_).bind fun r_1=>(hr07_Tag.j1 K b r_1))) else (hr07_Tag.j1 K b xs))
def hr07_Derive (K:Nat) (key:List UInt8) (labels:List (List UInt8)):Option ((List UInt8)×Int) :=
  (hr02_Key K labels).bind fun r_=>(if (!decide (r_.2 = (0:Int))) = true then ((some ([(0:UInt8),(0:UInt8),(0:UInt8),(0:UInt8),(0:UInt8),(0:UInt8),(0:UInt8),(0:UInt8),(0:UInt8),(0:UInt8),(0:UInt8),(0:UInt8),(0:UInt8),(0:UInt8),(0:UInt8),(0:UInt8),(0:UInt8),(0:UInt8),(0:UInt8),(0:UInt8),(0:UInt8),(0:UInt8),(0:UInt8),(0:UInt8),(0:UInt8),(0:UInt8),(0:UInt8),(0:UInt8),(0:UInt8),(0:UInt8),(0:UInt8),(0:UInt8)]:List UInt8)).bind fun l1=>(some (l1,r_.2))) else ((hr07_bytesOf K key).bind fun r_1=>((hr07_Tag K r_1 r_.1).bind fun r_2=>(some (r_2,(0:Int))))))
def hr09_Tree_Key (K:Nat) (t:S_hr09_Tree) (tenant:List UInt8) (purpose:List UInt8) (n1:Int):Option ((List UInt8)×Int) :=
  (hr09_Tree_Current K (⟨t.root,t.sealed,t.gone,t.l⟩:S_hr09_Tree) tenant purpose).bind fun r_=>(if (!decide (r_.2 = (0:Int))) = true then ((some ([(0:UInt8),(0:UInt8),(0:UInt8),(0:UInt8),(0:UInt8),(0:UInt8),(0:UInt8),(0:UInt8),(0:UInt8),(0:UInt8),(0:UInt8),(0:UInt8),(0:UInt8),(0:UInt8),(0:UInt8),(0:UInt8),(0:UInt8),(0:UInt8),(0:UInt8),(0:UInt8),(0:UInt8),(0:UInt8),(0:UInt8),(0:UInt8),(0:UInt8),(0:UInt8),(0:UInt8),(0:UInt8),(0:UInt8),(0:UInt8),(0:UInt8),(0:UInt8)]:List UInt8)).bind fun l1=>(some (l1,r_.2))) else (if ((decide (n1<(1:Int)))||(decide (r_.1<n1))) = true then ((some ([(0:UInt8),(0:UInt8),(0:UInt8),(0:UInt8),(0:UInt8),(0:UInt8),(0:UInt8),(0:UInt8),(0:UInt8),(0:UInt8),(0:UInt8),(0:UInt8),(0:UInt8),(0:UInt8),(0:UInt8),(0:UInt8),(0:UInt8),(0:UInt8),(0:UInt8),(0:UInt8),(0:UInt8),(0:UInt8),(0:UInt8),(0:UInt8),(0:UInt8),(0:UInt8),(0:UInt8),(0:UInt8),(0:UInt8),(0:UInt8),(0:UInt8),(0:UInt8)]:List UInt8)).bind fun l4=>(some (l4,(2:Int)))) else ((hr02_Number K n1).bind fun r_1=>((some ([tenant,purpose,r_1.1]:List (List UInt8))).bind fun l7=>((hr07_Derive K t.root l7).bind fun r_2=>(some (r_2.1,r_2.2)))))))
def hr08_eight.l1:Nat→UInt64→(List UInt8)→Int→Option (List UInt8)
  |0,_,_,_=>none
  |k+1,n1,out,i=>if (decide (i<(8:Int))) = true then ((shc (W ((56:Int) - (W ((8:Int)*i))))).bind fun k1=>((some ([(shr64 n1 (W ((56:Int) - (W ((8:Int)*i)))).toNat).toUInt8]:List UInt8)).bind fun l1=>((app 140737488355328 out l1).bind fun out2=>(hr08_eight.l1 k n1 out2 (W (i+(1:Int))))))) else (some out)
def hr08_eight (K:Nat) (n1:UInt64):Option (List UInt8) :=
  (hr08_eight.l1 K n1 ([]:List UInt8) (0:Int)).bind fun out1=>(some out1)
def hr07_Bytes (K:Nat) (h:List UInt8):Option (List UInt8) :=
  (hr07_bytesOf K h).bind fun r_=>(some r_)
def hr08_Stream.l1 (K:Nat):Nat→Int→UInt64→(List UInt8)→(List UInt8)→Int→Option (List UInt8)
  |0,_,_,_,_,_=>none
  |k+1,n1,once,key,out,i=>if (decide ((out.length:Int)<n1)) = true then ((some ([(115:UInt8)]:List UInt8)).bind fun l2=>((hr08_eight K once).bind fun r_=>((app 140737488355328 l2 r_).bind fun l3=>((hr08_eight K (iU64 i)).bind fun r_1=>((app 140737488355328 l3 r_1).bind fun l4=>((hr07_Bytes K key).bind fun r_2=>((hr07_Tag K r_2 l4).bind fun r_3=>((hr07_Bytes K r_3).bind fun r_4=>((app 140737488355328 out r_4).bind fun out2=>(hr08_Stream.l1 K k n1 once key out2 (W (i+(1:Int))))))))))))) else (some out)
def hr08_Stream (K:Nat) (key:List UInt8) (once:UInt64) (n1:Int):Option ((List UInt8)×Int) :=
  if ((decide (n1<(0:Int)))||(decide ((1024:Int)<n1))) = true then (some ([],(2:Int))) else ((hr08_Stream.l1 K K n1 once key ([]:List UInt8) (0:Int)).bind fun out1=>((sub out1 (0:Int) n1).bind fun ys=>(some (ys,(0:Int)))))
def hr08_Tag (K:Nat) (key:List UInt8) (body:List UInt8):Option (List UInt8) :=
  (some ([(116:UInt8)]:List UInt8)).bind fun l1=>((app 140737488355328 l1 body).bind fun l2=>((hr07_Bytes K key).bind fun r_=>((hr07_Tag K r_ l2).bind fun r_1=>((hr07_Bytes K r_1).bind fun r_2=>((sub r_2 (0:Int) (16:Int)).bind fun ys=>(some ys))))))
def hr08_Seal.l1:Nat→(List UInt8)→((List UInt8)×Int)→(List UInt8)→Int→Option (List UInt8)
  |0,_,_,_,_=>none
  |k+1,plain,r_,out,i=>if (decide (i<(plain.length:Int))) = true then ((gt plain i).bind fun e=>((gt r_.1 i).bind fun e1=>((some ([e ^^^ e1]:List UInt8)).bind fun l2=>((app 140737488355328 out l2).bind fun out2=>(hr08_Seal.l1 k plain r_ out2 (W (i+(1:Int)))))))) else (some out)
def hr08_Seal (K:Nat) (key:List UInt8) (once:UInt64) (plain:List UInt8):Option ((List UInt8)×Int) :=
  (hr08_Stream K key once (plain.length:Int)).bind fun r_=>(if (!decide (r_.2 = (0:Int))) = true then (some ([],(6:Int))) else ((hr08_eight K once).bind fun r_1=>((hr08_Seal.l1 K plain r_ r_1 (0:Int)).bind fun out1=>((hr08_Tag K key out1).bind fun r_2=>((app 140737488355328 out1 r_2).bind fun out3=>(some (out3,(0:Int))))))))
def hr09_Tree_Seal (K:Nat) (t:S_hr09_Tree) (tenant:List UInt8) (purpose:List UInt8) (plain:List UInt8):Option ((List UInt8)×Int×S_hr09_Tree) :=
  (hr09_Tree_Current K (⟨t.root,t.sealed,t.gone,t.l⟩:S_hr09_Tree) tenant purpose).bind fun r_=>(if (!decide (r_.2 = (0:Int))) = true then (some (([]:List UInt8),r_.2,(⟨t.root,t.sealed,t.gone,t.l⟩:S_hr09_Tree))) else ((hr09_Tree_Key K (⟨t.root,t.sealed,t.gone,t.l⟩:S_hr09_Tree) tenant purpose r_.1).bind fun r_1=>((hr08_Seal K r_1.1 (iU64 t.sealed) plain).bind fun r_2=>(if (!decide (r_2.2 = (0:Int))) = true then (some (([]:List UInt8),r_2.2,(⟨t.root,t.sealed,t.gone,t.l⟩:S_hr09_Tree))) else (if (decide ((1099511627776:Int)≤t.sealed)) = true then (some (([]:List UInt8),(7:Int),(⟨t.root,t.sealed,t.gone,t.l⟩:S_hr09_Tree))) else ((some ([iU8 r_.1]:List UInt8)).bind fun l3=>((app 140737488355328 l3 r_2.1).bind fun l4=>(some (l4,(0:Int),(⟨t.root,W (t.sealed+(1:Int)),t.gone,t.l⟩:S_hr09_Tree))))))))))
def hr01_SameBytes.l1:Nat→(List UInt8)→(List UInt8)→Int→Option (Lr Bool Unit)
  |0,_,_,_=>none
  |k+1,a1,b,i=>if (decide (i<(a1.length:Int))) = true then ((gt a1 i).bind fun e=>((gt b i).bind fun e1=>(if (!decide (e = e1)) = true then (some (.ret false)) else (hr01_SameBytes.l1 k a1 b (W (i+(1:Int))))))) else (some (.go ()))
def hr01_SameBytes (K:Nat) (a1:List UInt8) (b:List UInt8):Option Bool :=
  if (!decide ((a1.length:Int) = (b.length:Int))) = true then (some false) else ((hr01_SameBytes.l1 K a1 b (0:Int)).bind fun q=>(lrc q (fun a=>some a) (fun _=>some true)))
def hr08_Open.l1:Nat→(List UInt8)→UInt64→Int→Option UInt64
  |0,_,_,_=>none
  |k+1,sealed,once,i=>if (decide (i<(8:Int))) = true then ((gt sealed i).bind fun e=>(hr08_Open.l1 k sealed ((shl64 once 8) ||| e.toUInt64) (W (i+(1:Int))))) else (some once)
def hr08_Open.l2:Nat→(List UInt8)→((List UInt8)×Int)→(List UInt8)→Int→Option (List UInt8)
  |0,_,_,_,_=>none
  |k+1,sealed,r_2,out,i1=>if (decide (i1<W ((sealed.length:Int) - (24:Int)))) = true then ((gt sealed (W ((8:Int)+i1))).bind fun e1=>((gt r_2.1 i1).bind fun e2=>((some ([e1 ^^^ e2]:List UInt8)).bind fun l3=>((app 140737488355328 out l3).bind fun out2=>(hr08_Open.l2 k sealed r_2 out2 (W (i1+(1:Int)))))))) else (some out)
def hr08_Open (K:Nat) (key:List UInt8) (sealed:List UInt8):Option ((List UInt8)×UInt64×Int) :=
  if (decide ((sealed.length:Int)<(24:Int))) = true then (some ([],(0:UInt64),(3:Int))) else (if (decide ((1048:Int)<(sealed.length:Int))) = true then (some ([],(0:UInt64),(6:Int))) else ((sub sealed (0:Int) (W ((sealed.length:Int) - (16:Int)))).bind fun ys=>((hr08_Tag K key ys).bind fun r_=>((sub sealed (W ((sealed.length:Int) - (16:Int))) (sealed.length:Int)).bind fun ys1=>((hr01_SameBytes K r_ ys1).bind fun r_1=>(if (!r_1) = true then (some ([],(0:UInt64),(10:Int))) else ((hr08_Open.l1 K sealed (0:UInt64) (0:Int)).bind fun once1=>((hr08_Stream K key once1 (W ((sealed.length:Int) - (24:Int)))).bind fun r_2=>((hr08_Open.l2 K sealed r_2 ([]:List UInt8) (0:Int)).bind fun out1=>(some (out1,once1,(0:Int))))))))))))
def hr09_Tree_Open (K:Nat) (t:S_hr09_Tree) (tenant:List UInt8) (purpose:List UInt8) (sealed:List UInt8):Option ((List UInt8)×Int×Int) :=
  (hr09_Tree_Current K (⟨t.root,t.sealed,t.gone,t.l⟩:S_hr09_Tree) tenant purpose).bind fun r_=>(if (!decide (r_.2 = (0:Int))) = true then (some (([]:List UInt8),(0:Int),r_.2)) else (if (decide ((sealed.length:Int) = (0:Int))) = true then (some (([]:List UInt8),(0:Int),(3:Int))) else ((gt sealed (0:Int)).bind fun e1=>((hr09_Tree_Key K (⟨t.root,t.sealed,t.gone,t.l⟩:S_hr09_Tree) tenant purpose (e1.toNat:Int)).bind fun r_1=>(if (!decide (r_1.2 = (0:Int))) = true then (some (([]:List UInt8),(0:Int),r_1.2)) else ((sub sealed (1:Int) (sealed.length:Int)).bind fun ys1=>((hr08_Open K r_1.1 ys1).bind fun r_2=>(if (!decide (r_2.2.2 = (0:Int))) = true then (some (([]:List UInt8),(0:Int),r_2.2.2)) else ((gt sealed (0:Int)).bind fun e2=>(some (r_2.1,(e2.toNat:Int),(0:Int))))))))))))
def keys_Tree_Reseal (K:Nat) (t:S_keys_Tree) (tenant:List UInt8) (name:List UInt8) (sealed:List UInt8):Option ((List UInt8)×Bool×Int×S_keys_Tree) :=
  (keys_Tree_Open K (⟨t.root,t.sealed,t.gone,t.at_⟩:S_keys_Tree) tenant name sealed).bind fun r_=>(if (!decide (r_.2.2 = (0:Int))) = true then (some (([]:List UInt8),false,r_.2.2,(⟨t.root,t.sealed,t.gone,t.at_⟩:S_keys_Tree))) else ((keys_Tree_Current K (⟨t.root,t.sealed,t.gone,t.at_⟩:S_keys_Tree) tenant name).bind fun r_1=>(if (decide (r_1.1 = r_.2.1)) = true then ((bytes_Clone K sealed).bind fun r_2=>(some (r_2,false,(0:Int),(⟨t.root,t.sealed,t.gone,t.at_⟩:S_keys_Tree)))) else ((keys_Tree_Seal K (⟨t.root,t.sealed,t.gone,t.at_⟩:S_keys_Tree) tenant name r_.1).bind fun r_3=>(some (r_3.1,decide (r_3.2.1 = (0:Int)),r_3.2.1,(⟨r_3.2.2.root,r_3.2.2.sealed,r_3.2.2.gone,r_3.2.2.at_⟩:S_keys_Tree)))))))
def hr09_Tree_Reseal (K:Nat) (t:S_hr09_Tree) (tenant:List UInt8) (purpose:List UInt8) (sealed:List UInt8):Option ((List UInt8)×Bool×Int×S_hr09_Tree) :=
  (hr09_Tree_Open K (⟨t.root,t.sealed,t.gone,t.l⟩:S_hr09_Tree) tenant purpose sealed).bind fun r_=>(if (!decide (r_.2.2 = (0:Int))) = true then (some (([]:List UInt8),false,r_.2.2,(⟨t.root,t.sealed,t.gone,t.l⟩:S_hr09_Tree))) else ((hr09_Tree_Current K (⟨t.root,t.sealed,t.gone,t.l⟩:S_hr09_Tree) tenant purpose).bind fun r_1=>(if (decide (r_1.1 = r_.2.1)) = true then ((app 140737488355328 ([]:List UInt8) sealed).bind fun xs=>(some (xs,false,(0:Int),(⟨t.root,t.sealed,t.gone,t.l⟩:S_hr09_Tree)))) else ((hr09_Tree_Seal K (⟨t.root,t.sealed,t.gone,t.l⟩:S_hr09_Tree) tenant purpose r_.1).bind fun r_2=>(some (r_2.1,decide (r_2.2.1 = (0:Int)),r_2.2.1,(⟨r_2.2.2.root,r_2.2.2.sealed,r_2.2.2.gone,r_2.2.2.l⟩:S_hr09_Tree)))))))
def hl09_play.j1 (K:Nat) (lk1:List UInt8→Int→List ((List UInt8)×Bool)→List (S_keys_purpose×Int)→List UInt8→Int→List (List UInt8)→List S_hr09_version→List UInt8→Int→Option (Lr (Bool×S_keys_Tree×S_hr09_Tree) ((List UInt8)×Int×(List ((List UInt8)×Bool))×(List (S_keys_purpose×Int))×(List UInt8)×Int×(List (List UInt8))×(List S_hr09_version)))) (e1:S_hl09_Deed) (x:List UInt8) (x1:Int) (x2:List ((List UInt8)×Bool)) (x3:List (S_keys_purpose×Int)) (x4:List UInt8) (x5:Int) (x6:List (List UInt8)) (x7:List S_hr09_version) (last:List UInt8) (i1:Int) (b6:List UInt8):Option (Lr (Bool×S_keys_Tree×S_hr09_Tree) ((List UInt8)×Int×(List ((List UInt8)×Bool))×(List (S_keys_purpose×Int))×(List UInt8)×Int×(List (List UInt8))×(List S_hr09_version))) :=
  if (decide (e1.Kind = (0:Int))) = true then ((keys_Tree_Rotate K (⟨x,x1,x2,x3⟩:S_keys_Tree) e1.Tenant e1.Purpose).bind fun r_3=>((hr09_Tree_Rotate K (⟨x4,x5,x6,x7⟩:S_hr09_Tree) e1.Tenant e1.Purpose).bind fun r_4=>(if ((!decide (r_3.1 = r_4.1))||(!decide (r_3.2.1 = r_4.2.1))) = true then (some (.ret (false,(⟨r_3.2.2.root,r_3.2.2.sealed,r_3.2.2.gone,r_3.2.2.at_⟩:S_keys_Tree),(⟨r_4.2.2.root,r_4.2.2.sealed,r_4.2.2.gone,r_4.2.2.l⟩:S_hr09_Tree)))) else (lk1 r_3.2.2.root r_3.2.2.sealed r_3.2.2.gone r_3.2.2.at_ r_4.2.2.root r_4.2.2.sealed r_4.2.2.gone r_4.2.2.l last (W (i1+(1:Int))))))) else (if (decide (e1.Kind = (1:Int))) = true then ((keys_Tree_Destroy K (⟨x,x1,x2,x3⟩:S_keys_Tree) e1.Tenant).bind fun r_5=>((hr09_Tree_Destroy K (⟨x4,x5,x6,x7⟩:S_hr09_Tree) e1.Tenant).bind fun r_6=>(if (!decide (r_5.1 = r_6.1)) = true then (some (.ret (false,(⟨r_5.2.root,r_5.2.sealed,r_5.2.gone,r_5.2.at_⟩:S_keys_Tree),(⟨r_6.2.root,r_6.2.sealed,r_6.2.gone,r_6.2.l⟩:S_hr09_Tree)))) else (lk1 r_5.2.root r_5.2.sealed r_5.2.gone r_5.2.at_ r_6.2.root r_6.2.sealed r_6.2.gone r_6.2.l last (W (i1+(1:Int))))))) else (if (decide (e1.Kind = (2:Int))) = true then ((keys_Tree_Seal K (⟨x,x1,x2,x3⟩:S_keys_Tree) e1.Tenant e1.Purpose b6).bind fun r_7=>((hr09_Tree_Seal K (⟨x4,x5,x6,x7⟩:S_hr09_Tree) e1.Tenant e1.Purpose b6).bind fun r_8=>((hr01_SameBytes K r_7.1 r_8.1).bind fun r_9=>(if ((!r_9)||(!decide (r_7.2.1 = r_8.2.1))) = true then (some (.ret (false,(⟨r_7.2.2.root,r_7.2.2.sealed,r_7.2.2.gone,r_7.2.2.at_⟩:S_keys_Tree),(⟨r_8.2.2.root,r_8.2.2.sealed,r_8.2.2.gone,r_8.2.2.l⟩:S_hr09_Tree)))) else (lk1 r_7.2.2.root r_7.2.2.sealed r_7.2.2.gone r_7.2.2.at_ r_8.2.2.root r_8.2.2.sealed r_8.2.2.gone r_8.2.2.l r_8.1 (W (i1+(1:Int)))))))) else (if (decide (e1.Kind = (3:Int))) = true then ((keys_Tree_Open K (⟨x,x1,x2,x3⟩:S_keys_Tree) e1.Tenant e1.Purpose b6).bind fun r_10=>((hr09_Tree_Open K (⟨x4,x5,x6,x7⟩:S_hr09_Tree) e1.Tenant e1.Purpose b6).bind fun r_11=>((hr01_SameBytes K r_10.1 r_11.1).bind fun r_12=>(if (((!r_12)||(!decide (r_10.2.1 = r_11.2.1)))||(!decide (r_10.2.2 = r_11.2.2))) = true then (some (.ret (false,(⟨x,x1,x2,x3⟩:S_keys_Tree),(⟨x4,x5,x6,x7⟩:S_hr09_Tree)))) else (lk1 x x1 x2 x3 x4 x5 x6 x7 last (W (i1+(1:Int)))))))) else (if (decide (e1.Kind = (4:Int))) = true then ((keys_Tree_Reseal K (⟨x,x1,x2,x3⟩:S_keys_Tree) e1.Tenant e1.Purpose b6).bind fun r_13=>((hr09_Tree_Reseal K (⟨x4,x5,x6,x7⟩:S_hr09_Tree) e1.Tenant e1.Purpose b6).bind fun r_14=>((hr01_SameBytes K r_13.1 r_14.1).bind fun r_15=>(if (((!r_15)||(!decide (r_13.2.1 = r_14.2.1)))||(!decide (r_13.2.2.1 = r_14.2.2.1))) = true then (some (.ret (false,(⟨r_13.2.2.2.root,r_13.2.2.2.sealed,r_13.2.2.2.gone,r_13.2.2.2.at_⟩:S_keys_Tree),(⟨r_14.2.2.2.root,r_14.2.2.2.sealed,r_14.2.2.2.gone,r_14.2.2.2.l⟩:S_hr09_Tree)))) else (lk1 r_13.2.2.2.root r_13.2.2.2.sealed r_13.2.2.2.gone r_13.2.2.2.at_ r_14.2.2.2.root r_14.2.2.2.sealed r_14.2.2.2.gone r_14.2.2.2.l last (W (i1+(1:Int)))))))) else ((keys_Tree_Key K (⟨x,x1,x2,x3⟩:S_keys_Tree) e1.Tenant e1.Purpose e1.N_).bind fun r_16=>((hr09_Tree_Key K (⟨x4,x5,x6,x7⟩:S_hr09_Tree) e1.Tenant e1.Purpose e1.N_).bind fun r_17=>((keys_Tree_Current K (⟨x,x1,x2,x3⟩:S_keys_Tree) e1.Tenant e1.Purpose).bind fun r_18=>((hr09_Tree_Current K (⟨x4,x5,x6,x7⟩:S_hr09_Tree) e1.Tenant e1.Purpose).bind fun r_19=>(if ((((!decide (r_16.1 = r_17.1))||(!decide (r_16.2 = r_17.2)))||(!decide (r_18.1 = r_19.1)))||(!decide (r_18.2 = r_19.2))) = true then (some (.ret (false,(⟨x,x1,x2,x3⟩:S_keys_Tree),(⟨x4,x5,x6,x7⟩:S_hr09_Tree)))) else (lk1 x x1 x2 x3 x4 x5 x6 x7 last (W (i1+(1:Int)))))))))))))
def hl09_play.l1 (K:Nat):Nat→(List S_hl09_Deed)→(List UInt8)→Int→(List ((List UInt8)×Bool))→(List (S_keys_purpose×Int))→(List UInt8)→Int→(List (List UInt8))→(List S_hr09_version)→(List UInt8)→Int→Option (Lr (Bool×S_keys_Tree×S_hr09_Tree) ((List UInt8)×Int×(List ((List UInt8)×Bool))×(List (S_keys_purpose×Int))×(List UInt8)×Int×(List (List UInt8))×(List S_hr09_version)))
  |0,_,_,_,_,_,_,_,_,_,_,_=>none
  |k+1,l,x,x1,x2,x3,x4,x5,x6,x7,last,i1=>if ((decide (i1<(l.length:Int)))&&(decide (i1<(60:Int)))) = true then ((gt l i1).bind fun e1=>((hr01_Copy K e1.Bytes).bind fun r_1=>(if e1.Last = true then ((hr01_Copy K last).bind fun r_2=>(hl09_play.j1 K (hl09_play.l1 K k l) e1 x x1 x2 x3 x4 x5 x6 x7 last i1 r_2)) else (hl09_play.j1 K (hl09_play.l1 K k l) e1 x x1 x2 x3 x4 x5 x6 x7 last i1 r_1)))) else (some (.go (x,x1,x2,x3,x4,x5,x6,x7)))
def hl09_play (K:Nat) (t:S_keys_Tree) (r_:S_hr09_Tree) (l:List S_hl09_Deed):Option (Bool×S_keys_Tree×S_hr09_Tree) :=
  (hl09_play.l1 K K l t.root t.sealed t.gone t.at_ r_.root r_.sealed r_.gone r_.l ([]:List UInt8) (0:Int)).bind fun q=>(lrc q (fun a=>some a) (fun z=>(fun x8 x9 x10 x11 x12 x13 x14 x15=>some (true,(⟨x8,x9,x10,x11⟩:S_keys_Tree),(⟨x12,x13,x14,x15⟩:S_hr09_Tree))) z.1 z.2.1 z.2.2.1 z.2.2.2.1 z.2.2.2.2.1 z.2.2.2.2.2.1 z.2.2.2.2.2.2.1 z.2.2.2.2.2.2.2))
def hr09_Sorted.l2:Nat→(List S_api_Row)→(List S_api_Row)→Int→Int→Option Int
  |0,_,_,_,_=>none
  |k+1,out,l,i1,at_=>if (decide ((0:Int)<at_)) = true then ((gt out (W (at_ - (1:Int)))).bind fun e1=>((gt l i1).bind fun e2=>(if (!(ltS e1.Key e2.Key||decide (e1.Key = e2.Key))) = true then (hr09_Sorted.l2 k out l i1 (W (at_ - (1:Int)))) else (some at_)))) else (some at_)
def hr09_Sorted.l1 (K:Nat):Nat→(List S_api_Row)→(List S_api_Row)→Int→Option (List S_api_Row)
  |0,_,_,_=>none
  |k+1,l,out,i1=>if (decide (i1<(l.length:Int))) = true then ((hr09_Sorted.l2 K out l i1 (out.length:Int)).bind fun at_1=>((sub out (0:Int) at_1).bind fun zs=>((app 3518437208883 ([]:List S_api_Row) zs).bind fun xs=>((gt l i1).bind fun e3=>((some ([(⟨e3.Key,e3.Columns⟩:S_api_Row)]:List S_api_Row)).bind fun l2=>((app 3518437208883 xs l2).bind fun xs1=>((sub out at_1 (out.length:Int)).bind fun zs1=>((app 3518437208883 xs1 zs1).bind fun xs2=>(hr09_Sorted.l1 K k l xs2 (W (i1+(1:Int)))))))))))) else (some out)
def hr09_Sorted (K:Nat) (l:List S_api_Row):Option (List S_api_Row) :=
  (hr09_Sorted.l1 K K l ([]:List S_api_Row) (0:Int)).bind fun out1=>(some out1)
def hr09_Tree_Rows.l1:Nat→S_hr09_Tree→(List S_api_Row)→Int→Option (List S_api_Row)
  |0,_,_,_=>none
  |k+1,t,l3,i=>if (decide (i<(t.gone.length:Int))) = true then ((gt t.gone i).bind fun e2=>((some ([(⟨e2,([]:List (List UInt8))⟩:S_api_Row)]:List S_api_Row)).bind fun l5=>((app 3518437208883 l3 l5).bind fun l6=>(hr09_Tree_Rows.l1 k t l6 (W (i+(1:Int))))))) else (some l3)
def hr09_Tree_Rows.l2 (K:Nat):Nat→S_hr09_Tree→(List S_api_Row)→Int→Option (List S_api_Row)
  |0,_,_,_=>none
  |k+1,t,l7,i1=>if (decide (i1<(t.l.length:Int))) = true then ((gt t.l i1).bind fun e3=>((hr02_Number K e3.n).bind fun r_1=>((gt t.l i1).bind fun e4=>((app 9223372036854775807 e4.tenant ([47]:List UInt8)).bind fun t1=>((gt t.l i1).bind fun e5=>((app 9223372036854775807 t1 e5.purpose).bind fun t2=>((some ([r_1.1]:List (List UInt8))).bind fun l9=>((some ([(⟨t2,l9⟩:S_api_Row)]:List S_api_Row)).bind fun l10=>((app 3518437208883 l7 l10).bind fun l11=>(hr09_Tree_Rows.l2 K k t l11 (W (i1+(1:Int))))))))))))) else (some l7)
def hr09_Tree_Rows (K:Nat) (t:S_hr09_Tree):Option (List S_api_Row) :=
  (hr02_Number K t.sealed).bind fun r_=>((some ([r_.1]:List (List UInt8))).bind fun l1=>((some ([(⟨([35]:List UInt8),l1⟩:S_api_Row)]:List S_api_Row)).bind fun l2=>((hr09_Tree_Rows.l1 K t l2 (0:Int)).bind fun l4=>((hr09_Tree_Rows.l2 K K t l4 (0:Int)).bind fun l8=>((hr09_Sorted K l8).bind fun r_2=>(some r_2))))))
def hl09_KeysLoads (K:Nat) (root:List UInt8) (rows:List S_api_Row) (l:List S_hl09_Deed):Option Bool :=
  (keys_Load K root rows).bind fun r_=>((r_.1).elim ((hr09_Load K root rows).bind fun r_1=>((r_1.1).elim ((hl09_live K).bind fun r_2=>(if (((!r_2)||(!decide (r_.2 = r_1.2)))||(!decide (true = true))) = true then (some false) else (some true))) (fun x1=>(hl09_live K).bind fun r_3=>(some false)))) (fun x=>(hr09_Load K root rows).bind fun r_4=>((r_4.1).elim ((hl09_live K).bind fun r_5=>(some false)) (fun x2=>(hl09_live K).bind fun r_6=>(if (((!r_6)||(!decide (r_.2 = r_4.2)))||(!decide (false = false))) = true then (some false) else ((keys_Tree_Rows K (⟨x.root,x.sealed,x.gone,x.at_⟩:S_keys_Tree)).bind fun r_7=>((hr06_SameRows K r_7 rows).bind fun r_8=>((if r_8 = true then ((hl09_play K (⟨x.root,x.sealed,x.gone,x.at_⟩:S_keys_Tree) (⟨x2.root,x2.sealed,x2.gone,x2.l⟩:S_hr09_Tree) l).bind fun r_9=>(some (r_9.1,r_9.2.1.root,r_9.2.1.sealed,r_9.2.1.gone,r_9.2.1.at_,r_9.2.2.root,r_9.2.2.sealed,r_9.2.2.gone,r_9.2.2.l))) else some (false,x.root,x.sealed,x.gone,x.at_,x2.root,x2.sealed,x2.gone,x2.l)).bind fun q=>((if q.1 = true then ((keys_Tree_Rows K (⟨q.2.1,q.2.2.1,q.2.2.2.1,q.2.2.2.2.1⟩:S_keys_Tree)).bind fun r_10=>((hr09_Tree_Rows K (⟨q.2.2.2.2.2.1,q.2.2.2.2.2.2.1,q.2.2.2.2.2.2.2.1,q.2.2.2.2.2.2.2.2⟩:S_hr09_Tree)).bind fun r_11=>((hr06_SameRows K r_10 r_11).bind fun r_12=>(some r_12)))) else some false).bind fun b7=>(some b7))))))))))
end
end Go.Proofs.YtjgbakieogadfabGreatDoor
