import Derived.Test.YtgmgahphjiiceaaGreatLib41
namespace Go.Proofs.YtgmgahphjiiceaaGreat
open Go L
set_option linter.unusedVariables false
structure S_tree_Report where
  Height:Int
  Pages:List Int
  Free:List Int
  Fresh:List Int
  Least:Int
  deriving Inhabited
structure S_api_Pair where
  Key:List UInt8
  Value:List UInt8
  deriving Inhabited
structure S_tree_entry where
  key:List UInt8
  value:List UInt8
  page:Int
  deriving Inhabited
structure S_tree_node where
  leaf:Bool
  l:List S_tree_entry
  deriving Inhabited
structure S_tree_head where
  root:Int
  free:Int
  fresh:Int
  deriving DecidableEq,Inhabited
structure S_block_write where
  n:Int
  was:List UInt8
  deriving Inhabited
structure S_atomic_Int64 where
  v_:Int
  deriving DecidableEq,Inhabited
structure S_block_Disk where
  l:List (List UInt8)
  writes:List S_block_write
  count:S_atomic_Int64
  deriving Inhabited
structure S_wal_store where
  Disk:S_block_Disk
  deriving Inhabited
structure S_wal_Log where
  store:S_wal_store
  size:Int
  groups:Int
  used:Int
  at_:List (Int × Int)
  deriving Inhabited
structure S_pager_Pager where
  l:S_wal_Log
  most:Int
  dirty:List (Int × (List UInt8))
  clean:List (Int × (List UInt8))
  row:List Int
  pins:List (Int × Bool)
  hits:S_atomic_Int64
  misses:S_atomic_Int64
  deriving Inhabited
structure S_tree_Tree where
  head:S_tree_head
  p_:S_pager_Pager
  deriving Inhabited
structure S_tree_fault where
  e:Int
  deriving DecidableEq,Inhabited
structure S_tree_change where
  head:S_tree_head
  t:S_tree_Tree
  pages:List (Int × (List UInt8))
  deriving Inhabited

noncomputable section

-- holdfast/tree.isKey
def tree_isKey (K : Nat) (k1 : List UInt8) : Option Bool :=
  some ((decide ((1:Int)≤(k1.length:Int))) && (decide ((k1.length:Int)≤(64:Int))))

-- (*holdfast/block.Disk).Blocks
def block_Disk_Blocks (K : Nat) (d1 : S_block_Disk) : Option Int :=
  some (d1.l.length:Int)

-- (*holdfast/wal.Log).Pages
def wal_Log_Pages (K : Nat) (l : S_wal_Log) : Option Int :=
  (block_Disk_Blocks K (⟨l.store.Disk.l,l.store.Disk.writes,l.store.Disk.count⟩ : S_block_Disk)).bind fun r_=>(some (W ((W (r_ - l.size)) - (1:Int))))

-- (*holdfast/pager.Pager).look
def pager_Pager_look (K : Nat) (p_ : S_pager_Pager) (n1 : Int) : Option Int :=
  (if (decide (n1 < (0:Int)))=true then some true else ((wal_Log_Pages K (⟨(⟨(⟨p_.l.store.Disk.l,p_.l.store.Disk.writes,p_.l.store.Disk.count⟩ : S_block_Disk)⟩ : S_wal_store),p_.l.size,p_.l.groups,p_.l.used,p_.l.at_⟩ : S_wal_Log)).bind fun r_=>(some (decide (r_≤n1))))).bind fun b7=>(if b7=true then (some (2:Int)) else (some (0:Int)))

-- bytes.Clone
def bytes_Clone (K : Nat) (b : List UInt8) : Option (List UInt8) := app 140737488355328 ([] : List UInt8) b

-- (*holdfast/wal.Log).place
def wal_Log_place (K : Nat) (l : S_wal_Log) (n1 : Int) : Option Int :=
  if ((mget l.at_ n1).isSome)=true then (some ((mget l.at_ n1).getD (0:Int))) else (some (W ((W (l.size + (1:Int))) + n1)))

-- (*holdfast/block.Disk).Read
def block_Disk_Read (K : Nat) (d1 : S_block_Disk) (n1 : Int) : Option ((List UInt8) × Int) :=
  if ((decide (n1 < (0:Int))) || (decide ((d1.l.length:Int)≤n1)))=true then (some (([] : List UInt8),(2:Int))) else ((gt d1.l n1).bind fun e1=>((bytes_Clone K e1).bind fun r_=>(some (r_,(0:Int)))))

-- (*holdfast/wal.Log).Read
def wal_Log_Read (K : Nat) (l : S_wal_Log) (n1 : Int) : Option ((List UInt8) × Int) :=
  (if (decide (n1 < (0:Int)))=true then some true else ((wal_Log_Pages K (⟨(⟨(⟨l.store.Disk.l,l.store.Disk.writes,l.store.Disk.count⟩ : S_block_Disk)⟩ : S_wal_store),l.size,l.groups,l.used,l.at_⟩ : S_wal_Log)).bind fun r_=>(some (decide (r_≤n1))))).bind fun b3=>(if b3=true then (some (([] : List UInt8),(2:Int))) else ((wal_Log_place K (⟨(⟨(⟨l.store.Disk.l,l.store.Disk.writes,l.store.Disk.count⟩ : S_block_Disk)⟩ : S_wal_store),l.size,l.groups,l.used,l.at_⟩ : S_wal_Log) n1).bind fun r_1=>((block_Disk_Read K (⟨l.store.Disk.l,l.store.Disk.writes,l.store.Disk.count⟩ : S_block_Disk) r_1).bind fun r_2=>(some (r_2.1,r_2.2)))))

-- (*holdfast/pager.Pager).drop$1
def pager_Pager_drop_1 (K : Nat) (k1 : Int) (x1 : Int) : Option Bool :=
  some (decide (k1=x1))

-- slices.IndexFunc[[]int,int]
def slices_IndexFunc_int_int_f141.l1 (K : Nat) : Nat → (List Int) → Int → Int → Option (Lr Int Unit)
  | 0,_,_,_=>none
  | k + 1,s,cap,x8=>if (decide (x8 < (s.length:Int)))=true then ((gt s x8).bind fun e1=>((pager_Pager_drop_1 K e1 cap).bind fun r_=>(if r_=true then (some (.ret x8)) else (slices_IndexFunc_int_int_f141.l1 K k s cap (W (x8 + (1:Int))))))) else (some (.go ()))
def slices_IndexFunc_int_int_f141 (K : Nat) (s : List Int) (cap : Int) : Option Int :=
  (slices_IndexFunc_int_int_f141.l1 K K s cap (0:Int)).bind fun q=>(lrc q (fun a=>some a) (fun _=>some (-1:Int)))

-- (*holdfast/pager.Pager).use
def pager_Pager_use.j2 (K : Nat) (b7 : List UInt8) (p_ : S_pager_Pager) (m1 : List (Int × (List UInt8))) (xs : List Int) (x : Int) (x1 : Int) : Option ((List UInt8) × S_pager_Pager) :=
  (bytes_Clone K b7).bind fun r_2=>(some (r_2,(⟨(⟨(⟨(⟨p_.l.store.Disk.l,p_.l.store.Disk.writes,p_.l.store.Disk.count⟩ : S_block_Disk)⟩ : S_wal_store),p_.l.size,p_.l.groups,p_.l.used,p_.l.at_⟩ : S_wal_Log),p_.most,p_.dirty,m1,xs,p_.pins,(⟨x⟩ : S_atomic_Int64),(⟨x1⟩ : S_atomic_Int64)⟩ : S_pager_Pager)))
def pager_Pager_use.l1 (K : Nat) : Nat → Int → (List Int) → Int → Int → Option ((List Int) × Int)
  | 0,_,_,_,_=>none
  | k + 1,n1,s17,i,j=>if (decide (j < (s17.length:Int)))=true then ((gt s17 j).bind fun e3=>((pager_Pager_drop_1 K e3 n1).bind fun r_3=>(if (!r_3)=true then ((req (0≤i∧i < (s17.length:Int))).bind fun u=>((some (s17.set (i).toNat e3)).bind fun s25=>(pager_Pager_use.l1 K k n1 s25 (W (i + (1:Int))) (W (j + (1:Int)))))) else (pager_Pager_use.l1 K k n1 s17 i (W (j + (1:Int))))))) else (some (s17,i))
def pager_Pager_use.j3 (K : Nat) (b7 : List UInt8) (p_ : S_pager_Pager) (m3 : List (Int × (List UInt8))) (ys2 : List Int) (x : Int) (x1 : Int) : Option ((List UInt8) × S_pager_Pager) :=
  (bytes_Clone K b7).bind fun r_4=>(some (r_4,(⟨(⟨(⟨(⟨p_.l.store.Disk.l,p_.l.store.Disk.writes,p_.l.store.Disk.count⟩ : S_block_Disk)⟩ : S_wal_store),p_.l.size,p_.l.groups,p_.l.used,p_.l.at_⟩ : S_wal_Log),p_.most,p_.dirty,m3,ys2,p_.pins,(⟨x⟩ : S_atomic_Int64),(⟨x1⟩ : S_atomic_Int64)⟩ : S_pager_Pager)))
def pager_Pager_use.j1 (K : Nat) (p_ : S_pager_Pager) (n1 : Int) (x : Int) (x1 : Int) (b7 : List UInt8) : Option ((List UInt8) × S_pager_Pager) :=
  (slices_IndexFunc_int_int_f141 K p_.row n1).bind fun r_1=>(if (decide (r_1=(-1:Int)))=true then ((some (mdel p_.clean n1)).bind fun m=>((some ([n1] : List Int)).bind fun l=>((app 17592186044416 p_.row l).bind fun xs=>((some (msetC m n1 b7)).bind fun m1=>(if (decide (p_.most < (xs.length:Int)))=true then (none) else (pager_Pager_use.j2 K b7 p_ m1 xs x x1)))))) else ((pager_Pager_use.l1 K K n1 p_.row r_1 (W (r_1 + (1:Int)))).bind fun q=>((fun s18 i1=>(req (0≤i1∧i1≤(s18.length:Int))).bind fun u1=>((some (s18.take (i1).toNat++List.replicate (s18.length - (i1).toNat) (0:Int))).bind fun s28=>((sub s28 (0:Int) i1).bind fun ys1=>((some (mdel p_.clean n1)).bind fun m2=>((some ([n1] : List Int)).bind fun l2=>((app 17592186044416 ys1 l2).bind fun ys2=>((some (msetC m2 n1 b7)).bind fun m3=>(if (decide (p_.most < (ys2.length:Int)))=true then (none) else (pager_Pager_use.j3 K b7 p_ m3 ys2 x x1))))))))) q.1 q.2)))
def pager_Pager_use (K : Nat) (p_ : S_pager_Pager) (n1 : Int) : Option ((List UInt8) × S_pager_Pager) :=
  if ((mget p_.clean n1).isSome)=true then (pager_Pager_use.j1 K p_ n1 (W (p_.hits.v_ + (1:Int))) p_.misses.v_ ((mget p_.clean n1).getD [])) else ((wal_Log_Read K (⟨(⟨(⟨p_.l.store.Disk.l,p_.l.store.Disk.writes,p_.l.store.Disk.count⟩ : S_block_Disk)⟩ : S_wal_store),p_.l.size,p_.l.groups,p_.l.used,p_.l.at_⟩ : S_wal_Log) n1).bind fun r_=>(pager_Pager_use.j1 K p_ n1 p_.hits.v_ (W (p_.misses.v_ + (1:Int))) r_.1))

-- (*holdfast/pager.Pager).Read
def pager_Pager_Read (K : Nat) (p_ : S_pager_Pager) (n1 : Int) : Option ((List UInt8) × Int × S_pager_Pager) :=
  (pager_Pager_look K (⟨(⟨(⟨(⟨p_.l.store.Disk.l,p_.l.store.Disk.writes,p_.l.store.Disk.count⟩ : S_block_Disk)⟩ : S_wal_store),p_.l.size,p_.l.groups,p_.l.used,p_.l.at_⟩ : S_wal_Log),p_.most,p_.dirty,p_.clean,p_.row,p_.pins,p_.hits,p_.misses⟩ : S_pager_Pager) n1).bind fun r_=>(if (!decide (r_=(0:Int)))=true then (some (([] : List UInt8),r_,(⟨(⟨(⟨(⟨p_.l.store.Disk.l,p_.l.store.Disk.writes,p_.l.store.Disk.count⟩ : S_block_Disk)⟩ : S_wal_store),p_.l.size,p_.l.groups,p_.l.used,p_.l.at_⟩ : S_wal_Log),p_.most,p_.dirty,p_.clean,p_.row,p_.pins,p_.hits,p_.misses⟩ : S_pager_Pager))) else (if ((mget p_.dirty n1).isSome)=true then ((bytes_Clone K ((mget p_.dirty n1).getD [])).bind fun r_1=>(some (r_1,(0:Int),(⟨(⟨(⟨(⟨p_.l.store.Disk.l,p_.l.store.Disk.writes,p_.l.store.Disk.count⟩ : S_block_Disk)⟩ : S_wal_store),p_.l.size,p_.l.groups,p_.l.used,p_.l.at_⟩ : S_wal_Log),p_.most,p_.dirty,p_.clean,p_.row,p_.pins,p_.hits,p_.misses⟩ : S_pager_Pager)))) else ((pager_Pager_use K (⟨(⟨(⟨(⟨p_.l.store.Disk.l,p_.l.store.Disk.writes,p_.l.store.Disk.count⟩ : S_block_Disk)⟩ : S_wal_store),p_.l.size,p_.l.groups,p_.l.used,p_.l.at_⟩ : S_wal_Log),p_.most,p_.dirty,p_.clean,p_.row,p_.pins,p_.hits,p_.misses⟩ : S_pager_Pager) n1).bind fun r_2=>(some (r_2.1,(0:Int),(⟨(⟨(⟨(⟨r_2.2.l.store.Disk.l,r_2.2.l.store.Disk.writes,(⟨r_2.2.l.store.Disk.count.v_⟩ : S_atomic_Int64)⟩ : S_block_Disk)⟩ : S_wal_store),r_2.2.l.size,r_2.2.l.groups,r_2.2.l.used,r_2.2.l.at_⟩ : S_wal_Log),r_2.2.most,r_2.2.dirty,r_2.2.clean,r_2.2.row,r_2.2.pins,(⟨r_2.2.hits.v_⟩ : S_atomic_Int64),(⟨r_2.2.misses.v_⟩ : S_atomic_Int64)⟩ : S_pager_Pager))))))

-- holdfast/tree.text
def tree_text (K : Nat) (b : List UInt8) : Option ((List UInt8) × (List UInt8) × Bool) :=
  (if (decide ((b.length:Int)=(0:Int)))=true then some true else ((gt b (0:Int)).bind fun e1=>(some (decide ((b.length:Int)≤(e1.toNat:Int)))))).bind fun b1=>(if b1=true then (some (([] : List UInt8),([] : List UInt8),false)) else ((gt b (0:Int)).bind fun e2=>((sub b (1:Int) (W ((e2.toNat:Int) + (1:Int)))).bind fun zs=>((sub b (W ((e2.toNat:Int) + (1:Int))) (b.length:Int)).bind fun ys1=>(some (zs,ys1,true))))))

-- holdfast/tree.parsed
def tree_parsed.j1 (K : Nat) (lk1 : List S_tree_entry → List UInt8 → Int → Option (Lr (S_tree_node × Bool) (List S_tree_entry))) (r_ : (List UInt8) × (List UInt8) × Bool) (x : List S_tree_entry) (x33 : Int) (rest1 : List UInt8) (x2 : List UInt8) (x3 : Int) : Option (Lr (S_tree_node × Bool) (List S_tree_entry)) :=
  (some ([(⟨r_.1,x2,x3⟩ : S_tree_entry)] : List S_tree_entry)).bind fun l1=>((app 2513169434916 x l1).bind fun x4=>(lk1 x4 rest1 (W (x33 + (1:Int)))))
def tree_parsed.l1 (K : Nat) : Nat → UInt8 → UInt8 → UInt8 → (List S_tree_entry) → (List UInt8) → Int → Option (Lr (S_tree_node × Bool) (List S_tree_entry))
  | 0,_,_,_,_,_,_=>none
  | k + 1,e3,e4,e1,x,rest,x33=>if (decide (x33 < orI (shlI (e3.toNat:Int) 8) (e4.toNat:Int)))=true then ((tree_text K rest).bind fun r_=>(if (!r_.2.2)=true then (some (.ret ((⟨decide (e1=(76:UInt8)),x⟩ : S_tree_node),false))) else (if (decide (e1=(76:UInt8)))=true then ((tree_text K r_.2.1).bind fun r_1=>(if (!r_1.2.2)=true then (some (.ret ((⟨decide (e1=(76:UInt8)),x⟩ : S_tree_node),false))) else (tree_parsed.j1 K (tree_parsed.l1 K k e3 e4 e1) r_ x x33 r_1.2.1 r_1.1 (0:Int)))) else (if (decide ((r_.2.1.length:Int) < (2:Int)))=true then (some (.ret ((⟨decide (e1=(76:UInt8)),x⟩ : S_tree_node),false))) else ((gt r_.2.1 (0:Int)).bind fun e8=>((gt r_.2.1 (1:Int)).bind fun e9=>((sub r_.2.1 (2:Int) (r_.2.1.length:Int)).bind fun ys2=>(tree_parsed.j1 K (tree_parsed.l1 K k e3 e4 e1) r_ x x33 ys2 ([] : List UInt8) (orI (shlI (e8.toNat:Int) 8) (e9.toNat:Int)))))))))) else (some (.go x))
def tree_parsed (K : Nat) (b : List UInt8) : Option (S_tree_node × Bool) :=
  (gt b (0:Int)).bind fun e1=>((if (!(decide (e1=(76:UInt8))))=true then ((gt b (0:Int)).bind fun e2=>(some (!decide (e2=(73:UInt8))))) else some false).bind fun b2=>(if b2=true then (some ((⟨decide (e1=(76:UInt8)),([] : List S_tree_entry)⟩ : S_tree_node),false)) else ((sub b (3:Int) (b.length:Int)).bind fun ys1=>((gt b (1:Int)).bind fun e3=>((gt b (2:Int)).bind fun e4=>((tree_parsed.l1 K K e3 e4 e1 ([] : List S_tree_entry) ys1 (0:Int)).bind fun q=>(lrc q (fun a=>some a) (fun x1=>some ((⟨decide (e1=(76:UInt8)),x1⟩ : S_tree_node),true)))))))))

-- bytes.Compare
def bytes_Compare (K : Nat) (a1 : List UInt8) (b : List UInt8) : Option Int :=
  some (Go.Lib.compareBytes a1 b)

-- (holdfast/tree.node).find$1
def tree_node_find_1 (K : Nat) (e1 : S_tree_entry) (k1 : List UInt8) : Option Int :=
  (bytes_Compare K e1.key k1).bind fun r_=>(some r_)

-- slices.BinarySearchFunc[[]holdfast/tree.entry,holdfast/tree.entry,[]byte]
def tree_entry_byte_f68.l1 (K : Nat) : Nat → (List S_tree_entry) → (List UInt8) → Int → Int → Option Int
  | 0,_,_,_,_=>none
  | k + 1,x,target,i2,j=>if (decide (i2 < j))=true then ((gt x (W ((shr64 (iU64 (W (i2 + j))) 1).toNat:Int))).bind fun e1=>((tree_node_find_1 K (⟨e1.key,e1.value,e1.page⟩ : S_tree_entry) target).bind fun r_=>(if (decide (r_ < (0:Int)))=true then (tree_entry_byte_f68.l1 K k x target (W ((W ((shr64 (iU64 (W (i2 + j))) 1).toNat:Int)) + (1:Int))) j) else (tree_entry_byte_f68.l1 K k x target i2 (W ((shr64 (iU64 (W (i2 + j))) 1).toNat:Int)))))) else (some i2)
def tree_entry_byte_f68 (K : Nat) (x : List S_tree_entry) (target : List UInt8) : Option (Int × Bool) :=
  (tree_entry_byte_f68.l1 K K x target (0:Int) (x.length:Int)).bind fun i3=>((if (decide (i3 < (x.length:Int)))=true then ((gt x i3).bind fun e2=>((tree_node_find_1 K (⟨e2.key,e2.value,e2.page⟩ : S_tree_entry) target).bind fun r_1=>(some (decide (r_1=(0:Int)))))) else some false).bind fun b=>(some (i3,b)))

-- (holdfast/tree.node).find
def tree_node_find.j1 (K : Nat) (r_ : Int × Bool) (i2 : Int) : Option (Int × Bool) :=
  some (i2,r_.2)
def tree_node_find (K : Nat) (n1 : S_tree_node) (key : List UInt8) : Option (Int × Bool) :=
  (tree_entry_byte_f68 K n1.l key).bind fun r_=>(if ((!n1.leaf) && (!r_.2))=true then (tree_node_find.j1 K r_ (maxI (W (r_.1 - (1:Int))) (0:Int))) else (tree_node_find.j1 K r_ r_.1))

-- (*holdfast/tree.Tree).Get
def tree_Tree_Get.j1 (K : Nat) (r_2 : S_tree_node × Bool) (key : List UInt8) (t : S_tree_Tree) (r_1 : (List UInt8) × Int × S_pager_Pager) : Option ((List UInt8) × Int × S_tree_Tree) :=
  (tree_node_find K (⟨r_2.1.leaf,r_2.1.l⟩ : S_tree_node) key).bind fun r_3=>(if r_2.1.leaf=true then (if (!r_3.2)=true then (some (([] : List UInt8),(4:Int),(⟨t.head,(⟨(⟨(⟨(⟨r_1.2.2.l.store.Disk.l,r_1.2.2.l.store.Disk.writes,(⟨r_1.2.2.l.store.Disk.count.v_⟩ : S_atomic_Int64)⟩ : S_block_Disk)⟩ : S_wal_store),r_1.2.2.l.size,r_1.2.2.l.groups,r_1.2.2.l.used,r_1.2.2.l.at_⟩ : S_wal_Log),r_1.2.2.most,r_1.2.2.dirty,r_1.2.2.clean,r_1.2.2.row,r_1.2.2.pins,(⟨r_1.2.2.hits.v_⟩ : S_atomic_Int64),(⟨r_1.2.2.misses.v_⟩ : S_atomic_Int64)⟩ : S_pager_Pager)⟩ : S_tree_Tree))) else ((gt r_2.1.l r_3.1).bind fun e1=>((bytes_Clone K e1.value).bind fun r_4=>(some (r_4,(0:Int),(⟨t.head,(⟨(⟨(⟨(⟨r_1.2.2.l.store.Disk.l,r_1.2.2.l.store.Disk.writes,(⟨r_1.2.2.l.store.Disk.count.v_⟩ : S_atomic_Int64)⟩ : S_block_Disk)⟩ : S_wal_store),r_1.2.2.l.size,r_1.2.2.l.groups,r_1.2.2.l.used,r_1.2.2.l.at_⟩ : S_wal_Log),r_1.2.2.most,r_1.2.2.dirty,r_1.2.2.clean,r_1.2.2.row,r_1.2.2.pins,(⟨r_1.2.2.hits.v_⟩ : S_atomic_Int64),(⟨r_1.2.2.misses.v_⟩ : S_atomic_Int64)⟩ : S_pager_Pager)⟩ : S_tree_Tree)))))) else (none))
def tree_Tree_Get (K : Nat) (t : S_tree_Tree) (key : List UInt8) : Option ((List UInt8) × Int × S_tree_Tree) :=
  (tree_isKey K key).bind fun r_=>(if (!r_)=true then (some (([] : List UInt8),(6:Int),(⟨t.head,(⟨(⟨(⟨(⟨t.p_.l.store.Disk.l,t.p_.l.store.Disk.writes,t.p_.l.store.Disk.count⟩ : S_block_Disk)⟩ : S_wal_store),t.p_.l.size,t.p_.l.groups,t.p_.l.used,t.p_.l.at_⟩ : S_wal_Log),t.p_.most,t.p_.dirty,t.p_.clean,t.p_.row,t.p_.pins,t.p_.hits,t.p_.misses⟩ : S_pager_Pager)⟩ : S_tree_Tree))) else (if (!decide (t.head.root=(0:Int)))=true then ((pager_Pager_Read K (⟨(⟨(⟨(⟨t.p_.l.store.Disk.l,t.p_.l.store.Disk.writes,t.p_.l.store.Disk.count⟩ : S_block_Disk)⟩ : S_wal_store),t.p_.l.size,t.p_.l.groups,t.p_.l.used,t.p_.l.at_⟩ : S_wal_Log),t.p_.most,t.p_.dirty,t.p_.clean,t.p_.row,t.p_.pins,t.p_.hits,t.p_.misses⟩ : S_pager_Pager) t.head.root).bind fun r_1=>((tree_parsed K r_1.1).bind fun r_2=>(if (!r_2.2)=true then (none) else (tree_Tree_Get.j1 K r_2 key t r_1)))) else (some (([] : List UInt8),(4:Int),(⟨t.head,(⟨(⟨(⟨(⟨t.p_.l.store.Disk.l,t.p_.l.store.Disk.writes,t.p_.l.store.Disk.count⟩ : S_block_Disk)⟩ : S_wal_store),t.p_.l.size,t.p_.l.groups,t.p_.l.used,t.p_.l.at_⟩ : S_wal_Log),t.p_.most,t.p_.dirty,t.p_.clean,t.p_.row,t.p_.pins,t.p_.hits,t.p_.misses⟩ : S_pager_Pager)⟩ : S_tree_Tree)))))

-- (*holdfast/tree.Tree).Get
def tree_Tree_Get_nil0 (K : Nat) (key : List UInt8) : Option ((List UInt8) × Int) :=
  some (([] : List UInt8),(1:Int))

-- (*holdfast/tree.Tree).Scan
def tree_Tree_Scan_nil0 (K : Nat) (from_ : List UInt8) (to_ : List UInt8) (most : Int) : Option (Unit × Int) :=
  some ((),(1:Int))

-- (*holdfast/tree.Tree).Check
def tree_Tree_Check_nil0 (K : Nat) : Option (S_tree_Report × Int) :=
  some ((⟨(0:Int),([] : List Int),([] : List Int),([] : List Int),(0:Int)⟩ : S_tree_Report),(1:Int))

-- holdfast/block.New
def block_New.l1 : Nat → (List (List UInt8)) → (List (List UInt8)) → Int → Option (List (List UInt8))
  | 0,_,_,_=>none
  | k + 1,xs,x,x21=>if (decide (x21 < (xs.length:Int)))=true then ((some (List.replicate 256 (0:UInt8))).bind fun x29=>((gt x x21).bind fun e2=>((some (x.set (x21).toNat x29)).bind fun x2=>(block_New.l1 k xs x2 (W (x21 + (1:Int))))))) else (some x)
def block_New (K : Nat) (blocks : Int) : Option ((Option S_block_Disk) × Int) :=
  if ((decide (blocks < (1:Int))) || (decide ((1024:Int) < blocks)))=true then (some (none,(2:Int))) else ((mks 11728124029610 ([] : List UInt8) blocks).bind fun xs=>((block_New.l1 K xs xs (0:Int)).bind fun x1=>(some (some (⟨x1,([] : List S_block_write),(⟨(0:Int)⟩ : S_atomic_Int64)⟩ : S_block_Disk),(0:Int)))))

-- holdfast/block.copied
def block_copied.l1 (K : Nat) : Nat → (List (List UInt8)) → (List (List UInt8)) → Int → Option (List (List UInt8))
  | 0,_,_,_=>none
  | k + 1,l,out,x11=>if (decide (x11 < (l.length:Int)))=true then ((gt l x11).bind fun e1=>((bytes_Clone K e1).bind fun r_=>((gt out x11).bind fun e2=>((some (out.set (x11).toNat r_)).bind fun out2=>(block_copied.l1 K k l out2 (W (x11 + (1:Int)))))))) else (some out)
def block_copied (K : Nat) (l : List (List UInt8)) : Option (List (List UInt8)) :=
  (mks 11728124029610 ([] : List UInt8) (l.length:Int)).bind fun xs=>((block_copied.l1 K K l xs (0:Int)).bind fun out1=>(some out1))

-- (*holdfast/block.Disk).Image
def block_Disk_Image (K : Nat) (d1 : S_block_Disk) : Option (List (List UInt8)) :=
  (block_copied K d1.l).bind fun r_=>(some r_)

-- holdfast/block.Load$1
def block_Load_1 (K : Nat) (b : List UInt8) : Option Bool :=
  some (!decide ((b.length:Int)=(256:Int)))

-- slices.IndexFunc[[][]byte,[]byte]
def slices_IndexFunc_byte_byte_127_f89.l1 (K : Nat) : Nat → (List (List UInt8)) → Int → Option (Lr Int Unit)
  | 0,_,_=>none
  | k + 1,s,x8=>if (decide (x8 < (s.length:Int)))=true then ((gt s x8).bind fun e1=>((block_Load_1 K e1).bind fun r_=>(if r_=true then (some (.ret x8)) else (slices_IndexFunc_byte_byte_127_f89.l1 K k s (W (x8 + (1:Int))))))) else (some (.go ()))
def slices_IndexFunc_byte_byte_127_f89 (K : Nat) (s : List (List UInt8)) : Option Int :=
  (slices_IndexFunc_byte_byte_127_f89.l1 K K s (0:Int)).bind fun q=>(lrc q (fun a=>some a) (fun _=>some (-1:Int)))

-- slices.ContainsFunc[[][]byte,[]byte]
def slices_ContainsFunc_byte_byte_88_f89 (K : Nat) (s : List (List UInt8)) : Option Bool :=
  (slices_IndexFunc_byte_byte_127_f89 K s).bind fun r_=>(some (decide ((0:Int)≤r_)))

-- holdfast/block.Load
def block_Load (K : Nat) (image : List (List UInt8)) : Option ((Option S_block_Disk) × Int) :=
  if ((decide ((image.length:Int) < (1:Int))) || (decide ((1024:Int) < (image.length:Int))))=true then (some (none,(2:Int))) else ((slices_ContainsFunc_byte_byte_88_f89 K image).bind fun r_=>(if r_=true then (some (none,(3:Int))) else ((block_copied K image).bind fun r_1=>(some (some (⟨r_1,([] : List S_block_write),(⟨(0:Int)⟩ : S_atomic_Int64)⟩ : S_block_Disk),(0:Int))))))

-- holdfast/wal.zeros$1
def wal_zeros_1 (K : Nat) (x : UInt8) : Option Bool :=
  some (!decide (x=(0:UInt8)))

-- slices.IndexFunc[[]byte,byte]
def slices_IndexFunc_byte_byte_126_f91.l1 (K : Nat) : Nat → (List UInt8) → Int → Option (Lr Int Unit)
  | 0,_,_=>none
  | k + 1,s,x8=>if (decide (x8 < (s.length:Int)))=true then ((gt s x8).bind fun e1=>((wal_zeros_1 K e1).bind fun r_=>(if r_=true then (some (.ret x8)) else (slices_IndexFunc_byte_byte_126_f91.l1 K k s (W (x8 + (1:Int))))))) else (some (.go ()))
def slices_IndexFunc_byte_byte_126_f91 (K : Nat) (s : List UInt8) : Option Int :=
  (slices_IndexFunc_byte_byte_126_f91.l1 K K s (0:Int)).bind fun q=>(lrc q (fun a=>some a) (fun _=>some (-1:Int)))

-- slices.ContainsFunc[[]byte,byte]
def slices_ContainsFunc_byte_byte_83_f91 (K : Nat) (s : List UInt8) : Option Bool :=
  (slices_IndexFunc_byte_byte_126_f91 K s).bind fun r_=>(some (decide ((0:Int)≤r_)))

-- holdfast/wal.zeros
def wal_zeros (K : Nat) (b : List UInt8) : Option Bool :=
  (slices_ContainsFunc_byte_byte_83_f91 K b).bind fun r_=>(some (!r_))

-- holdfast/wal.get
def wal_get.l1 : Nat → (List UInt8) → Int → Int → Option Int
  | 0,_,_,_=>none
  | k + 1,b,n1,x8=>if (decide (x8 < (b.length:Int)))=true then ((gt b x8).bind fun e=>(wal_get.l1 k b (orI (shlI n1 8) (e.toNat:Int)) (W (x8 + (1:Int))))) else (some n1)
def wal_get (K : Nat) (b : List UInt8) : Option Int :=
  (wal_get.l1 K b (0:Int) (0:Int)).bind fun n2=>(some n2)

-- holdfast/wal.two
def wal_two (K : Nat) (b : List UInt8) : Option Int :=
  (gt b (0:Int)).bind fun e=>((gt b (1:Int)).bind fun e1=>(some (orI (shlI (e.toNat:Int) 8) (e1.toNat:Int))))

-- (*holdfast/wal.Log).group
def wal_Log_group.l1 (K : Nat) : Nat → Int → ((List UInt8) × Int) → S_wal_Log → Int → (List (Int × Int)) → Int → Int → Option (Lr (Int × S_wal_Log) (List (Int × Int)))
  | 0,_,_,_,_,_,_,_=>none
  | k + 1,r_1,r_,l,n1,x,last,x49=>if (decide (x49 < r_1))=true then ((sub r_.1 (W ((2:Int) + (W ((2:Int) * x49)))) (r_.1.length:Int)).bind fun ys2=>((wal_two K ys2).bind fun r_3=>((if (decide (r_3≤last))=true then some true else ((wal_Log_Pages K (⟨(⟨(⟨l.store.Disk.l,l.store.Disk.writes,l.store.Disk.count⟩ : S_block_Disk)⟩ : S_wal_store),l.size,l.groups,l.used,x⟩ : S_wal_Log)).bind fun r_4=>(some (decide (r_4≤r_3))))).bind fun b4=>(if b4=true then (some (.ret ((0:Int),(⟨(⟨(⟨l.store.Disk.l,l.store.Disk.writes,l.store.Disk.count⟩ : S_block_Disk)⟩ : S_wal_store),l.size,l.groups,l.used,x⟩ : S_wal_Log)))) else ((some (msetC x r_3 (W ((W (n1 + (1:Int))) + x49)))).bind fun m=>(wal_Log_group.l1 K k r_1 r_ l n1 m r_3 (W (x49 + (1:Int))))))))) else (some (.go x))
def wal_Log_group (K : Nat) (l : S_wal_Log) (n1 : Int) : Option (Int × S_wal_Log) :=
  (block_Disk_Read K (⟨l.store.Disk.l,l.store.Disk.writes,l.store.Disk.count⟩ : S_block_Disk) n1).bind fun r_=>((wal_two K r_.1).bind fun r_1=>((if (((decide (r_1 < (1:Int))) || (decide ((100:Int) < r_1))) || (decide (l.used < W (n1 + r_1))))=true then some true else ((sub r_.1 (W ((2:Int) + (W ((2:Int) * r_1)))) (r_.1.length:Int)).bind fun ys1=>((wal_zeros K ys1).bind fun r_2=>(some (!r_2))))).bind fun b3=>(if b3=true then (some ((0:Int),(⟨(⟨(⟨l.store.Disk.l,l.store.Disk.writes,l.store.Disk.count⟩ : S_block_Disk)⟩ : S_wal_store),l.size,l.groups,l.used,l.at_⟩ : S_wal_Log))) else ((wal_Log_group.l1 K K r_1 r_ l n1 l.at_ (-1:Int) (0:Int)).bind fun q=>(lrc q (fun a=>some a) (fun x1=>some (r_1,(⟨(⟨(⟨l.store.Disk.l,l.store.Disk.writes,l.store.Disk.count⟩ : S_block_Disk)⟩ : S_wal_store),l.size,l.groups,l.used,x1⟩ : S_wal_Log))))))))

-- holdfast/wal.Open
def wal_Open.l1 (K : Nat) : Nat → (List (List UInt8)) → (List S_block_write) → Int → Int → Int → Int → (List (Int × Int)) → Int → Option (Lr ((Option S_wal_Log) × Int) ((List (List UInt8)) × (List S_block_write) × Int × Int × Int × Int × (List (Int × Int))))
  | 0,_,_,_,_,_,_,_,_=>none
  | k + 1,x1,x2,x3,x4,x5,x6,x7,n1=>if (decide (n1≤x6))=true then ((wal_Log_group K (⟨(⟨(⟨x1,x2,(⟨x3⟩ : S_atomic_Int64)⟩ : S_block_Disk)⟩ : S_wal_store),x4,x5,x6,x7⟩ : S_wal_Log) n1).bind fun r_8=>(if (decide (r_8.1=(0:Int)))=true then (some (.ret (none,(15:Int)))) else (wal_Open.l1 K k r_8.2.store.Disk.l r_8.2.store.Disk.writes r_8.2.store.Disk.count.v_ r_8.2.size r_8.2.groups r_8.2.used r_8.2.at_ (W (n1 + (W (r_8.1 + (1:Int)))))))) else (some (.go (x1,x2,x3,x4,x5,x6,x7)))
def wal_Open (K : Nat) (d1 : S_block_Disk) (size : Int) : Option ((Option S_wal_Log) × Int) :=
  (if (decide (size < (2:Int)))=true then some true else ((block_Disk_Blocks K (⟨d1.l,d1.writes,d1.count⟩ : S_block_Disk)).bind fun r_=>(some (decide (W (r_ - (2:Int)) < size))))).bind fun b1=>(if b1=true then (some (none,(2:Int))) else ((block_Disk_Image K (⟨d1.l,d1.writes,d1.count⟩ : S_block_Disk)).bind fun r_1=>((block_Load K r_1).bind fun r_2=>((r_2.1).elim (none) (fun x=>(block_Disk_Read K (⟨x.l,x.writes,(⟨x.count.v_⟩ : S_atomic_Int64)⟩ : S_block_Disk) (0:Int)).bind fun r_3=>((wal_zeros K r_3.1).bind fun r_4=>(if r_4=true then (some (some (⟨(⟨(⟨x.l,x.writes,(⟨x.count.v_⟩ : S_atomic_Int64)⟩ : S_block_Disk)⟩ : S_wal_store),size,(0:Int),(0:Int),([] : List (Int × Int))⟩ : S_wal_Log),(0:Int))) else ((sub r_3.1 (2:Int) (10:Int)).bind fun ys1=>((wal_get K ys1).bind fun r_5=>((sub r_3.1 (10:Int) (r_3.1.length:Int)).bind fun ys2=>((wal_two K ys2).bind fun r_6=>((gt r_3.1 (0:Int)).bind fun e1=>((if (!decide (e1=(72:UInt8)))=true then some true else ((gt r_3.1 (1:Int)).bind fun e2=>(some (!decide (e2=(70:UInt8)))))).bind fun b5=>((if (b5 || (decide (r_5 < (0:Int))))=true then some true else ((sub r_3.1 (12:Int) (r_3.1.length:Int)).bind fun ys3=>((wal_zeros K ys3).bind fun r_7=>(some (!r_7))))).bind fun b6=>(if (b6 || (decide (size < r_6)))=true then (some (none,(15:Int))) else ((wal_Open.l1 K K x.l x.writes x.count.v_ size r_5 r_6 ([] : List (Int × Int)) (1:Int)).bind fun q=>(lrc q (fun a=>some a) (fun z=>(fun x8 x9 x10 x11 x12 x13 x14=>some (some (⟨(⟨(⟨x8,x9,(⟨x10⟩ : S_atomic_Int64)⟩ : S_block_Disk)⟩ : S_wal_store),x11,x12,x13,x14⟩ : S_wal_Log),(0:Int))) z.1 z.2.1 z.2.2.1 z.2.2.2.1 z.2.2.2.2.1 z.2.2.2.2.2.1 z.2.2.2.2.2.2))))))))))))))))))

-- holdfast/pager.New
def pager_New (K : Nat) (l : S_wal_Log) (most : Int) : Option ((Option S_pager_Pager) × Int) :=
  if ((decide (most < (1:Int))) || (decide ((64:Int) < most)))=true then (some (none,(2:Int))) else (some (some (⟨(⟨(⟨(⟨l.store.Disk.l,l.store.Disk.writes,l.store.Disk.count⟩ : S_block_Disk)⟩ : S_wal_store),l.size,l.groups,l.used,l.at_⟩ : S_wal_Log),most,([] : List (Int × (List UInt8))),([] : List (Int × (List UInt8))),([] : List Int),([] : List (Int × Bool)),(⟨(0:Int)⟩ : S_atomic_Int64),(⟨(0:Int)⟩ : S_atomic_Int64)⟩ : S_pager_Pager),(0:Int)))

-- math/bits.Len64
def bits_Len64.j3 (K : Nat) (x3 : UInt64) (n3 : Int) : Option Int :=
  (gt ([0,1,2,2,3,3,3,3,4,4,4,4,4,4,4,4,5,5,5,5,5,5,5,5,5,5,5,5,5,5,5,5,6,6,6,6,6,6,6,6,6,6,6,6,6,6,6,6,6,6,6,6,6,6,6,6,6,6,6,6,6,6,6,6,7,7,7,7,7,7,7,7,7,7,7,7,7,7,7,7,7,7,7,7,7,7,7,7,7,7,7,7,7,7,7,7,7,7,7,7,7,7,7,7,7,7,7,7,7,7,7,7,7,7,7,7,7,7,7,7,7,7,7,7,7,7,7,7,8,8,8,8,8,8,8,8,8,8,8,8,8,8,8,8,8,8,8,8,8,8,8,8,8,8,8,8,8,8,8,8,8,8,8,8,8,8,8,8,8,8,8,8,8,8,8,8,8,8,8,8,8,8,8,8,8,8,8,8,8,8,8,8,8,8,8,8,8,8,8,8,8,8,8,8,8,8,8,8,8,8,8,8,8,8,8,8,8,8,8,8,8,8,8,8,8,8,8,8,8,8,8,8,8,8,8,8,8,8,8,8,8,8,8,8,8,8,8,8,8,8,8,8,8,8,8,8] : List UInt8) (x3.toUInt8.toNat:Int)).bind fun e=>(some (W (n3 + (e.toNat:Int))))
def bits_Len64.j2 (K : Nat) (x2 : UInt64) (n2 : Int) : Option Int :=
  if (decide ((256:UInt64)≤x2))=true then (bits_Len64.j3 K (shr64 x2 8) (W (n2 + (8:Int)))) else (bits_Len64.j3 K x2 n2)
def bits_Len64.j1 (K : Nat) (x1 : UInt64) (n1 : Int) : Option Int :=
  if (decide ((65536:UInt64)≤x1))=true then (bits_Len64.j2 K (shr64 x1 16) (W (n1 + (16:Int)))) else (bits_Len64.j2 K x1 n1)
def bits_Len64 (K : Nat) (x : UInt64) : Option Int :=
  if (decide ((4294967296:UInt64)≤x))=true then (bits_Len64.j1 K (shr64 x 32) (32:Int)) else (bits_Len64.j1 K x (0:Int))

-- math/bits.Len
def bits_Len (K : Nat) (x : UInt64) : Option Int :=
  (bits_Len64 K x).bind fun r_=>(some r_)

-- cmp.isNaN[int]
def cmp_isNaN_int (K : Nat) (x : Int) : Option Bool :=
  some (!decide (x=x))

-- cmp.Less[int]
def cmp_Less_int (K : Nat) (x : Int) (y : Int) : Option Bool :=
  (cmp_isNaN_int K x).bind fun r_=>((if r_=true then ((cmp_isNaN_int K y).bind fun r_1=>(some (!r_1))) else some false).bind fun b=>(some (b || (decide (x < y)))))

-- (*holdfast/pager.Pager).Dirty
def pager_Pager_Dirty.m1 (K : Nat) (x : Int × (List UInt8)) (s : (List Int)) : Option (Lr (List Int) (List Int)) :=
  (fun k1 u x=>(some ([k1] : List Int)).bind fun l3=>((app 17592186044416 x l3).bind fun x2=>(some (.go x2)))) x.1 x.2 s
def pager_Pager_Dirty.l3 (K : Nat) : Nat → (List Int) → Int → Option (List Int)
  | 0,_,_=>none
  | k + 1,data1,j=>if (decide ((0:Int) < j))=true then ((gt data1 j).bind fun e1=>((gt data1 (W (j - (1:Int)))).bind fun e2=>((cmp_Less_int K e1 e2).bind fun r_2=>(if r_2=true then ((gt data1 (W (j - (1:Int)))).bind fun e3=>((gt data1 j).bind fun e4=>((req (0≤j∧j < (data1.length:Int))).bind fun u1=>((some (data1.set (j).toNat e3)).bind fun data3=>((req (0≤W (j - (1:Int))∧W (j - (1:Int)) < (data3.length:Int))).bind fun u2=>((some (data3.set (W (j - (1:Int))).toNat e4)).bind fun data4=>(pager_Pager_Dirty.l3 K k data4 (W (j - (1:Int)))))))))) else (some data1))))) else (some data1)
def pager_Pager_Dirty.l2 (K : Nat) : Nat → (List Int) → (List Int) → Int → Option (List Int)
  | 0,_,_,_=>none
  | k + 1,x,data,i=>if (decide (i < (x.length:Int)))=true then ((pager_Pager_Dirty.l3 K K data i).bind fun data2=>(pager_Pager_Dirty.l2 K k x data2 (W (i + (1:Int))))) else (some data)
def pager_Pager_Dirty (K : Nat) (p_ : S_pager_Pager) : Option (List Int) :=
  mrngK (pager_Pager_Dirty.m1 K:Int × (List UInt8)→(List Int)→Option (Lr (List Int) (List Int))) p_.dirty ([] : List Int) fun q=>(lrc q (fun a=>some a) (fun z=>(fun x=>(bits_Len K (iU64 (x.length:Int))).bind fun r_1=>(if (decide (W ((x.length:Int) - (0:Int))≤(12:Int)))=true then ((pager_Pager_Dirty.l2 K K x x (W ((0:Int) + (1:Int)))).bind fun x3=>(some x3)) else (none))) z))

-- slices.IndexFunc[[]byte,byte]
def slices_IndexFunc_byte_byte_126_f84.l1 : Nat → (List UInt8) → Int → Option (Lr Int Unit)
  | 0,_,_=>none
  | k + 1,s,x8=>if (decide (x8 < (s.length:Int)))=true then ((gt s x8).bind fun e1=>(if (!decide (e1=(0:UInt8)))=true then (some (.ret x8)) else (slices_IndexFunc_byte_byte_126_f84.l1 k s (W (x8 + (1:Int)))))) else (some (.go ()))
def slices_IndexFunc_byte_byte_126_f84 (K : Nat) (s : List UInt8) : Option Int :=
  (slices_IndexFunc_byte_byte_126_f84.l1 K s (0:Int)).bind fun q=>(lrc q (fun a=>some a) (fun _=>some (-1:Int)))

-- slices.ContainsFunc[[]byte,byte]
def slices_ContainsFunc_byte_byte_83_f84 (K : Nat) (s : List UInt8) : Option Bool :=
  (slices_IndexFunc_byte_byte_126_f84 K s).bind fun r_=>(some (decide ((0:Int)≤r_)))

-- holdfast/tree.Open
def tree_Open (K : Nat) (p_ : S_pager_Pager) : Option ((Option S_tree_Tree) × Int) :=
  (wal_Log_Pages K (⟨(⟨(⟨p_.l.store.Disk.l,p_.l.store.Disk.writes,p_.l.store.Disk.count⟩ : S_block_Disk)⟩ : S_wal_store),p_.l.size,p_.l.groups,p_.l.used,p_.l.at_⟩ : S_wal_Log)).bind fun r_=>(if (decide (r_ < (2:Int)))=true then (some (none,(2:Int))) else ((pager_Pager_Dirty K (⟨(⟨(⟨(⟨p_.l.store.Disk.l,p_.l.store.Disk.writes,p_.l.store.Disk.count⟩ : S_block_Disk)⟩ : S_wal_store),p_.l.size,p_.l.groups,p_.l.used,p_.l.at_⟩ : S_wal_Log),p_.most,p_.dirty,p_.clean,p_.row,p_.pins,p_.hits,p_.misses⟩ : S_pager_Pager)).bind fun r_1=>(if (decide ((0:Int) < (r_1.length:Int)))=true then (some (none,(3:Int))) else ((pager_Pager_Read K (⟨(⟨(⟨(⟨p_.l.store.Disk.l,p_.l.store.Disk.writes,p_.l.store.Disk.count⟩ : S_block_Disk)⟩ : S_wal_store),p_.l.size,p_.l.groups,p_.l.used,p_.l.at_⟩ : S_wal_Log),p_.most,p_.dirty,p_.clean,p_.row,p_.pins,p_.hits,p_.misses⟩ : S_pager_Pager) (0:Int)).bind fun r_2=>((slices_ContainsFunc_byte_byte_83_f84 K r_2.1).bind fun r_3=>(if (!r_3)=true then (some (some (⟨(⟨(0:Int),(0:Int),(1:Int)⟩ : S_tree_head),(⟨(⟨(⟨(⟨r_2.2.2.l.store.Disk.l,r_2.2.2.l.store.Disk.writes,(⟨r_2.2.2.l.store.Disk.count.v_⟩ : S_atomic_Int64)⟩ : S_block_Disk)⟩ : S_wal_store),r_2.2.2.l.size,r_2.2.2.l.groups,r_2.2.2.l.used,r_2.2.2.l.at_⟩ : S_wal_Log),r_2.2.2.most,r_2.2.2.dirty,r_2.2.2.clean,r_2.2.2.row,r_2.2.2.pins,(⟨r_2.2.2.hits.v_⟩ : S_atomic_Int64),(⟨r_2.2.2.misses.v_⟩ : S_atomic_Int64)⟩ : S_pager_Pager)⟩ : S_tree_Tree),(0:Int))) else (none)))))))

-- holdfast/holdfastlaw05.open
def holdfastlaw05_open (K : Nat) (pages : Int) (size : Int) : Option (S_tree_Tree × Int) :=
  (block_New K (W ((W (pages + size)) + (1:Int)))).bind fun r_=>((r_.1).elim (none) (fun x=>(wal_Open K (⟨x.l,x.writes,(⟨x.count.v_⟩ : S_atomic_Int64)⟩ : S_block_Disk) size).bind fun r_1=>((r_1.1).elim (none) (fun x1=>(pager_New K (⟨(⟨(⟨x1.store.Disk.l,x1.store.Disk.writes,(⟨x1.store.Disk.count.v_⟩ : S_atomic_Int64)⟩ : S_block_Disk)⟩ : S_wal_store),x1.size,x1.groups,x1.used,x1.at_⟩ : S_wal_Log) (8:Int)).bind fun r_2=>((r_2.1).elim (none) (fun x2=>(tree_Open K (⟨(⟨(⟨(⟨x2.l.store.Disk.l,x2.l.store.Disk.writes,(⟨x2.l.store.Disk.count.v_⟩ : S_atomic_Int64)⟩ : S_block_Disk)⟩ : S_wal_store),x2.l.size,x2.l.groups,x2.l.used,x2.l.at_⟩ : S_wal_Log),x2.most,x2.dirty,x2.clean,x2.row,x2.pins,(⟨x2.hits.v_⟩ : S_atomic_Int64),(⟨x2.misses.v_⟩ : S_atomic_Int64)⟩ : S_pager_Pager)).bind fun r_3=>((r_3.1).elim (none) (fun x3=>some ((⟨(⟨x3.head.root,x3.head.free,x3.head.fresh⟩ : S_tree_head),(⟨(⟨(⟨(⟨x3.p_.l.store.Disk.l,x3.p_.l.store.Disk.writes,(⟨x3.p_.l.store.Disk.count.v_⟩ : S_atomic_Int64)⟩ : S_block_Disk)⟩ : S_wal_store),x3.p_.l.size,x3.p_.l.groups,x3.p_.l.used,x3.p_.l.at_⟩ : S_wal_Log),x3.p_.most,x3.p_.dirty,x3.p_.clean,x3.p_.row,x3.p_.pins,(⟨x3.p_.hits.v_⟩ : S_atomic_Int64),(⟨x3.p_.misses.v_⟩ : S_atomic_Int64)⟩ : S_pager_Pager)⟩ : S_tree_Tree),r_3.2)))))))))

-- (holdfast/tree.node).page
def tree_node_page.l1 : Nat → S_tree_node → (List UInt8) → Int → Option (List UInt8)
  | 0,_,_,_=>none
  | k + 1,n1,b2,x29=>if (decide (x29 < (n1.l.length:Int)))=true then ((gt n1.l x29).bind fun e1=>((some ([iU8 (e1.key.length:Int)] : List UInt8)).bind fun l1=>((appz 256 b2 l1).bind fun b7=>((appz 256 b7 e1.key).bind fun b8=>(if n1.leaf=true then ((some ([iU8 (e1.value.length:Int)] : List UInt8)).bind fun l2=>((appz 256 b8 l2).bind fun b10=>((appz 256 b10 e1.value).bind fun b11=>(tree_node_page.l1 k n1 b11 (W (x29 + (1:Int))))))) else ((some ([iU8 (shrI e1.page 8),iU8 e1.page] : List UInt8)).bind fun l3=>((appz 256 b8 l3).bind fun b12=>(tree_node_page.l1 k n1 b12 (W (x29 + (1:Int))))))))))) else (some b2)
def tree_node_page.j1 (K : Nat) (n1 : S_tree_node) (b1 : List UInt8) : Option (List UInt8) :=
  (tree_node_page.l1 K n1 b1 (0:Int)).bind fun b3=>((some (b3++List.replicate (256 - b3.length) (0:UInt8))).bind fun b13=>(some b13))
def tree_node_page (K : Nat) (n1 : S_tree_node) : Option (List UInt8) :=
  (some ([0,0,0] : List UInt8)).bind fun xs=>((req (0≤(0:Int)∧(0:Int) < (xs.length:Int))).bind fun u=>((some (xs.set ((0:Int)).toNat (73:UInt8))).bind fun xs1=>((req (0≤(1:Int)∧(1:Int) < (xs1.length:Int))).bind fun u1=>((some (xs1.set ((1:Int)).toNat (iU8 (shrI (n1.l.length:Int) 8)))).bind fun xs2=>((req (0≤(2:Int)∧(2:Int) < (xs2.length:Int))).bind fun u2=>((some (xs2.set ((2:Int)).toNat (iU8 (n1.l.length:Int)))).bind fun xs3=>(if n1.leaf=true then ((req (0≤(0:Int)∧(0:Int) < (xs3.length:Int))).bind fun u3=>((some (xs3.set ((0:Int)).toNat (76:UInt8))).bind fun xs4=>(tree_node_page.j1 K n1 xs4))) else (tree_node_page.j1 K n1 xs3))))))))

-- (*holdfast/pager.Pager).Log
def pager_Pager_Log (K : Nat) (p_ : S_pager_Pager) : Option Unit :=
  some ()

-- (holdfast/tree.node).size
def tree_node_size (K : Nat) (n1 : S_tree_node) (e1 : S_tree_entry) : Option Int :=
  if n1.leaf=true then (some (W ((W ((e1.key.length:Int) + (e1.value.length:Int))) + (2:Int)))) else (some (W ((e1.key.length:Int) + (3:Int))))

-- (holdfast/tree.node).bytes
def tree_node_bytes.l1 (K : Nat) : Nat → S_tree_node → Int → Int → Option Int
  | 0,_,_,_=>none
  | k + 1,n1,s1,x9=>if (decide (x9 < (n1.l.length:Int)))=true then ((gt n1.l x9).bind fun e1=>((tree_node_size K (⟨n1.leaf,n1.l⟩ : S_tree_node) (⟨e1.key,e1.value,e1.page⟩ : S_tree_entry)).bind fun r_=>(tree_node_bytes.l1 K k n1 (W (s1 + r_)) (W (x9 + (1:Int)))))) else (some s1)
def tree_node_bytes (K : Nat) (n1 : S_tree_node) : Option Int :=
  (tree_node_bytes.l1 K K n1 (0:Int) (0:Int)).bind fun s2=>(some s2)

-- (*holdfast/tree.change).give
def tree_change_give (K : Nat) (c_ : S_tree_change) (page : Int) : Option S_tree_change :=
  (some (List.replicate 256 (0:UInt8))).bind fun b10=>((req (0≤(0:Int)∧(0:Int) < (b10.length:Int))).bind fun u=>((some (b10.set ((0:Int)).toNat (70:UInt8))).bind fun b11=>((req (0≤(1:Int)∧(1:Int) < (b11.length:Int))).bind fun u1=>((some (b11.set ((1:Int)).toNat (iU8 (shrI c_.head.free 8)))).bind fun b12=>((req (0≤(2:Int)∧(2:Int) < (b12.length:Int))).bind fun u2=>((some (b12.set ((2:Int)).toNat (iU8 c_.head.free))).bind fun b13=>((some (msetC c_.pages page b13)).bind fun m=>(some (⟨(⟨c_.head.root,page,c_.head.fresh⟩ : S_tree_head),(⟨c_.t.head,(⟨(⟨(⟨(⟨c_.t.p_.l.store.Disk.l,c_.t.p_.l.store.Disk.writes,c_.t.p_.l.store.Disk.count⟩ : S_block_Disk)⟩ : S_wal_store),c_.t.p_.l.size,c_.t.p_.l.groups,c_.t.p_.l.used,c_.t.p_.l.at_⟩ : S_wal_Log),c_.t.p_.most,c_.t.p_.dirty,c_.t.p_.clean,c_.t.p_.row,c_.t.p_.pins,c_.t.p_.hits,c_.t.p_.misses⟩ : S_pager_Pager)⟩ : S_tree_Tree),m⟩ : S_tree_change)))))))))

-- (holdfast/tree.head).page
def tree_head_page.l1 : Nat → (List Int) → (List UInt8) → Int → Option (List UInt8)
  | 0,_,_,_=>none
  | k + 1,l,b5,x19=>if (decide (x19 < (l.length:Int)))=true then ((gt l x19).bind fun e1=>((req (0≤W ((2:Int) + (W ((2:Int) * x19)))∧W ((2:Int) + (W ((2:Int) * x19))) < (b5.length:Int))).bind fun u2=>((some (b5.set (W ((2:Int) + (W ((2:Int) * x19)))).toNat (iU8 (shrI e1 8)))).bind fun b8=>((req (0≤W ((3:Int) + (W ((2:Int) * x19)))∧W ((3:Int) + (W ((2:Int) * x19))) < (b8.length:Int))).bind fun u3=>((some (b8.set (W ((3:Int) + (W ((2:Int) * x19)))).toNat (iU8 e1))).bind fun b10=>(tree_head_page.l1 k l b10 (W (x19 + (1:Int))))))))) else (some b5)
def tree_head_page (K : Nat) (h : S_tree_head) : Option (List UInt8) :=
  (some (List.replicate 256 (0:UInt8))).bind fun b1=>((req (0≤(0:Int)∧(0:Int) < (b1.length:Int))).bind fun u=>((some (b1.set ((0:Int)).toNat (72:UInt8))).bind fun b2=>((req (0≤(1:Int)∧(1:Int) < (b2.length:Int))).bind fun u1=>((some (b2.set ((1:Int)).toNat (84:UInt8))).bind fun b4=>((some ([h.root,h.free,h.fresh] : List Int)).bind fun l=>((tree_head_page.l1 K l b4 (0:Int)).bind fun b6=>(some b6)))))))

-- slices.isNaN[int]
def slices_isNaN_int (K : Nat) (x : Int) : Option Bool :=
  some (!decide (x=x))

-- slices.BinarySearch[[]int,int]
def slices_BinarySearch_int_int.l1 (K : Nat) : Nat → (List Int) → Int → Int → Int → Option Int
  | 0,_,_,_,_=>none
  | k + 1,x,target,i1,j=>if (decide (i1 < j))=true then ((gt x (W ((shr64 (iU64 (W (i1 + j))) 1).toNat:Int))).bind fun e1=>((cmp_Less_int K e1 target).bind fun r_=>(if r_=true then (slices_BinarySearch_int_int.l1 K k x target (W ((W ((shr64 (iU64 (W (i1 + j))) 1).toNat:Int)) + (1:Int))) j) else (slices_BinarySearch_int_int.l1 K k x target i1 (W ((shr64 (iU64 (W (i1 + j))) 1).toNat:Int)))))) else (some i1)
def slices_BinarySearch_int_int (K : Nat) (x : List Int) (target : Int) : Option (Int × Bool) :=
  (slices_BinarySearch_int_int.l1 K K x target (0:Int) (x.length:Int)).bind fun i2=>((if (decide (i2 < (x.length:Int)))=true then ((gt x i2).bind fun e2=>((if (decide (e2=target))=true then some true else ((gt x i2).bind fun e3=>((slices_isNaN_int K e3).bind fun r_1=>((if r_1=true then ((slices_isNaN_int K target).bind fun r_2=>(some r_2)) else some false).bind fun b2=>(some b2))))).bind fun b1=>(some b1))) else some false).bind fun b=>(some (i2,b)))

-- (*holdfast/tree.Tree).do$1


-- (*holdfast/pager.Pager).Write
def pager_Pager_Write.l1 (K : Nat) : Nat → Int → (List Int) → Int → Int → Option ((List Int) × Int)
  | 0,_,_,_,_=>none
  | k + 1,n1,s10,i1,j=>if (decide (j < (s10.length:Int)))=true then ((gt s10 j).bind fun e1=>((pager_Pager_drop_1 K e1 n1).bind fun r_3=>(if (!r_3)=true then ((req (0≤i1∧i1 < (s10.length:Int))).bind fun u=>((some (s10.set (i1).toNat e1)).bind fun s15=>(pager_Pager_Write.l1 K k n1 s15 (W (i1 + (1:Int))) (W (j + (1:Int)))))) else (pager_Pager_Write.l1 K k n1 s10 i1 (W (j + (1:Int))))))) else (some (s10,i1))
def pager_Pager_Write (K : Nat) (p_ : S_pager_Pager) (n1 : Int) (b7 : List UInt8) : Option (Int × S_pager_Pager) :=
  (pager_Pager_look K (⟨(⟨(⟨(⟨p_.l.store.Disk.l,p_.l.store.Disk.writes,p_.l.store.Disk.count⟩ : S_block_Disk)⟩ : S_wal_store),p_.l.size,p_.l.groups,p_.l.used,p_.l.at_⟩ : S_wal_Log),p_.most,p_.dirty,p_.clean,p_.row,p_.pins,p_.hits,p_.misses⟩ : S_pager_Pager) n1).bind fun r_=>(if (!decide (r_=(0:Int)))=true then (some (r_,(⟨(⟨(⟨(⟨p_.l.store.Disk.l,p_.l.store.Disk.writes,p_.l.store.Disk.count⟩ : S_block_Disk)⟩ : S_wal_store),p_.l.size,p_.l.groups,p_.l.used,p_.l.at_⟩ : S_wal_Log),p_.most,p_.dirty,p_.clean,p_.row,p_.pins,p_.hits,p_.misses⟩ : S_pager_Pager))) else (if (!decide ((b7.length:Int)=(256:Int)))=true then (some ((3:Int),(⟨(⟨(⟨(⟨p_.l.store.Disk.l,p_.l.store.Disk.writes,p_.l.store.Disk.count⟩ : S_block_Disk)⟩ : S_wal_store),p_.l.size,p_.l.groups,p_.l.used,p_.l.at_⟩ : S_wal_Log),p_.most,p_.dirty,p_.clean,p_.row,p_.pins,p_.hits,p_.misses⟩ : S_pager_Pager))) else (if ((!((mget p_.dirty n1).isSome)) && (decide ((100:Int)≤(p_.dirty.length:Int))))=true then (some ((6:Int),(⟨(⟨(⟨(⟨p_.l.store.Disk.l,p_.l.store.Disk.writes,p_.l.store.Disk.count⟩ : S_block_Disk)⟩ : S_wal_store),p_.l.size,p_.l.groups,p_.l.used,p_.l.at_⟩ : S_wal_Log),p_.most,p_.dirty,p_.clean,p_.row,p_.pins,p_.hits,p_.misses⟩ : S_pager_Pager))) else ((bytes_Clone K b7).bind fun r_1=>((some (msetC p_.dirty n1 r_1)).bind fun m=>((slices_IndexFunc_int_int_f141 K p_.row n1).bind fun r_2=>(if (decide (r_2=(-1:Int)))=true then ((some (mdel p_.clean n1)).bind fun m1=>((some (mdel p_.pins n1)).bind fun m2=>(some ((0:Int),(⟨(⟨(⟨(⟨p_.l.store.Disk.l,p_.l.store.Disk.writes,p_.l.store.Disk.count⟩ : S_block_Disk)⟩ : S_wal_store),p_.l.size,p_.l.groups,p_.l.used,p_.l.at_⟩ : S_wal_Log),p_.most,m,m1,p_.row,m2,p_.hits,p_.misses⟩ : S_pager_Pager))))) else ((pager_Pager_Write.l1 K K n1 p_.row r_2 (W (r_2 + (1:Int)))).bind fun q=>((fun s11 i2=>(req (0≤i2∧i2≤(s11.length:Int))).bind fun u1=>((some (s11.take (i2).toNat++List.replicate (s11.length - (i2).toNat) (0:Int))).bind fun s18=>((sub s18 (0:Int) i2).bind fun ys1=>((some (mdel p_.clean n1)).bind fun m3=>((some (mdel p_.pins n1)).bind fun m4=>(some ((0:Int),(⟨(⟨(⟨(⟨p_.l.store.Disk.l,p_.l.store.Disk.writes,p_.l.store.Disk.count⟩ : S_block_Disk)⟩ : S_wal_store),p_.l.size,p_.l.groups,p_.l.used,p_.l.at_⟩ : S_wal_Log),p_.most,m,m3,ys1,m4,p_.hits,p_.misses⟩ : S_pager_Pager)))))))) q.1 q.2)))))))))

-- (holdfast/tree.node).half
-- (*holdfast/tree.Tree).Put
def tree_Tree_Put.j7 (K : Nat) (x46 : List (List UInt8)) (x47 : List S_block_write) (x48 : Int) (x49 : Int) (x50 : Int) (x51 : Int) (x52 : List (Int × Int)) (x53 : Int) (x54 : List (Int × (List UInt8))) (x55 : List (Int × (List UInt8))) (x56 : List Int) (x57 : List (Int × Bool)) (x58 : Int) (x59 : Int) (b43 : List UInt8) : Option (Int × S_tree_Tree) :=
  none
def tree_Tree_Put.j11 (K : Nat) : Option (Int × S_tree_Tree) :=
  none
def tree_Tree_Put.j10 (K : Nat) (b67 : List UInt8) (x74 : List (List UInt8)) (x75 : List S_block_write) (x76 : Int) (x77 : Int) (x78 : Int) (x79 : Int) (x80 : List (Int × Int)) (x81 : Int) (x82 : List (Int × (List UInt8))) (x83 : List (Int × (List UInt8))) (x84 : List Int) (x85 : List (Int × Bool)) (x86 : Int) (x87 : Int) : Option (Int × S_tree_Tree) :=
  (tree_parsed K b67).bind fun r_16=>(if (!r_16.2)=true then (none) else (tree_Tree_Put.j11 K))
def tree_Tree_Put.m1 (K : Nat) (r_18 : (List Int)) (x : Int × (List UInt8)) (s : Int) : Option (Lr Unit Int) :=
  (fun k1 u n1=>(slices_BinarySearch_int_int K r_18 k1).bind fun r_19=>(if (!r_19.2)=true then (some (.go (W (n1 + (1:Int))))) else (some (.go n1)))) x.1 x.2 s
def tree_Tree_Put.m2 (K : Nat) (x : Int × (List UInt8)) (s : (List (List UInt8)) × (List S_block_write) × Int × Int × Int × Int × (List (Int × Int)) × Int × (List (Int × (List UInt8))) × (List (Int × (List UInt8))) × (List Int) × (List (Int × Bool)) × Int × Int) : Option (Lr Unit ((List (List UInt8)) × (List S_block_write) × Int × Int × Int × Int × (List (Int × Int)) × Int × (List (Int × (List UInt8))) × (List (Int × (List UInt8))) × (List Int) × (List (Int × Bool)) × Int × Int)) :=
  (fun k2 u1 x89 x90 x91 x92 x93 x94 x95 x96 x97 x98 x99 x100 x101 x102=>(pager_Pager_Write K (⟨(⟨(⟨(⟨x89,x90,(⟨x91⟩ : S_atomic_Int64)⟩ : S_block_Disk)⟩ : S_wal_store),x92,x93,x94,x95⟩ : S_wal_Log),x96,x97,x98,x99,x100,(⟨x101⟩ : S_atomic_Int64),(⟨x102⟩ : S_atomic_Int64)⟩ : S_pager_Pager) k2 u1).bind fun r_20=>(some (.go (r_20.2.l.store.Disk.l,r_20.2.l.store.Disk.writes,r_20.2.l.store.Disk.count.v_,r_20.2.l.size,r_20.2.l.groups,r_20.2.l.used,r_20.2.l.at_,r_20.2.most,r_20.2.dirty,r_20.2.clean,r_20.2.row,r_20.2.pins,r_20.2.hits.v_,r_20.2.misses.v_)))) x.1 x.2 s.1 s.2.1 s.2.2.1 s.2.2.2.1 s.2.2.2.2.1 s.2.2.2.2.2.1 s.2.2.2.2.2.2.1 s.2.2.2.2.2.2.2.1 s.2.2.2.2.2.2.2.2.1 s.2.2.2.2.2.2.2.2.2.1 s.2.2.2.2.2.2.2.2.2.2.1 s.2.2.2.2.2.2.2.2.2.2.2.1 s.2.2.2.2.2.2.2.2.2.2.2.2.1 s.2.2.2.2.2.2.2.2.2.2.2.2.2
def tree_Tree_Put.j9 (K : Nat) (r_13 : S_tree_node × Bool) (x14 : Int) (x15 : Int) (x16 : Int) (t : S_tree_Tree) (x60 : List (List UInt8)) (x61 : List S_block_write) (x62 : Int) (x63 : Int) (x64 : Int) (x65 : Int) (x66 : List (Int × Int)) (x67 : Int) (x68 : List (Int × (List UInt8))) (x69 : List (Int × (List UInt8))) (x70 : List Int) (x71 : List (Int × Bool)) (x72 : Int) (x73 : Int) (m2 : List (Int × (List UInt8))) : Option (Int × S_tree_Tree) :=
  if ((!r_13.1.leaf) && (decide ((r_13.1.l.length:Int)=(1:Int))))=true then ((tree_change_give K (⟨(⟨x14,x15,x16⟩ : S_tree_head),(⟨t.head,(⟨(⟨(⟨(⟨x60,x61,(⟨x62⟩ : S_atomic_Int64)⟩ : S_block_Disk)⟩ : S_wal_store),x63,x64,x65,x66⟩ : S_wal_Log),x67,x68,x69,x70,x71,(⟨x72⟩ : S_atomic_Int64),(⟨x73⟩ : S_atomic_Int64)⟩ : S_pager_Pager)⟩ : S_tree_Tree),m2⟩ : S_tree_change) x14).bind fun r_14=>((gt r_13.1.l (0:Int)).bind fun e18=>(if (!((mget r_14.pages e18.page).isSome))=true then ((pager_Pager_Read K (⟨(⟨(⟨(⟨r_14.t.p_.l.store.Disk.l,r_14.t.p_.l.store.Disk.writes,(⟨r_14.t.p_.l.store.Disk.count.v_⟩ : S_atomic_Int64)⟩ : S_block_Disk)⟩ : S_wal_store),r_14.t.p_.l.size,r_14.t.p_.l.groups,r_14.t.p_.l.used,r_14.t.p_.l.at_⟩ : S_wal_Log),r_14.t.p_.most,r_14.t.p_.dirty,r_14.t.p_.clean,r_14.t.p_.row,r_14.t.p_.pins,(⟨r_14.t.p_.hits.v_⟩ : S_atomic_Int64),(⟨r_14.t.p_.misses.v_⟩ : S_atomic_Int64)⟩ : S_pager_Pager) e18.page).bind fun r_15=>(tree_Tree_Put.j10 K r_15.1 r_15.2.2.l.store.Disk.l r_15.2.2.l.store.Disk.writes r_15.2.2.l.store.Disk.count.v_ r_15.2.2.l.size r_15.2.2.l.groups r_15.2.2.l.used r_15.2.2.l.at_ r_15.2.2.most r_15.2.2.dirty r_15.2.2.clean r_15.2.2.row r_15.2.2.pins r_15.2.2.hits.v_ r_15.2.2.misses.v_)) else (tree_Tree_Put.j10 K ((mget r_14.pages e18.page).getD []) r_14.t.p_.l.store.Disk.l r_14.t.p_.l.store.Disk.writes r_14.t.p_.l.store.Disk.count.v_ r_14.t.p_.l.size r_14.t.p_.l.groups r_14.t.p_.l.used r_14.t.p_.l.at_ r_14.t.p_.most r_14.t.p_.dirty r_14.t.p_.clean r_14.t.p_.row r_14.t.p_.pins r_14.t.p_.hits.v_ r_14.t.p_.misses.v_)))) else ((tree_head_page K (⟨x14,x15,x16⟩ : S_tree_head)).bind fun r_17=>((some (msetC m2 (0:Int) r_17)).bind fun m3=>((pager_Pager_Dirty K (⟨(⟨(⟨(⟨x60,x61,(⟨x62⟩ : S_atomic_Int64)⟩ : S_block_Disk)⟩ : S_wal_store),x63,x64,x65,x66⟩ : S_wal_Log),x67,x68,x69,x70,x71,(⟨x72⟩ : S_atomic_Int64),(⟨x73⟩ : S_atomic_Int64)⟩ : S_pager_Pager)).bind fun r_18=>(mrngK (tree_Tree_Put.m1 K r_18:Int × (List UInt8)→Int→Option (Lr Unit Int)) m3 (r_18.length:Int) fun q=>(lrc q (fun a=>none) (fun z=>(fun n1=>if (decide ((100:Int) < n1))=true then (some ((7:Int),(⟨t.head,(⟨(⟨(⟨(⟨x60,x61,(⟨x62⟩ : S_atomic_Int64)⟩ : S_block_Disk)⟩ : S_wal_store),x63,x64,x65,x66⟩ : S_wal_Log),x67,x68,x69,x70,x71,(⟨x72⟩ : S_atomic_Int64),(⟨x73⟩ : S_atomic_Int64)⟩ : S_pager_Pager)⟩ : S_tree_Tree))) else (mrngK (tree_Tree_Put.m2 K:Int × (List UInt8)→(List (List UInt8)) × (List S_block_write) × Int × Int × Int × Int × (List (Int × Int)) × Int × (List (Int × (List UInt8))) × (List (Int × (List UInt8))) × (List Int) × (List (Int × Bool)) × Int × Int→Option (Lr Unit ((List (List UInt8)) × (List S_block_write) × Int × Int × Int × Int × (List (Int × Int)) × Int × (List (Int × (List UInt8))) × (List (Int × (List UInt8))) × (List Int) × (List (Int × Bool)) × Int × Int))) m3 (x60,x61,x62,x63,x64,x65,x66,x67,x68,x69,x70,x71,x72,x73) fun q1=>(lrc q1 (fun a=>none) (fun z=>(fun x89 x90 x91 x92 x93 x94 x95 x96 x97 x98 x99 x100 x101 x102=>some ((0:Int),(⟨(⟨x14,x15,x16⟩ : S_tree_head),(⟨(⟨(⟨(⟨x89,x90,(⟨x91⟩ : S_atomic_Int64)⟩ : S_block_Disk)⟩ : S_wal_store),x92,x93,x94,x95⟩ : S_wal_Log),x96,x97,x98,x99,x100,(⟨x101⟩ : S_atomic_Int64),(⟨x102⟩ : S_atomic_Int64)⟩ : S_pager_Pager)⟩ : S_tree_Tree))) z.1 z.2.1 z.2.2.1 z.2.2.2.1 z.2.2.2.2.1 z.2.2.2.2.2.1 z.2.2.2.2.2.2.1 z.2.2.2.2.2.2.2.1 z.2.2.2.2.2.2.2.2.1 z.2.2.2.2.2.2.2.2.2.1 z.2.2.2.2.2.2.2.2.2.2.1 z.2.2.2.2.2.2.2.2.2.2.2.1 z.2.2.2.2.2.2.2.2.2.2.2.2.1 z.2.2.2.2.2.2.2.2.2.2.2.2.2)))) z))))))
def tree_Tree_Put.j8 (K : Nat) (x14 : Int) (x15 : Int) (x16 : Int) (t : S_tree_Tree) (m2 : List (Int × (List UInt8))) (b49 : List UInt8) (x60 : List (List UInt8)) (x61 : List S_block_write) (x62 : Int) (x63 : Int) (x64 : Int) (x65 : Int) (x66 : List (Int × Int)) (x67 : Int) (x68 : List (Int × (List UInt8))) (x69 : List (Int × (List UInt8))) (x70 : List Int) (x71 : List (Int × Bool)) (x72 : Int) (x73 : Int) : Option (Int × S_tree_Tree) :=
  (tree_parsed K b49).bind fun r_13=>(if (!r_13.2)=true then (none) else (tree_Tree_Put.j9 K r_13 x14 x15 x16 t x60 x61 x62 x63 x64 x65 x66 x67 x68 x69 x70 x71 x72 x73 m2))
def tree_Tree_Put.j6 (K : Nat) (m2 : List (Int × (List UInt8))) (x14 : Int) (x32 : List (List UInt8)) (x33 : List S_block_write) (x34 : Int) (x35 : Int) (x36 : Int) (x37 : Int) (x38 : List (Int × Int)) (x39 : Int) (x40 : List (Int × (List UInt8))) (x41 : List (Int × (List UInt8))) (x42 : List Int) (x43 : List (Int × Bool)) (x44 : Int) (x45 : Int) (x15 : Int) (x16 : Int) (t : S_tree_Tree) : Option (Int × S_tree_Tree) :=
  if (!((mget m2 x14).isSome))=true then ((pager_Pager_Read K (⟨(⟨(⟨(⟨x32,x33,(⟨x34⟩ : S_atomic_Int64)⟩ : S_block_Disk)⟩ : S_wal_store),x35,x36,x37,x38⟩ : S_wal_Log),x39,x40,x41,x42,x43,(⟨x44⟩ : S_atomic_Int64),(⟨x45⟩ : S_atomic_Int64)⟩ : S_pager_Pager) x14).bind fun r_12=>(tree_Tree_Put.j8 K x14 x15 x16 t m2 r_12.1 r_12.2.2.l.store.Disk.l r_12.2.2.l.store.Disk.writes r_12.2.2.l.store.Disk.count.v_ r_12.2.2.l.size r_12.2.2.l.groups r_12.2.2.l.used r_12.2.2.l.at_ r_12.2.2.most r_12.2.2.dirty r_12.2.2.clean r_12.2.2.row r_12.2.2.pins r_12.2.2.hits.v_ r_12.2.2.misses.v_)) else (tree_Tree_Put.j8 K x14 x15 x16 t m2 ((mget m2 x14).getD []) x32 x33 x34 x35 x36 x37 x38 x39 x40 x41 x42 x43 x44 x45)
def tree_Tree_Put.j13 (K : Nat) (x104 : List (List UInt8)) (x105 : List S_block_write) (x106 : Int) (x107 : Int) (x108 : Int) (x109 : Int) (x110 : List (Int × Int)) (x111 : Int) (x112 : List (Int × (List UInt8))) (x113 : List (Int × (List UInt8))) (x114 : List Int) (x115 : List (Int × Bool)) (x116 : Int) (x117 : Int) (b92 : List UInt8) : Option (Int × S_tree_Tree) :=
  none
def tree_Tree_Put.j17 (K : Nat) : Option (Int × S_tree_Tree) :=
  none
def tree_Tree_Put.j16 (K : Nat) (b116 : List UInt8) (x132 : List (List UInt8)) (x133 : List S_block_write) (x134 : Int) (x135 : Int) (x136 : Int) (x137 : Int) (x138 : List (Int × Int)) (x139 : Int) (x140 : List (Int × (List UInt8))) (x141 : List (Int × (List UInt8))) (x142 : List Int) (x143 : List (Int × Bool)) (x144 : Int) (x145 : Int) : Option (Int × S_tree_Tree) :=
  (tree_parsed K b116).bind fun r_28=>(if (!r_28.2)=true then (none) else (tree_Tree_Put.j17 K))
def tree_Tree_Put.m3 (K : Nat) (r_30 : (List Int)) (x : Int × (List UInt8)) (s : Int) : Option (Lr Unit Int) :=
  (fun k3 u2 n2=>(slices_BinarySearch_int_int K r_30 k3).bind fun r_31=>(if (!r_31.2)=true then (some (.go (W (n2 + (1:Int))))) else (some (.go n2)))) x.1 x.2 s
def tree_Tree_Put.m4 (K : Nat) (x : Int × (List UInt8)) (s : (List (List UInt8)) × (List S_block_write) × Int × Int × Int × Int × (List (Int × Int)) × Int × (List (Int × (List UInt8))) × (List (Int × (List UInt8))) × (List Int) × (List (Int × Bool)) × Int × Int) : Option (Lr Unit ((List (List UInt8)) × (List S_block_write) × Int × Int × Int × Int × (List (Int × Int)) × Int × (List (Int × (List UInt8))) × (List (Int × (List UInt8))) × (List Int) × (List (Int × Bool)) × Int × Int)) :=
  (fun k4 u3 x147 x148 x149 x150 x151 x152 x153 x154 x155 x156 x157 x158 x159 x160=>(pager_Pager_Write K (⟨(⟨(⟨(⟨x147,x148,(⟨x149⟩ : S_atomic_Int64)⟩ : S_block_Disk)⟩ : S_wal_store),x150,x151,x152,x153⟩ : S_wal_Log),x154,x155,x156,x157,x158,(⟨x159⟩ : S_atomic_Int64),(⟨x160⟩ : S_atomic_Int64)⟩ : S_pager_Pager) k4 u3).bind fun r_32=>(some (.go (r_32.2.l.store.Disk.l,r_32.2.l.store.Disk.writes,r_32.2.l.store.Disk.count.v_,r_32.2.l.size,r_32.2.l.groups,r_32.2.l.used,r_32.2.l.at_,r_32.2.most,r_32.2.dirty,r_32.2.clean,r_32.2.row,r_32.2.pins,r_32.2.hits.v_,r_32.2.misses.v_)))) x.1 x.2 s.1 s.2.1 s.2.2.1 s.2.2.2.1 s.2.2.2.2.1 s.2.2.2.2.2.1 s.2.2.2.2.2.2.1 s.2.2.2.2.2.2.2.1 s.2.2.2.2.2.2.2.2.1 s.2.2.2.2.2.2.2.2.2.1 s.2.2.2.2.2.2.2.2.2.2.1 s.2.2.2.2.2.2.2.2.2.2.2.1 s.2.2.2.2.2.2.2.2.2.2.2.2.1 s.2.2.2.2.2.2.2.2.2.2.2.2.2
def tree_Tree_Put.j15 (K : Nat) (r_25 : S_tree_node × Bool) (x14 : Int) (x15 : Int) (x16 : Int) (t : S_tree_Tree) (x118 : List (List UInt8)) (x119 : List S_block_write) (x120 : Int) (x121 : Int) (x122 : Int) (x123 : Int) (x124 : List (Int × Int)) (x125 : Int) (x126 : List (Int × (List UInt8))) (x127 : List (Int × (List UInt8))) (x128 : List Int) (x129 : List (Int × Bool)) (x130 : Int) (x131 : Int) (m4 : List (Int × (List UInt8))) : Option (Int × S_tree_Tree) :=
  if ((!r_25.1.leaf) && (decide ((r_25.1.l.length:Int)=(1:Int))))=true then ((tree_change_give K (⟨(⟨x14,x15,x16⟩ : S_tree_head),(⟨t.head,(⟨(⟨(⟨(⟨x118,x119,(⟨x120⟩ : S_atomic_Int64)⟩ : S_block_Disk)⟩ : S_wal_store),x121,x122,x123,x124⟩ : S_wal_Log),x125,x126,x127,x128,x129,(⟨x130⟩ : S_atomic_Int64),(⟨x131⟩ : S_atomic_Int64)⟩ : S_pager_Pager)⟩ : S_tree_Tree),m4⟩ : S_tree_change) x14).bind fun r_26=>((gt r_25.1.l (0:Int)).bind fun e38=>(if (!((mget r_26.pages e38.page).isSome))=true then ((pager_Pager_Read K (⟨(⟨(⟨(⟨r_26.t.p_.l.store.Disk.l,r_26.t.p_.l.store.Disk.writes,(⟨r_26.t.p_.l.store.Disk.count.v_⟩ : S_atomic_Int64)⟩ : S_block_Disk)⟩ : S_wal_store),r_26.t.p_.l.size,r_26.t.p_.l.groups,r_26.t.p_.l.used,r_26.t.p_.l.at_⟩ : S_wal_Log),r_26.t.p_.most,r_26.t.p_.dirty,r_26.t.p_.clean,r_26.t.p_.row,r_26.t.p_.pins,(⟨r_26.t.p_.hits.v_⟩ : S_atomic_Int64),(⟨r_26.t.p_.misses.v_⟩ : S_atomic_Int64)⟩ : S_pager_Pager) e38.page).bind fun r_27=>(tree_Tree_Put.j16 K r_27.1 r_27.2.2.l.store.Disk.l r_27.2.2.l.store.Disk.writes r_27.2.2.l.store.Disk.count.v_ r_27.2.2.l.size r_27.2.2.l.groups r_27.2.2.l.used r_27.2.2.l.at_ r_27.2.2.most r_27.2.2.dirty r_27.2.2.clean r_27.2.2.row r_27.2.2.pins r_27.2.2.hits.v_ r_27.2.2.misses.v_)) else (tree_Tree_Put.j16 K ((mget r_26.pages e38.page).getD []) r_26.t.p_.l.store.Disk.l r_26.t.p_.l.store.Disk.writes r_26.t.p_.l.store.Disk.count.v_ r_26.t.p_.l.size r_26.t.p_.l.groups r_26.t.p_.l.used r_26.t.p_.l.at_ r_26.t.p_.most r_26.t.p_.dirty r_26.t.p_.clean r_26.t.p_.row r_26.t.p_.pins r_26.t.p_.hits.v_ r_26.t.p_.misses.v_)))) else ((tree_head_page K (⟨x14,x15,x16⟩ : S_tree_head)).bind fun r_29=>((some (msetC m4 (0:Int) r_29)).bind fun m5=>((pager_Pager_Dirty K (⟨(⟨(⟨(⟨x118,x119,(⟨x120⟩ : S_atomic_Int64)⟩ : S_block_Disk)⟩ : S_wal_store),x121,x122,x123,x124⟩ : S_wal_Log),x125,x126,x127,x128,x129,(⟨x130⟩ : S_atomic_Int64),(⟨x131⟩ : S_atomic_Int64)⟩ : S_pager_Pager)).bind fun r_30=>(mrngK (tree_Tree_Put.m3 K r_30:Int × (List UInt8)→Int→Option (Lr Unit Int)) m5 (r_30.length:Int) fun q2=>(lrc q2 (fun a=>none) (fun z=>(fun n2=>if (decide ((100:Int) < n2))=true then (some ((7:Int),(⟨t.head,(⟨(⟨(⟨(⟨x118,x119,(⟨x120⟩ : S_atomic_Int64)⟩ : S_block_Disk)⟩ : S_wal_store),x121,x122,x123,x124⟩ : S_wal_Log),x125,x126,x127,x128,x129,(⟨x130⟩ : S_atomic_Int64),(⟨x131⟩ : S_atomic_Int64)⟩ : S_pager_Pager)⟩ : S_tree_Tree))) else (mrngK (tree_Tree_Put.m4 K:Int × (List UInt8)→(List (List UInt8)) × (List S_block_write) × Int × Int × Int × Int × (List (Int × Int)) × Int × (List (Int × (List UInt8))) × (List (Int × (List UInt8))) × (List Int) × (List (Int × Bool)) × Int × Int→Option (Lr Unit ((List (List UInt8)) × (List S_block_write) × Int × Int × Int × Int × (List (Int × Int)) × Int × (List (Int × (List UInt8))) × (List (Int × (List UInt8))) × (List Int) × (List (Int × Bool)) × Int × Int))) m5 (x118,x119,x120,x121,x122,x123,x124,x125,x126,x127,x128,x129,x130,x131) fun q3=>(lrc q3 (fun a=>none) (fun z=>(fun x147 x148 x149 x150 x151 x152 x153 x154 x155 x156 x157 x158 x159 x160=>some ((0:Int),(⟨(⟨x14,x15,x16⟩ : S_tree_head),(⟨(⟨(⟨(⟨x147,x148,(⟨x149⟩ : S_atomic_Int64)⟩ : S_block_Disk)⟩ : S_wal_store),x150,x151,x152,x153⟩ : S_wal_Log),x154,x155,x156,x157,x158,(⟨x159⟩ : S_atomic_Int64),(⟨x160⟩ : S_atomic_Int64)⟩ : S_pager_Pager)⟩ : S_tree_Tree))) z.1 z.2.1 z.2.2.1 z.2.2.2.1 z.2.2.2.2.1 z.2.2.2.2.2.1 z.2.2.2.2.2.2.1 z.2.2.2.2.2.2.2.1 z.2.2.2.2.2.2.2.2.1 z.2.2.2.2.2.2.2.2.2.1 z.2.2.2.2.2.2.2.2.2.2.1 z.2.2.2.2.2.2.2.2.2.2.2.1 z.2.2.2.2.2.2.2.2.2.2.2.2.1 z.2.2.2.2.2.2.2.2.2.2.2.2.2)))) z))))))
def tree_Tree_Put.j14 (K : Nat) (x14 : Int) (x15 : Int) (x16 : Int) (t : S_tree_Tree) (m4 : List (Int × (List UInt8))) (b98 : List UInt8) (x118 : List (List UInt8)) (x119 : List S_block_write) (x120 : Int) (x121 : Int) (x122 : Int) (x123 : Int) (x124 : List (Int × Int)) (x125 : Int) (x126 : List (Int × (List UInt8))) (x127 : List (Int × (List UInt8))) (x128 : List Int) (x129 : List (Int × Bool)) (x130 : Int) (x131 : Int) : Option (Int × S_tree_Tree) :=
  (tree_parsed K b98).bind fun r_25=>(if (!r_25.2)=true then (none) else (tree_Tree_Put.j15 K r_25 x14 x15 x16 t x118 x119 x120 x121 x122 x123 x124 x125 x126 x127 x128 x129 x130 x131 m4))
def tree_Tree_Put.j12 (K : Nat) (m4 : List (Int × (List UInt8))) (x14 : Int) (x32 : List (List UInt8)) (x33 : List S_block_write) (x34 : Int) (x35 : Int) (x36 : Int) (x37 : Int) (x38 : List (Int × Int)) (x39 : Int) (x40 : List (Int × (List UInt8))) (x41 : List (Int × (List UInt8))) (x42 : List Int) (x43 : List (Int × Bool)) (x44 : Int) (x45 : Int) (x15 : Int) (x16 : Int) (t : S_tree_Tree) : Option (Int × S_tree_Tree) :=
  if (!((mget m4 x14).isSome))=true then ((pager_Pager_Read K (⟨(⟨(⟨(⟨x32,x33,(⟨x34⟩ : S_atomic_Int64)⟩ : S_block_Disk)⟩ : S_wal_store),x35,x36,x37,x38⟩ : S_wal_Log),x39,x40,x41,x42,x43,(⟨x44⟩ : S_atomic_Int64),(⟨x45⟩ : S_atomic_Int64)⟩ : S_pager_Pager) x14).bind fun r_24=>(tree_Tree_Put.j14 K x14 x15 x16 t m4 r_24.1 r_24.2.2.l.store.Disk.l r_24.2.2.l.store.Disk.writes r_24.2.2.l.store.Disk.count.v_ r_24.2.2.l.size r_24.2.2.l.groups r_24.2.2.l.used r_24.2.2.l.at_ r_24.2.2.most r_24.2.2.dirty r_24.2.2.clean r_24.2.2.row r_24.2.2.pins r_24.2.2.hits.v_ r_24.2.2.misses.v_)) else (tree_Tree_Put.j14 K x14 x15 x16 t m4 ((mget m4 x14).getD []) x32 x33 x34 x35 x36 x37 x38 x39 x40 x41 x42 x43 x44 x45)
def tree_Tree_Put.j5 (K : Nat) (r_7 : S_tree_node × Bool) (key : List UInt8) (value : List UInt8) (x17 : List (Int × (List UInt8))) (x14 : Int) (x15 : Int) (x32 : List (List UInt8)) (x33 : List S_block_write) (x34 : Int) (x35 : Int) (x36 : Int) (x37 : Int) (x38 : List (Int × Int)) (x39 : Int) (x40 : List (Int × (List UInt8))) (x41 : List (Int × (List UInt8))) (x42 : List Int) (x43 : List (Int × Bool)) (x44 : Int) (x45 : Int) (x16 : Int) (t : S_tree_Tree) : Option (Int × S_tree_Tree) :=
  if r_7.1.leaf=true then ((tree_node_find K (⟨r_7.1.leaf,r_7.1.l⟩ : S_tree_node) key).bind fun r_8=>(if r_8.2=true then ((gt r_7.1.l r_8.1).bind fun e8=>((some (r_7.1.l.set (r_8.1).toNat (⟨key,value,(0:Int)⟩ : S_tree_entry))).bind fun xs=>((tree_node_bytes K (⟨r_7.1.leaf,xs⟩ : S_tree_node)).bind fun r_9=>(if (decide (r_9≤(253:Int)))=true then ((tree_node_page K (⟨r_7.1.leaf,xs⟩ : S_tree_node)).bind fun r_10=>((some (msetC x17 x14 r_10)).bind fun m2=>((some ([(⟨([] : List UInt8),([] : List UInt8),x14⟩ : S_tree_entry)] : List S_tree_entry)).bind fun l=>(if (decide ((1:Int) < (l.length:Int)))=true then (if (!decide (x15=(0:Int)))=true then (if (!((mget m2 x15).isSome))=true then ((pager_Pager_Read K (⟨(⟨(⟨(⟨x32,x33,(⟨x34⟩ : S_atomic_Int64)⟩ : S_block_Disk)⟩ : S_wal_store),x35,x36,x37,x38⟩ : S_wal_Log),x39,x40,x41,x42,x43,(⟨x44⟩ : S_atomic_Int64),(⟨x45⟩ : S_atomic_Int64)⟩ : S_pager_Pager) x15).bind fun r_11=>(tree_Tree_Put.j7 K r_11.2.2.l.store.Disk.l r_11.2.2.l.store.Disk.writes r_11.2.2.l.store.Disk.count.v_ r_11.2.2.l.size r_11.2.2.l.groups r_11.2.2.l.used r_11.2.2.l.at_ r_11.2.2.most r_11.2.2.dirty r_11.2.2.clean r_11.2.2.row r_11.2.2.pins r_11.2.2.hits.v_ r_11.2.2.misses.v_ r_11.1)) else (tree_Tree_Put.j7 K x32 x33 x34 x35 x36 x37 x38 x39 x40 x41 x42 x43 x44 x45 ((mget m2 x15).getD []))) else (none)) else (tree_Tree_Put.j6 K m2 x14 x32 x33 x34 x35 x36 x37 x38 x39 x40 x41 x42 x43 x44 x45 x15 x16 t))))) else (none))))) else ((some ([(⟨key,value,(0:Int)⟩ : S_tree_entry)] : List S_tree_entry)).bind fun l5=>((insS r_7.1.l r_8.1 l5).bind fun xs1=>((tree_node_bytes K (⟨r_7.1.leaf,xs1⟩ : S_tree_node)).bind fun r_21=>(if (decide (r_21≤(253:Int)))=true then ((tree_node_page K (⟨r_7.1.leaf,xs1⟩ : S_tree_node)).bind fun r_22=>((some (msetC x17 x14 r_22)).bind fun m4=>((some ([(⟨([] : List UInt8),([] : List UInt8),x14⟩ : S_tree_entry)] : List S_tree_entry)).bind fun l6=>(if (decide ((1:Int) < (l6.length:Int)))=true then (if (!decide (x15=(0:Int)))=true then (if (!((mget m4 x15).isSome))=true then ((pager_Pager_Read K (⟨(⟨(⟨(⟨x32,x33,(⟨x34⟩ : S_atomic_Int64)⟩ : S_block_Disk)⟩ : S_wal_store),x35,x36,x37,x38⟩ : S_wal_Log),x39,x40,x41,x42,x43,(⟨x44⟩ : S_atomic_Int64),(⟨x45⟩ : S_atomic_Int64)⟩ : S_pager_Pager) x15).bind fun r_23=>(tree_Tree_Put.j13 K r_23.2.2.l.store.Disk.l r_23.2.2.l.store.Disk.writes r_23.2.2.l.store.Disk.count.v_ r_23.2.2.l.size r_23.2.2.l.groups r_23.2.2.l.used r_23.2.2.l.at_ r_23.2.2.most r_23.2.2.dirty r_23.2.2.clean r_23.2.2.row r_23.2.2.pins r_23.2.2.hits.v_ r_23.2.2.misses.v_ r_23.1)) else (tree_Tree_Put.j13 K x32 x33 x34 x35 x36 x37 x38 x39 x40 x41 x42 x43 x44 x45 ((mget m4 x15).getD []))) else (none)) else (tree_Tree_Put.j12 K m4 x14 x32 x33 x34 x35 x36 x37 x38 x39 x40 x41 x42 x43 x44 x45 x15 x16 t))))) else (none))))))) else (none)
def tree_Tree_Put.j4 (K : Nat) (key : List UInt8) (value : List UInt8) (x17 : List (Int × (List UInt8))) (x14 : Int) (x15 : Int) (x16 : Int) (t : S_tree_Tree) (b24 : List UInt8) (x32 : List (List UInt8)) (x33 : List S_block_write) (x34 : Int) (x35 : Int) (x36 : Int) (x37 : Int) (x38 : List (Int × Int)) (x39 : Int) (x40 : List (Int × (List UInt8))) (x41 : List (Int × (List UInt8))) (x42 : List Int) (x43 : List (Int × Bool)) (x44 : Int) (x45 : Int) : Option (Int × S_tree_Tree) :=
  (tree_parsed K b24).bind fun r_7=>(if (!r_7.2)=true then (none) else (tree_Tree_Put.j5 K r_7 key value x17 x14 x15 x32 x33 x34 x35 x36 x37 x38 x39 x40 x41 x42 x43 x44 x45 x16 t))
def tree_Tree_Put.j1 (K : Nat) (key : List UInt8) (value : List UInt8) (t : S_tree_Tree) (x : List (List UInt8)) (x1 : List S_block_write) (x2 : Int) (x3 : Int) (x4 : Int) (x5 : Int) (x6 : List (Int × Int)) (x7 : Int) (x8 : List (Int × (List UInt8))) (x9 : List (Int × (List UInt8))) (x10 : List Int) (x11 : List (Int × Bool)) (x12 : Int) (x13 : Int) (x14 : Int) (x15 : Int) (x16 : Int) (x17 : List (Int × (List UInt8))) : Option (Int × S_tree_Tree) :=
  if (!((mget x17 x14).isSome))=true then ((pager_Pager_Read K (⟨(⟨(⟨(⟨x,x1,(⟨x2⟩ : S_atomic_Int64)⟩ : S_block_Disk)⟩ : S_wal_store),x3,x4,x5,x6⟩ : S_wal_Log),x7,x8,x9,x10,x11,(⟨x12⟩ : S_atomic_Int64),(⟨x13⟩ : S_atomic_Int64)⟩ : S_pager_Pager) x14).bind fun r_6=>(tree_Tree_Put.j4 K key value x17 x14 x15 x16 t r_6.1 r_6.2.2.l.store.Disk.l r_6.2.2.l.store.Disk.writes r_6.2.2.l.store.Disk.count.v_ r_6.2.2.l.size r_6.2.2.l.groups r_6.2.2.l.used r_6.2.2.l.at_ r_6.2.2.most r_6.2.2.dirty r_6.2.2.clean r_6.2.2.row r_6.2.2.pins r_6.2.2.hits.v_ r_6.2.2.misses.v_)) else (tree_Tree_Put.j4 K key value x17 x14 x15 x16 t ((mget x17 x14).getD []) x x1 x2 x3 x4 x5 x6 x7 x8 x9 x10 x11 x12 x13)
def tree_Tree_Put.j2 (K : Nat) (t : S_tree_Tree) (key : List UInt8) (value : List UInt8) (x18 : List (List UInt8)) (x19 : List S_block_write) (x20 : Int) (x21 : Int) (x22 : Int) (x23 : Int) (x24 : List (Int × Int)) (x25 : Int) (x26 : List (Int × (List UInt8))) (x27 : List (Int × (List UInt8))) (x28 : List Int) (x29 : List (Int × Bool)) (x30 : Int) (x31 : Int) (b18 : List UInt8) : Option (Int × S_tree_Tree) :=
  (gt b18 (1:Int)).bind fun e1=>((gt b18 (2:Int)).bind fun e2=>((tree_node_page K (⟨true,([] : List S_tree_entry)⟩ : S_tree_node)).bind fun r_2=>((some (msetC ([] : List (Int × (List UInt8))) t.head.free r_2)).bind fun m=>(tree_Tree_Put.j1 K key value t x18 x19 x20 x21 x22 x23 x24 x25 x26 x27 x28 x29 x30 x31 t.head.free (orI (shlI (e1.toNat:Int) 8) (e2.toNat:Int)) t.head.fresh m))))
def tree_Tree_Put.j3 (K : Nat) (t : S_tree_Tree) (key : List UInt8) (value : List UInt8) : Option (Int × S_tree_Tree) :=
  (tree_node_page K (⟨true,([] : List S_tree_entry)⟩ : S_tree_node)).bind fun r_5=>((some (msetC ([] : List (Int × (List UInt8))) (W ((W (t.head.fresh + (1:Int))) - (1:Int))) r_5)).bind fun m1=>(tree_Tree_Put.j1 K key value t t.p_.l.store.Disk.l t.p_.l.store.Disk.writes t.p_.l.store.Disk.count.v_ t.p_.l.size t.p_.l.groups t.p_.l.used t.p_.l.at_ t.p_.most t.p_.dirty t.p_.clean t.p_.row t.p_.pins t.p_.hits.v_ t.p_.misses.v_ (W ((W (t.head.fresh + (1:Int))) - (1:Int))) t.head.free (W (t.head.fresh + (1:Int))) m1))
def tree_Tree_Put (K : Nat) (t : S_tree_Tree) (key : List UInt8) (value : List UInt8) : Option (Int × S_tree_Tree) :=
  (tree_isKey K key).bind fun r_=>(if ((!r_) || (decide ((72:Int) < (value.length:Int))))=true then (some ((6:Int),(⟨t.head,(⟨(⟨(⟨(⟨t.p_.l.store.Disk.l,t.p_.l.store.Disk.writes,t.p_.l.store.Disk.count⟩ : S_block_Disk)⟩ : S_wal_store),t.p_.l.size,t.p_.l.groups,t.p_.l.used,t.p_.l.at_⟩ : S_wal_Log),t.p_.most,t.p_.dirty,t.p_.clean,t.p_.row,t.p_.pins,t.p_.hits,t.p_.misses⟩ : S_pager_Pager)⟩ : S_tree_Tree))) else (if (decide (t.head.root=(0:Int)))=true then (if (!decide (t.head.free=(0:Int)))=true then (if (!((mget ([] : List (Int × (List UInt8))) t.head.free).isSome))=true then ((pager_Pager_Read K (⟨(⟨(⟨(⟨t.p_.l.store.Disk.l,t.p_.l.store.Disk.writes,t.p_.l.store.Disk.count⟩ : S_block_Disk)⟩ : S_wal_store),t.p_.l.size,t.p_.l.groups,t.p_.l.used,t.p_.l.at_⟩ : S_wal_Log),t.p_.most,t.p_.dirty,t.p_.clean,t.p_.row,t.p_.pins,t.p_.hits,t.p_.misses⟩ : S_pager_Pager) t.head.free).bind fun r_1=>(tree_Tree_Put.j2 K t key value r_1.2.2.l.store.Disk.l r_1.2.2.l.store.Disk.writes r_1.2.2.l.store.Disk.count.v_ r_1.2.2.l.size r_1.2.2.l.groups r_1.2.2.l.used r_1.2.2.l.at_ r_1.2.2.most r_1.2.2.dirty r_1.2.2.clean r_1.2.2.row r_1.2.2.pins r_1.2.2.hits.v_ r_1.2.2.misses.v_ r_1.1)) else (tree_Tree_Put.j2 K t key value t.p_.l.store.Disk.l t.p_.l.store.Disk.writes t.p_.l.store.Disk.count.v_ t.p_.l.size t.p_.l.groups t.p_.l.used t.p_.l.at_ t.p_.most t.p_.dirty t.p_.clean t.p_.row t.p_.pins t.p_.hits.v_ t.p_.misses.v_ ((mget ([] : List (Int × (List UInt8))) t.head.free).getD []))) else ((pager_Pager_Log K (⟨(⟨(⟨(⟨t.p_.l.store.Disk.l,t.p_.l.store.Disk.writes,t.p_.l.store.Disk.count⟩ : S_block_Disk)⟩ : S_wal_store),t.p_.l.size,t.p_.l.groups,t.p_.l.used,t.p_.l.at_⟩ : S_wal_Log),t.p_.most,t.p_.dirty,t.p_.clean,t.p_.row,t.p_.pins,t.p_.hits,t.p_.misses⟩ : S_pager_Pager)).bind fun r_3=>((wal_Log_Pages K (⟨(⟨(⟨t.p_.l.store.Disk.l,t.p_.l.store.Disk.writes,t.p_.l.store.Disk.count⟩ : S_block_Disk)⟩ : S_wal_store),t.p_.l.size,t.p_.l.groups,t.p_.l.used,t.p_.l.at_⟩ : S_wal_Log)).bind fun r_4=>(if (decide (r_4≤t.head.fresh))=true then (none) else (tree_Tree_Put.j3 K t key value))))) else (tree_Tree_Put.j1 K key value t t.p_.l.store.Disk.l t.p_.l.store.Disk.writes t.p_.l.store.Disk.count.v_ t.p_.l.size t.p_.l.groups t.p_.l.used t.p_.l.at_ t.p_.most t.p_.dirty t.p_.clean t.p_.row t.p_.pins t.p_.hits.v_ t.p_.misses.v_ t.head.root t.head.free t.head.fresh ([] : List (Int × (List UInt8))))))

-- (*holdfast/tree.Tree).Scan
def tree_Tree_Scan.l1 (K : Nat) : Nat → (List S_tree_entry) → (S_tree_node × Bool) → Int → (List UInt8) → Int → (List S_api_Pair) → Option (Lr ((List S_api_Pair) × Int × S_tree_Tree) (List S_api_Pair))
  | 0,_,_,_,_,_,_=>none
  | k + 1,zs,r_2,most,to_,x27,x=>if (decide (x27 < (zs.length:Int)))=true then ((gt zs x27).bind fun e1=>(if r_2.1.leaf=true then ((if (decide ((x.length:Int)=most))=true then some true else ((if (decide ((0:Int) < (to_.length:Int)))=true then ((bytes_Compare K e1.key to_).bind fun r_4=>(some (decide ((0:Int)≤r_4)))) else some false).bind fun b18=>(some b18))).bind fun b17=>(if b17=true then (none) else ((bytes_Clone K e1.key).bind fun r_5=>((bytes_Clone K e1.value).bind fun r_6=>((some ([(⟨r_5,r_6⟩ : S_api_Pair)] : List S_api_Pair)).bind fun l1=>((app 2932031007402 x l1).bind fun x2=>(if (!r_2.1.leaf)=true then (none) else (tree_Tree_Scan.l1 K k zs r_2 most to_ (W (x27 + (1:Int))) x2)))))))) else (if (!r_2.1.leaf)=true then (none) else (tree_Tree_Scan.l1 K k zs r_2 most to_ (W (x27 + (1:Int))) x)))) else (some (.go x))
def tree_Tree_Scan.j1 (K : Nat) (r_2 : S_tree_node × Bool) (from_ : List UInt8) (most : Int) (to_ : List UInt8) (t : S_tree_Tree) (r_1 : (List UInt8) × Int × S_pager_Pager) : Option ((List S_api_Pair) × Int × S_tree_Tree) :=
  (tree_node_find K (⟨r_2.1.leaf,r_2.1.l⟩ : S_tree_node) from_).bind fun r_3=>((sub r_2.1.l r_3.1 (r_2.1.l.length:Int)).bind fun zs=>((tree_Tree_Scan.l1 K K zs r_2 most to_ (0:Int) ([] : List S_api_Pair)).bind fun q=>(lrc q (fun a=>some a) (fun x1=>some (x1,(0:Int),(⟨t.head,(⟨(⟨(⟨(⟨r_1.2.2.l.store.Disk.l,r_1.2.2.l.store.Disk.writes,(⟨r_1.2.2.l.store.Disk.count.v_⟩ : S_atomic_Int64)⟩ : S_block_Disk)⟩ : S_wal_store),r_1.2.2.l.size,r_1.2.2.l.groups,r_1.2.2.l.used,r_1.2.2.l.at_⟩ : S_wal_Log),r_1.2.2.most,r_1.2.2.dirty,r_1.2.2.clean,r_1.2.2.row,r_1.2.2.pins,(⟨r_1.2.2.hits.v_⟩ : S_atomic_Int64),(⟨r_1.2.2.misses.v_⟩ : S_atomic_Int64)⟩ : S_pager_Pager)⟩ : S_tree_Tree))))))
def tree_Tree_Scan (K : Nat) (t : S_tree_Tree) (from_ : List UInt8) (to_ : List UInt8) (most : Int) : Option ((List S_api_Pair) × Int × S_tree_Tree) :=
  if (decide (most < (0:Int)))=true then (some (([] : List S_api_Pair),(2:Int),(⟨t.head,(⟨(⟨(⟨(⟨t.p_.l.store.Disk.l,t.p_.l.store.Disk.writes,t.p_.l.store.Disk.count⟩ : S_block_Disk)⟩ : S_wal_store),t.p_.l.size,t.p_.l.groups,t.p_.l.used,t.p_.l.at_⟩ : S_wal_Log),t.p_.most,t.p_.dirty,t.p_.clean,t.p_.row,t.p_.pins,t.p_.hits,t.p_.misses⟩ : S_pager_Pager)⟩ : S_tree_Tree))) else (if (!decide (t.head.root=(0:Int)))=true then ((pager_Pager_Read K (⟨(⟨(⟨(⟨t.p_.l.store.Disk.l,t.p_.l.store.Disk.writes,t.p_.l.store.Disk.count⟩ : S_block_Disk)⟩ : S_wal_store),t.p_.l.size,t.p_.l.groups,t.p_.l.used,t.p_.l.at_⟩ : S_wal_Log),t.p_.most,t.p_.dirty,t.p_.clean,t.p_.row,t.p_.pins,t.p_.hits,t.p_.misses⟩ : S_pager_Pager) t.head.root).bind fun r_1=>((tree_parsed K r_1.1).bind fun r_2=>(if (!r_2.2)=true then (none) else (tree_Tree_Scan.j1 K r_2 from_ most to_ t r_1)))) else (some (([] : List S_api_Pair),(0:Int),(⟨t.head,(⟨(⟨(⟨(⟨t.p_.l.store.Disk.l,t.p_.l.store.Disk.writes,t.p_.l.store.Disk.count⟩ : S_block_Disk)⟩ : S_wal_store),t.p_.l.size,t.p_.l.groups,t.p_.l.used,t.p_.l.at_⟩ : S_wal_Log),t.p_.most,t.p_.dirty,t.p_.clean,t.p_.row,t.p_.pins,t.p_.hits,t.p_.misses⟩ : S_pager_Pager)⟩ : S_tree_Tree))))

-- (holdfast/tree.node).poor
def tree_node_poor (K : Nat) (n1 : S_tree_node) : Option Bool :=
  (tree_node_bytes K (⟨n1.leaf,n1.l⟩ : S_tree_node)).bind fun r_=>(some ((decide (r_ < (56:Int))) || ((!n1.leaf) && (decide ((n1.l.length:Int) < (2:Int))))))

-- (*holdfast/tree.Tree).Check$1


-- (*holdfast/tree.Tree).Check
def tree_Tree_Check.j7 (K : Nat) (lk1 : List UInt8 → Int → Int → Option Int) (e3 : S_tree_entry) (high : Int) (x85 : Int) : Option Int :=
  lk1 e3.key high (W (x85 + (1:Int)))
def tree_Tree_Check.l1 (K : Nat) : Nat → (S_tree_node × Bool) → (List UInt8) → Int → Int → Option Int
  | 0,_,_,_,_=>none
  | k + 1,r_1,x19,high,x85=>if (decide (x85 < (r_1.1.l.length:Int)))=true then ((gt r_1.1.l x85).bind fun e3=>(if r_1.1.leaf=true then ((req (x19 ≠ [])).bind fun u=>((bytes_Compare K x19 e3.key).bind fun r_4=>(if (decide ((0:Int)≤r_4))=true then (none) else (tree_Tree_Check.j7 K (tree_Tree_Check.l1 K k r_1) e3 high x85)))) else (none))) else (some high)
def tree_Tree_Check.l2 (K : Nat) : Nat → S_tree_Tree → (List (List UInt8)) → (List S_block_write) → Int → Int → Int → Int → (List (Int × Int)) → Int → (List (Int × (List UInt8))) → (List (Int × (List UInt8))) → (List Int) → (List (Int × Bool)) → Int → Int → (List Int) → (List (Int × Bool)) → Int → Option (Lr (S_tree_Report × Int × S_tree_Tree) ((List (List UInt8)) × (List S_block_write) × Int × Int × Int × Int × (List (Int × Int)) × Int × (List (Int × (List UInt8))) × (List (Int × (List UInt8))) × (List Int) × (List (Int × Bool)) × Int × Int × (List Int) × (List (Int × Bool))))
  | 0,_,_,_,_,_,_,_,_,_,_,_,_,_,_,_,_,_,_=>none
  | k + 1,t,x20,x21,x22,x23,x24,x25,x26,x27,x28,x29,x30,x31,x32,x33,x34,seen1,n1=>if (!decide (n1=(0:Int)))=true then (if ((decide (t.head.fresh≤n1)) || ((mget seen1 n1).getD false))=true then (some (.ret ((⟨(0:Int),([] : List Int),([] : List Int),([] : List Int),(0:Int)⟩ : S_tree_Report),(15:Int),(⟨t.head,(⟨(⟨(⟨(⟨x20,x21,(⟨x22⟩ : S_atomic_Int64)⟩ : S_block_Disk)⟩ : S_wal_store),x23,x24,x25,x26⟩ : S_wal_Log),x27,x28,x29,x30,x31,(⟨x32⟩ : S_atomic_Int64),(⟨x33⟩ : S_atomic_Int64)⟩ : S_pager_Pager)⟩ : S_tree_Tree)))) else ((some (msetC seen1 n1 true)).bind fun m1=>((some ([n1] : List Int)).bind fun l3=>((app 17592186044416 x34 l3).bind fun x50=>((pager_Pager_Read K (⟨(⟨(⟨(⟨x20,x21,(⟨x22⟩ : S_atomic_Int64)⟩ : S_block_Disk)⟩ : S_wal_store),x23,x24,x25,x26⟩ : S_wal_Log),x27,x28,x29,x30,x31,(⟨x32⟩ : S_atomic_Int64),(⟨x33⟩ : S_atomic_Int64)⟩ : S_pager_Pager) n1).bind fun r_5=>((gt r_5.1 (1:Int)).bind fun e12=>((gt r_5.1 (2:Int)).bind fun e13=>(tree_Tree_Check.l2 K k t r_5.2.2.l.store.Disk.l r_5.2.2.l.store.Disk.writes r_5.2.2.l.store.Disk.count.v_ r_5.2.2.l.size r_5.2.2.l.groups r_5.2.2.l.used r_5.2.2.l.at_ r_5.2.2.most r_5.2.2.dirty r_5.2.2.clean r_5.2.2.row r_5.2.2.pins r_5.2.2.hits.v_ r_5.2.2.misses.v_ x50 m1 (orI (shlI (e12.toNat:Int) 8) (e13.toNat:Int)))))))))) else (some (.go (x20,x21,x22,x23,x24,x25,x26,x27,x28,x29,x30,x31,x32,x33,x34,seen1)))
def tree_Tree_Check.l3 (K : Nat) : Nat → Int → Int → Int → Int → (List (Int × Int)) → (List (List UInt8)) → (List S_block_write) → (List Int) → Int → Option ((List (List UInt8)) × (List S_block_write) × (List Int))
  | 0,_,_,_,_,_,_,_,_,_=>none
  | k + 1,x37,x38,x39,x40,x41,x51,x52,x53,n2=>(wal_Log_Pages K (⟨(⟨(⟨x51,x52,(⟨x37⟩ : S_atomic_Int64)⟩ : S_block_Disk)⟩ : S_wal_store),x38,x39,x40,x41⟩ : S_wal_Log)).bind fun r_6=>(if (decide (n2 < r_6))=true then ((some ([n2] : List Int)).bind fun l5=>((app 17592186044416 x53 l5).bind fun x57=>(tree_Tree_Check.l3 K k x37 x38 x39 x40 x41 x51 x52 x57 (W (n2 + (1:Int)))))) else (some (x51,x52,x53)))
def tree_Tree_Check.l5 (K : Nat) : Nat → (List Int) → Int → Option (List Int)
  | 0,_,_=>none
  | k + 1,data1,j=>if (decide ((0:Int) < j))=true then ((gt data1 j).bind fun e20=>((gt data1 (W (j - (1:Int)))).bind fun e21=>((cmp_Less_int K e20 e21).bind fun r_8=>(if r_8=true then ((gt data1 (W (j - (1:Int)))).bind fun e22=>((gt data1 j).bind fun e23=>((req (0≤j∧j < (data1.length:Int))).bind fun u1=>((some (data1.set (j).toNat e22)).bind fun data3=>((req (0≤W (j - (1:Int))∧W (j - (1:Int)) < (data3.length:Int))).bind fun u2=>((some (data3.set (W (j - (1:Int))).toNat e23)).bind fun data4=>(tree_Tree_Check.l5 K k data4 (W (j - (1:Int)))))))))) else (some data1))))) else (some data1)
def tree_Tree_Check.l4 (K : Nat) : Nat → (List Int) → (List Int) → Int → Option (List Int)
  | 0,_,_,_=>none
  | k + 1,x15,data,i4=>if (decide (i4 < (x15.length:Int)))=true then ((tree_Tree_Check.l5 K K data i4).bind fun data2=>(tree_Tree_Check.l4 K k x15 data2 (W (i4 + (1:Int))))) else (some data)
def tree_Tree_Check.l7 (K : Nat) : Nat → (List Int) → Int → Option (List Int)
  | 0,_,_=>none
  | k + 1,data6,j1=>if (decide ((0:Int) < j1))=true then ((gt data6 j1).bind fun e24=>((gt data6 (W (j1 - (1:Int)))).bind fun e25=>((cmp_Less_int K e24 e25).bind fun r_10=>(if r_10=true then ((gt data6 (W (j1 - (1:Int)))).bind fun e26=>((gt data6 j1).bind fun e27=>((req (0≤j1∧j1 < (data6.length:Int))).bind fun u3=>((some (data6.set (j1).toNat e26)).bind fun data8=>((req (0≤W (j1 - (1:Int))∧W (j1 - (1:Int)) < (data8.length:Int))).bind fun u4=>((some (data8.set (W (j1 - (1:Int))).toNat e27)).bind fun data9=>(tree_Tree_Check.l7 K k data9 (W (j1 - (1:Int)))))))))) else (some data6))))) else (some data6)
def tree_Tree_Check.l6 (K : Nat) : Nat → (List Int) → (List Int) → Int → Option (List Int)
  | 0,_,_,_=>none
  | k + 1,x49,data5,i5=>if (decide (i5 < (x49.length:Int)))=true then ((tree_Tree_Check.l7 K K data5 i5).bind fun data7=>(tree_Tree_Check.l6 K k x49 data7 (W (i5 + (1:Int))))) else (some data5)
def tree_Tree_Check.j1 (K : Nat) (t : S_tree_Tree) (x : List (List UInt8)) (x1 : List S_block_write) (x2 : Int) (x3 : Int) (x4 : Int) (x5 : Int) (x6 : List (Int × Int)) (x7 : Int) (x8 : List (Int × (List UInt8))) (x9 : List (Int × (List UInt8))) (x10 : List Int) (x11 : List (Int × Bool)) (x12 : Int) (x13 : Int) (x14 : Int) (x15 : List Int) (x16 : Int) (seen : List (Int × Bool)) : Option (S_tree_Report × Int × S_tree_Tree) :=
  (tree_Tree_Check.l2 K K t x x1 x2 x3 x4 x5 x6 x7 x8 x9 x10 x11 x12 x13 ([] : List Int) seen t.head.free).bind fun q1=>(lrc q1 (fun a=>some a) (fun z=>(fun x35 x36 x37 x38 x39 x40 x41 x42 x43 x44 x45 x46 x47 x48 x49 seen2=>if (!decide ((seen2.length:Int)=W (t.head.fresh - (1:Int))))=true then (some ((⟨(0:Int),([] : List Int),([] : List Int),([] : List Int),(0:Int)⟩ : S_tree_Report),(15:Int),(⟨t.head,(⟨(⟨(⟨(⟨x35,x36,(⟨x37⟩ : S_atomic_Int64)⟩ : S_block_Disk)⟩ : S_wal_store),x38,x39,x40,x41⟩ : S_wal_Log),x42,x43,x44,x45,x46,(⟨x47⟩ : S_atomic_Int64),(⟨x48⟩ : S_atomic_Int64)⟩ : S_pager_Pager)⟩ : S_tree_Tree))) else ((tree_Tree_Check.l3 K K x37 x38 x39 x40 x41 x35 x36 ([] : List Int) t.head.fresh).bind fun q2=>((fun x54 x55 x56=>(bits_Len K (iU64 (x15.length:Int))).bind fun r_7=>(if (decide (W ((x15.length:Int) - (0:Int))≤(12:Int)))=true then ((tree_Tree_Check.l4 K K x15 x15 (W ((0:Int) + (1:Int)))).bind fun x58=>((bits_Len K (iU64 (x49.length:Int))).bind fun r_9=>(if (decide (W ((x49.length:Int) - (0:Int))≤(12:Int)))=true then ((tree_Tree_Check.l6 K K x49 x49 (W ((0:Int) + (1:Int)))).bind fun x59=>(some ((⟨x14,x58,x59,x56,x16⟩ : S_tree_Report),(0:Int),(⟨t.head,(⟨(⟨(⟨(⟨x54,x55,(⟨x37⟩ : S_atomic_Int64)⟩ : S_block_Disk)⟩ : S_wal_store),x38,x39,x40,x41⟩ : S_wal_Log),x42,x43,x44,x45,x46,(⟨x47⟩ : S_atomic_Int64),(⟨x48⟩ : S_atomic_Int64)⟩ : S_pager_Pager)⟩ : S_tree_Tree)))) else (none)))) else (none))) q2.1 q2.2.1 q2.2.2))) z.1 z.2.1 z.2.2.1 z.2.2.2.1 z.2.2.2.2.1 z.2.2.2.2.2.1 z.2.2.2.2.2.2.1 z.2.2.2.2.2.2.2.1 z.2.2.2.2.2.2.2.2.1 z.2.2.2.2.2.2.2.2.2.1 z.2.2.2.2.2.2.2.2.2.2.1 z.2.2.2.2.2.2.2.2.2.2.2.1 z.2.2.2.2.2.2.2.2.2.2.2.2.1 z.2.2.2.2.2.2.2.2.2.2.2.2.2.1 z.2.2.2.2.2.2.2.2.2.2.2.2.2.2.1 z.2.2.2.2.2.2.2.2.2.2.2.2.2.2.2))
def tree_Tree_Check.j6 (K : Nat) (r_1 : S_tree_node × Bool) (t : S_tree_Tree) (r_ : (List UInt8) × Int × S_pager_Pager) (xs : List Int) (x17 : Int) (m : List (Int × Bool)) (x18 : List UInt8) : Option (S_tree_Report × Int × S_tree_Tree) :=
  (tree_Tree_Check.l1 K K r_1 x18 (0:Int) (W ((0:Int) + (1:Int)))).bind fun high1=>(tree_Tree_Check.j1 K t r_.2.2.l.store.Disk.l r_.2.2.l.store.Disk.writes r_.2.2.l.store.Disk.count.v_ r_.2.2.l.size r_.2.2.l.groups r_.2.2.l.used r_.2.2.l.at_ r_.2.2.most r_.2.2.dirty r_.2.2.clean r_.2.2.row r_.2.2.pins r_.2.2.hits.v_ r_.2.2.misses.v_ (W (high1 + (1:Int))) xs x17 m)
def tree_Tree_Check.j4 (K : Nat) (r_1 : S_tree_node × Bool) (t : S_tree_Tree) (r_ : (List UInt8) × Int × S_pager_Pager) (xs : List Int) (m : List (Int × Bool)) (x17 : Int) : Option (S_tree_Report × Int × S_tree_Tree) :=
  if (decide ((0:Int) < (r_1.1.l.length:Int)))=true then ((gt r_1.1.l (0:Int)).bind fun e2=>(if r_1.1.leaf=true then (tree_Tree_Check.j6 K r_1 t r_ xs x17 m e2.key) else (none))) else (none)
def tree_Tree_Check.j5 (K : Nat) (r_1 : S_tree_node × Bool) (t : S_tree_Tree) (r_ : (List UInt8) × Int × S_pager_Pager) (xs : List Int) (m : List (Int × Bool)) : Option (S_tree_Report × Int × S_tree_Tree) :=
  (tree_node_bytes K (⟨r_1.1.leaf,r_1.1.l⟩ : S_tree_node)).bind fun r_3=>(if ((decide ((0:Int)=(0:Int))) || (decide (r_3 < (0:Int))))=true then (tree_Tree_Check.j4 K r_1 t r_ xs m r_3) else (tree_Tree_Check.j4 K r_1 t r_ xs m (0:Int)))
def tree_Tree_Check.j3 (K : Nat) (t : S_tree_Tree) (r_1 : S_tree_node × Bool) (r_ : (List UInt8) × Int × S_pager_Pager) (xs : List Int) (m : List (Int × Bool)) : Option (S_tree_Report × Int × S_tree_Tree) :=
  if (!decide (t.head.root=t.head.root))=true then ((tree_node_poor K (⟨r_1.1.leaf,r_1.1.l⟩ : S_tree_node)).bind fun r_2=>(if r_2=true then (none) else (tree_Tree_Check.j5 K r_1 t r_ xs m))) else (tree_Tree_Check.j4 K r_1 t r_ xs m (0:Int))
def tree_Tree_Check.j2 (K : Nat) (t : S_tree_Tree) : Option (S_tree_Report × Int × S_tree_Tree) :=
  (some (msetC ([] : List (Int × Bool)) t.head.root true)).bind fun m=>((some ([t.head.root] : List Int)).bind fun l=>((app 17592186044416 ([] : List Int) l).bind fun xs=>((pager_Pager_Read K (⟨(⟨(⟨(⟨t.p_.l.store.Disk.l,t.p_.l.store.Disk.writes,t.p_.l.store.Disk.count⟩ : S_block_Disk)⟩ : S_wal_store),t.p_.l.size,t.p_.l.groups,t.p_.l.used,t.p_.l.at_⟩ : S_wal_Log),t.p_.most,t.p_.dirty,t.p_.clean,t.p_.row,t.p_.pins,t.p_.hits,t.p_.misses⟩ : S_pager_Pager) t.head.root).bind fun r_=>((tree_parsed K r_.1).bind fun r_1=>(if (!r_1.2)=true then (none) else (tree_Tree_Check.j3 K t r_1 r_ xs m))))))
def tree_Tree_Check (K : Nat) (t : S_tree_Tree) : Option (S_tree_Report × Int × S_tree_Tree) :=
  if (!decide (t.head.root=(0:Int)))=true then (if (((decide (t.head.root < (1:Int))) || (decide (t.head.fresh≤t.head.root))) || ((mget ([] : List (Int × Bool)) t.head.root).getD false))=true then (none) else (tree_Tree_Check.j2 K t)) else (tree_Tree_Check.j1 K t t.p_.l.store.Disk.l t.p_.l.store.Disk.writes t.p_.l.store.Disk.count.v_ t.p_.l.size t.p_.l.groups t.p_.l.used t.p_.l.at_ t.p_.most t.p_.dirty t.p_.clean t.p_.row t.p_.pins t.p_.hits.v_ t.p_.misses.v_ (0:Int) ([] : List Int) (0:Int) ([] : List (Int × Bool)))

-- holdfast/holdfastlaw05.live
def holdfastlaw05_live (K : Nat) : Option Bool :=
  (holdfastlaw05_open K (20:Int) (30:Int)).bind fun r_=>((some ([(98:UInt8)] : List UInt8)).bind fun l=>((some ([(50:UInt8)] : List UInt8)).bind fun l1=>((tree_Tree_Put K (⟨(⟨r_.1.head.root,r_.1.head.free,r_.1.head.fresh⟩ : S_tree_head),(⟨(⟨(⟨(⟨r_.1.p_.l.store.Disk.l,r_.1.p_.l.store.Disk.writes,(⟨r_.1.p_.l.store.Disk.count.v_⟩ : S_atomic_Int64)⟩ : S_block_Disk)⟩ : S_wal_store),r_.1.p_.l.size,r_.1.p_.l.groups,r_.1.p_.l.used,r_.1.p_.l.at_⟩ : S_wal_Log),r_.1.p_.most,r_.1.p_.dirty,r_.1.p_.clean,r_.1.p_.row,r_.1.p_.pins,(⟨r_.1.p_.hits.v_⟩ : S_atomic_Int64),(⟨r_.1.p_.misses.v_⟩ : S_atomic_Int64)⟩ : S_pager_Pager)⟩ : S_tree_Tree) l l1).bind fun r_1=>((some ([(97:UInt8)] : List UInt8)).bind fun l2=>((some ([(49:UInt8)] : List UInt8)).bind fun l3=>((tree_Tree_Put K (⟨(⟨r_1.2.head.root,r_1.2.head.free,r_1.2.head.fresh⟩ : S_tree_head),(⟨(⟨(⟨(⟨r_1.2.p_.l.store.Disk.l,r_1.2.p_.l.store.Disk.writes,(⟨r_1.2.p_.l.store.Disk.count.v_⟩ : S_atomic_Int64)⟩ : S_block_Disk)⟩ : S_wal_store),r_1.2.p_.l.size,r_1.2.p_.l.groups,r_1.2.p_.l.used,r_1.2.p_.l.at_⟩ : S_wal_Log),r_1.2.p_.most,r_1.2.p_.dirty,r_1.2.p_.clean,r_1.2.p_.row,r_1.2.p_.pins,(⟨r_1.2.p_.hits.v_⟩ : S_atomic_Int64),(⟨r_1.2.p_.misses.v_⟩ : S_atomic_Int64)⟩ : S_pager_Pager)⟩ : S_tree_Tree) l2 l3).bind fun r_2=>((tree_Tree_Scan K (⟨(⟨r_2.2.head.root,r_2.2.head.free,r_2.2.head.fresh⟩ : S_tree_head),(⟨(⟨(⟨(⟨r_2.2.p_.l.store.Disk.l,r_2.2.p_.l.store.Disk.writes,(⟨r_2.2.p_.l.store.Disk.count.v_⟩ : S_atomic_Int64)⟩ : S_block_Disk)⟩ : S_wal_store),r_2.2.p_.l.size,r_2.2.p_.l.groups,r_2.2.p_.l.used,r_2.2.p_.l.at_⟩ : S_wal_Log),r_2.2.p_.most,r_2.2.p_.dirty,r_2.2.p_.clean,r_2.2.p_.row,r_2.2.p_.pins,(⟨r_2.2.p_.hits.v_⟩ : S_atomic_Int64),(⟨r_2.2.p_.misses.v_⟩ : S_atomic_Int64)⟩ : S_pager_Pager)⟩ : S_tree_Tree) ([] : List UInt8) ([] : List UInt8) (9:Int)).bind fun r_3=>((tree_Tree_Check K (⟨(⟨r_3.2.2.head.root,r_3.2.2.head.free,r_3.2.2.head.fresh⟩ : S_tree_head),(⟨(⟨(⟨(⟨r_3.2.2.p_.l.store.Disk.l,r_3.2.2.p_.l.store.Disk.writes,(⟨r_3.2.2.p_.l.store.Disk.count.v_⟩ : S_atomic_Int64)⟩ : S_block_Disk)⟩ : S_wal_store),r_3.2.2.p_.l.size,r_3.2.2.p_.l.groups,r_3.2.2.p_.l.used,r_3.2.2.p_.l.at_⟩ : S_wal_Log),r_3.2.2.p_.most,r_3.2.2.p_.dirty,r_3.2.2.p_.clean,r_3.2.2.p_.row,r_3.2.2.p_.pins,(⟨r_3.2.2.p_.hits.v_⟩ : S_atomic_Int64),(⟨r_3.2.2.p_.misses.v_⟩ : S_atomic_Int64)⟩ : S_pager_Pager)⟩ : S_tree_Tree)).bind fun r_4=>((if (((((decide (r_.2=(0:Int))) && (decide (r_1.1=(0:Int)))) && (decide (r_2.1=(0:Int)))) && (decide (r_3.2.1=(0:Int)))) && (decide ((r_3.1.length:Int)=(2:Int))))=true then ((gt r_3.1 (0:Int)).bind fun e1=>(some (decide (e1.Key=([97] : List UInt8))))) else some false).bind fun b25=>(some (((b25 && (decide (r_4.2.1=(0:Int)))) && (decide ((r_4.1.Pages.length:Int)=(1:Int)))) && (decide (W ((W ((r_4.1.Pages.length:Int) + (r_4.1.Free.length:Int))) + (r_4.1.Fresh.length:Int))=(19:Int))))))))))))))

-- (*holdfast/tree.Tree).Put
def tree_Tree_Put_nil0 (K : Nat) (key : List UInt8) (value : List UInt8) : Option Int :=
  some (1:Int)

-- (*holdfast/tree.Tree).Delete
def tree_Tree_Delete_nil0 (K : Nat) (key : List UInt8) : Option Int :=
  some (1:Int)

-- (*holdfast/tree.Tree).Commit
def tree_Tree_Commit_nil0 (K : Nat) : Option Int :=
  some (1:Int)

-- (*holdfast/tree.Tree).Abort
def tree_Tree_Abort_nil0 (K : Nat) : Option Int :=
  some (1:Int)

-- (*holdfast/tree.Tree).Pager
def tree_Tree_Pager_nil0 (K : Nat) : Option Unit :=
  some ()

-- holdfast/holdfastref01.Copy
def holdfastref01_Copy (K : Nat) (b : List UInt8) : Option (List UInt8) :=
  (app 140737488355328 ([] : List UInt8) b).bind fun xs=>(some xs)

-- holdfast/holdfastref05.IsKey
def holdfastref05_IsKey (K : Nat) (k1 : List UInt8) : Option Bool :=
  some ((decide ((1:Int)≤(k1.length:Int))) && (decide ((k1.length:Int)≤(64:Int))))

-- holdfast/holdfastref05.IsValue
def holdfastref05_IsValue (K : Nat) (v_ : List UInt8) : Option Bool :=
  some (decide ((v_.length:Int)≤(72:Int)))

-- holdfast/holdfastref01.SameBytes
def holdfastref01_SameBytes.l1 : Nat → (List UInt8) → (List UInt8) → Int → Option (Lr Bool Unit)
  | 0,_,_,_=>none
  | k + 1,a1,b,i=>if (decide (i < (a1.length:Int)))=true then ((gt a1 i).bind fun e=>((gt b i).bind fun e1=>(if (!decide (e=e1))=true then (some (.ret false)) else (holdfastref01_SameBytes.l1 k a1 b (W (i + (1:Int))))))) else (some (.go ()))
def holdfastref01_SameBytes (K : Nat) (a1 : List UInt8) (b : List UInt8) : Option Bool :=
  if (!decide ((a1.length:Int)=(b.length:Int)))=true then (some false) else ((holdfastref01_SameBytes.l1 K a1 b (0:Int)).bind fun q=>(lrc q (fun a=>some a) (fun _=>some true)))

-- holdfast/holdfastlaw05.TreeOwn
def holdfastlaw05_TreeOwn.l1 : Nat → (List UInt8) → Int → Option Unit
  | 0,_,_=>none
  | k + 1,k1,i2=>if (decide (i2 < (k1.length:Int)))=true then ((req (0≤i2∧i2 < (k1.length:Int))).bind fun u=>((some (k1.set (i2).toNat (1:UInt8))).bind fun k2=>(holdfastlaw05_TreeOwn.l1 k k2 (W (i2 + (1:Int)))))) else (some ())
def holdfastlaw05_TreeOwn.l2 : Nat → (List UInt8) → Int → Option Unit
  | 0,_,_=>none
  | k + 1,v_4,i3=>if (decide (i3 < (v_4.length:Int)))=true then ((req (0≤i3∧i3 < (v_4.length:Int))).bind fun u1=>((some (v_4.set (i3).toNat (2:UInt8))).bind fun v_5=>(holdfastlaw05_TreeOwn.l2 k v_5 (W (i3 + (1:Int)))))) else (some ())
def holdfastlaw05_TreeOwn.l3 : Nat → (List UInt8) → Int → Option Unit
  | 0,_,_=>none
  | k + 1,a3,i4=>if (decide (i4 < (a3.length:Int)))=true then ((req (0≤i4∧i4 < (a3.length:Int))).bind fun u2=>((some (a3.set (i4).toNat (3:UInt8))).bind fun a5=>(holdfastlaw05_TreeOwn.l3 k a5 (W (i4 + (1:Int)))))) else (some ())
def holdfastlaw05_TreeOwn (K : Nat) (key : List UInt8) (value : List UInt8) : Option Bool :=
  (tree_Tree_Get_nil0 K key).bind fun r_=>((tree_Tree_Scan_nil0 K key value (1:Int)).bind fun r_1=>((tree_Tree_Check_nil0 K).bind fun r_2=>((holdfastlaw05_live K).bind fun r_3=>((if ((((!r_3) || (!decide (r_.2=(1:Int)))) || (!decide (r_1.2=(1:Int)))) || (!decide (r_2.2=(1:Int))))=true then some true else ((tree_Tree_Put_nil0 K key value).bind fun r_4=>(some (!decide (r_4=(1:Int)))))).bind fun b1=>((if b1=true then some true else ((tree_Tree_Delete_nil0 K key).bind fun r_5=>(some (!decide (r_5=(1:Int)))))).bind fun b2=>((if b2=true then some true else ((tree_Tree_Commit_nil0 K).bind fun r_6=>(some (!decide (r_6=(1:Int)))))).bind fun b3=>((if b3=true then some true else ((tree_Tree_Abort_nil0 K).bind fun r_7=>(some (!decide (r_7=(1:Int)))))).bind fun b4=>((if b4=true then some true else ((tree_Tree_Pager_nil0 K).bind fun r_8=>(some false))).bind fun b5=>(if b5=true then (some false) else ((holdfastlaw05_open K (20:Int) (30:Int)).bind fun r_9=>((holdfastref01_Copy K key).bind fun r_10=>((holdfastref01_Copy K value).bind fun r_11=>((tree_Tree_Put K (⟨(⟨r_9.1.head.root,r_9.1.head.free,r_9.1.head.fresh⟩ : S_tree_head),(⟨(⟨(⟨(⟨r_9.1.p_.l.store.Disk.l,r_9.1.p_.l.store.Disk.writes,(⟨r_9.1.p_.l.store.Disk.count.v_⟩ : S_atomic_Int64)⟩ : S_block_Disk)⟩ : S_wal_store),r_9.1.p_.l.size,r_9.1.p_.l.groups,r_9.1.p_.l.used,r_9.1.p_.l.at_⟩ : S_wal_Log),r_9.1.p_.most,r_9.1.p_.dirty,r_9.1.p_.clean,r_9.1.p_.row,r_9.1.p_.pins,(⟨r_9.1.p_.hits.v_⟩ : S_atomic_Int64),(⟨r_9.1.p_.misses.v_⟩ : S_atomic_Int64)⟩ : S_pager_Pager)⟩ : S_tree_Tree) r_10 r_11).bind fun r_12=>(if (!decide (r_12.1=(0:Int)))=true then ((holdfastref05_IsKey K key).bind fun r_13=>((if (!r_13)=true then some true else ((holdfastref05_IsValue K value).bind fun r_14=>(some (!r_14)))).bind fun b18=>(some b18))) else ((holdfastlaw05_TreeOwn.l1 K r_10 (0:Int)).bind fun q=>((holdfastlaw05_TreeOwn.l2 K r_11 (0:Int)).bind fun q1=>((tree_Tree_Get K (⟨(⟨r_12.2.head.root,r_12.2.head.free,r_12.2.head.fresh⟩ : S_tree_head),(⟨(⟨(⟨(⟨r_12.2.p_.l.store.Disk.l,r_12.2.p_.l.store.Disk.writes,(⟨r_12.2.p_.l.store.Disk.count.v_⟩ : S_atomic_Int64)⟩ : S_block_Disk)⟩ : S_wal_store),r_12.2.p_.l.size,r_12.2.p_.l.groups,r_12.2.p_.l.used,r_12.2.p_.l.at_⟩ : S_wal_Log),r_12.2.p_.most,r_12.2.p_.dirty,r_12.2.p_.clean,r_12.2.p_.row,r_12.2.p_.pins,(⟨r_12.2.p_.hits.v_⟩ : S_atomic_Int64),(⟨r_12.2.p_.misses.v_⟩ : S_atomic_Int64)⟩ : S_pager_Pager)⟩ : S_tree_Tree) key).bind fun r_15=>((if (!decide (r_15.2.1=(0:Int)))=true then some true else ((holdfastref01_SameBytes K r_15.1 value).bind fun r_16=>(some (!r_16)))).bind fun b23=>(if b23=true then (some false) else ((holdfastlaw05_TreeOwn.l3 K r_15.1 (0:Int)).bind fun q2=>((tree_Tree_Get K (⟨(⟨r_15.2.2.head.root,r_15.2.2.head.free,r_15.2.2.head.fresh⟩ : S_tree_head),(⟨(⟨(⟨(⟨r_15.2.2.p_.l.store.Disk.l,r_15.2.2.p_.l.store.Disk.writes,(⟨r_15.2.2.p_.l.store.Disk.count.v_⟩ : S_atomic_Int64)⟩ : S_block_Disk)⟩ : S_wal_store),r_15.2.2.p_.l.size,r_15.2.2.p_.l.groups,r_15.2.2.p_.l.used,r_15.2.2.p_.l.at_⟩ : S_wal_Log),r_15.2.2.p_.most,r_15.2.2.p_.dirty,r_15.2.2.p_.clean,r_15.2.2.p_.row,r_15.2.2.p_.pins,(⟨r_15.2.2.p_.hits.v_⟩ : S_atomic_Int64),(⟨r_15.2.2.p_.misses.v_⟩ : S_atomic_Int64)⟩ : S_pager_Pager)⟩ : S_tree_Tree) key).bind fun r_17=>((if (decide (r_17.2.1=(0:Int)))=true then ((holdfastref01_SameBytes K r_17.1 value).bind fun r_18=>(some r_18)) else some false).bind fun b28=>(some b28)))))))))))))))))))))))
end
end Go.Proofs.YtgmgahphjiiceaaGreat
