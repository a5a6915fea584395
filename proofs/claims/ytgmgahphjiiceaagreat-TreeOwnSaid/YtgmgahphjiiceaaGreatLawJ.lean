/-
  Joined by strip.py from plain texts of another seat.
-/
import Derived.Test.YtgmgahphjiiceaaGreatPure
import Derived.Test.YtgmgahphjiiceaaGreatTypes
namespace Go.Proofs.YtgmgahphjiiceaaGreat
open Go L
set_option linter.unusedVariables false
set_option maxRecDepth 100000
theorem perm2 {α : Type} {a b : α} {l : List α} (h : l.Perm [a, b]) : l = [a, b] ∨ l = [b, a] := by
  match l,h.length_eq with
  | [x,y],_ =>
    have hx:x ∈ [a,b]:=h.subset (by simp)
    rcases List.mem_cons.1 hx with rfl | hx
    · have h1:=(List.perm_cons x).1 h
      left;rw [List.perm_singleton.1 h1]
    · obtain rfl:=List.mem_singleton.1 hx
      have h1:=(List.perm_cons x).1 (h.trans (List.Perm.swap x a []))
      right;rw [List.perm_singleton.1 h1]
theorem iU8_len {n : Nat} (h : n < 256) : (iU8 (n : Int)).toNat = n := by
  unfold iU8;simp;omega
def pg (k v : List UInt8) : List UInt8 := [76, 0, 1, iU8 (k.length : Int)] ++ k ++ [iU8 (v.length : Int)] ++ v ++ List.replicate (256 - (5 + k.length + v.length)) 0
theorem pg_len {k v : List UInt8} (hk : k.length ≤ 64) (hv : v.length ≤ 72) : (pg k v).length = 256 := by
  simp [pg];omega
abbrev ent (k v : List UInt8) : S_tree_entry := ⟨k, v, 0⟩
theorem page1 {k v : List UInt8} (hk : k.length ≤ 64) (hv : v.length ≤ 72) : tree_node_page 300 ⟨true, [ent k v]⟩ = some (pg k v) := by
  have h0:tree_node_page 300 ⟨true,[ent k v]⟩=tree_node_page.j1 300 ⟨true,[ent k v]⟩ [76,0,1]:=by kernel_rfl
  rw [h0]
  unfold tree_node_page.j1
  have h1:tree_node_page.l1 300 ⟨true,[ent k v]⟩ [76,0,1] 0=(appz 256 [76,0,1] [iU8 (k.length:Int)]).bind fun b7=>(appz 256 b7 k).bind fun b8=>(appz 256 b8 [iU8 (v.length:Int)]).bind fun b10=>(appz 256 b10 v).bind fun b11=>some b11:=by kernel_rfl
  rw [h1]
  simp only [appz,List.length_cons,List.length_nil]
  rw [if_pos (by omega)];simp only [Option.bind_some,List.length_append,List.length_cons,List.length_nil]
  rw [if_pos (by omega)];simp only [Option.bind_some,List.length_append,List.length_cons,List.length_nil]
  rw [if_pos (by omega)];simp only [Option.bind_some,List.length_append,List.length_cons,List.length_nil]
  rw [if_pos (by omega)];simp only [Option.bind_some,List.length_append,List.length_cons,List.length_nil]
  congr 1
  have e:256 - (3 + 1 + k.length + 1 + v.length)=256 - (5 + k.length + v.length):=by omega
  simp [pg,e]
theorem text1 {K : Nat} {k r : List UInt8} (hk : k.length ≤ 200) (hr : k.length + r.length ≤ 1000) : tree_text K (iU8 (k.length : Int) :: (k ++ r)) = some (k, r, true) := by
  have e1:(((iU8 (k.length:Int)).toNat:Nat):Int)=(k.length:Int):=by rw [iU8_len (by omega)]
  have w1:W ((k.length:Int) + 1)=(k.length:Int) + 1:=W_id (by omega) (by omega)
  unfold tree_text
  have g0:gt (iU8 (k.length:Int) :: (k++r)) 0=some (iU8 (k.length:Int)):=by simp [gt]
  rw [g0,if_neg (by simp;omega)]
  simp only [Option.bind_some,e1,w1]
  rw [if_neg (by simp;omega)]
  have s1:sub (iU8 (k.length:Int) :: (k++r)) 1 ((k.length:Int) + 1)=some k:=by
    unfold sub;rw [if_pos (by simp;omega)]
    have:((k.length:Int) + 1).toNat=k.length + 1:=by omega
    rw [this];simp
  have s2:sub (iU8 (k.length:Int) :: (k++r)) ((k.length:Int) + 1) ((iU8 (k.length:Int) :: (k++r)).length:Int)=some r:=by
    unfold sub;rw [if_pos (by simp;omega)]
    have:((k.length:Int) + 1).toNat=k.length + 1:=by omega
    rw [this,Int.toNat_natCast,List.take_length];simp
  rw [s1,s2];rfl
theorem parsed1 {k v : List UInt8} (hk : k.length ≤ 64) (hv : v.length ≤ 72) : tree_parsed 300 (pg k v) = some (⟨true, [ent k v]⟩, true) := by
  obtain ⟨R,hR,hRl⟩ : ∃ R,pg k v=76 :: 0 :: 1 :: (iU8 (k.length:Int) :: (k++(iU8 (v.length:Int) :: (v++R))))∧R.length=256 - (5 + k.length + v.length) :=
    ⟨List.replicate (256 - (5 + k.length + v.length)) 0,by simp [pg],by simp⟩
  rw [hR]
  obtain ⟨B,hB⟩ : ∃ B,B=iU8 (k.length:Int) :: (k++(iU8 (v.length:Int) :: (v++R))):=⟨_,rfl⟩
  rw [← hB]
  have hBl:B.length=253:=by rw [hB];simp;omega
  unfold tree_parsed
  have g0:gt (76 :: 0 :: 1 :: B) 0=some 76:=rfl
  have g1:gt (76 :: 0 :: 1 :: B) 1=some 0:=rfl
  have g2:gt (76 :: 0 :: 1 :: B) 2=some 1:=rfl
  have s3:sub (76 :: 0 :: 1 :: B) 3 ((76 :: 0 :: 1 :: B:List UInt8).length:Int)=some B:=by
    unfold sub;rw [if_pos (by simp;omega)]
    rw [Int.toNat_natCast,List.take_length];rfl
  rw [g0,g1,g2,s3]
  have t1:tree_text 300 B=some (k,iU8 (v.length:Int) :: (v++R),true):=by rw [hB];exact text1 (by omega) (by simp;omega)
  have t2:tree_text 300 (iU8 (v.length:Int) :: (v++R))=some (v,R,true):=text1 (by omega) (by omega)
  have l1:tree_parsed.l1 300 300 0 1 76 [] B 0=some (.go [ent k v]):=by
    have h0:tree_parsed.l1 300 300 0 1 76 [] B 0=(tree_text 300 B).bind fun r_=>if (!r_.2.2)=true then some (.ret (⟨decide ((76:UInt8)=76),[]⟩,false)) else
        (if (decide ((76:UInt8)=(76:UInt8)))=true then ((tree_text 300 r_.2.1).bind fun r_1=>(if (!r_1.2.2)=true then (some (.ret ((⟨decide ((76:UInt8)=(76:UInt8)),[]⟩ : S_tree_node),false))) else (tree_parsed.j1 300 (tree_parsed.l1 300 299 0 1 76) r_ [] 0 r_1.2.1 r_1.1 (0:Int)))) else
          (if (decide ((r_.2.1.length:Int) < (2:Int)))=true then (some (.ret ((⟨decide ((76:UInt8)=(76:UInt8)),[]⟩ : S_tree_node),false))) else ((gt r_.2.1 (0:Int)).bind fun e8=>((gt r_.2.1 (1:Int)).bind fun e9=>((sub r_.2.1 (2:Int) (r_.2.1.length:Int)).bind fun ys2=>(tree_parsed.j1 300 (tree_parsed.l1 300 299 0 1 76) r_ [] 0 ys2 ([] : List UInt8) (orI (shlI (e8.toNat:Int) 8) (e9.toNat:Int)))))))):=by kernel_rfl
    rw [h0,t1]
    show (tree_text 300 (iU8 (v.length:Int) :: (v++R))).bind _=_
    rw [t2]
    kernel_rfl
  simp only [Option.bind_some]
  rw [if_neg (by decide)]
  simp only [Option.bind_some,Bool.false_eq_true,if_false]
  rw [l1];rfl
theorem cmp_self (k : List UInt8) : Go.Lib.compareBytes k k = 0 := by
  induction k with
  | nil=>rfl
  | cons x xs ih=>simp [Go.Lib.compareBytes,ih]
theorem find1 {k v : List UInt8} : tree_node_find 300 ⟨true, [ent k v]⟩ k = some (0, true) := by
  have hm:W (((shr64 (iU64 (W ((0:Int) + 1))) 1).toNat:Nat):Int)=0:=by kernel_rfl
  have l1:tree_entry_byte_f68.l1 300 300 [ent k v] k 0 1=some 0:=by
    rw [tree_entry_byte_f68.l1,if_pos (by decide),hm]
    have g:gt [ent k v] (0:Int)=some (ent k v):=rfl
    rw [g]
    simp only [Option.bind_some,tree_node_find_1,bytes_Compare,cmp_self]
    rw [if_neg (by decide),tree_entry_byte_f68.l1,if_neg (by decide)]
  unfold tree_node_find tree_entry_byte_f68
  have hl:(((⟨true,[ent k v]⟩ : S_tree_node).l.length:Nat):Int)=1:=rfl
  have g:gt [ent k v] (0:Int)=some (ent k v):=rfl
  rw [hl]
  rw [l1]
  simp only [Option.bind_some,g,tree_node_find_1,bytes_Compare,cmp_self]
  rw [if_pos (by decide)]
  simp only [Option.bind_some,Bool.not_true,Bool.false_and,Bool.false_eq_true,if_false]
  rfl
theorem bytes1 {k v : List UInt8} (hk : k.length ≤ 64) (hv : v.length ≤ 72) : tree_node_bytes 300 ⟨true, [ent k v]⟩ = some ((k.length : Int) + v.length + 2) := by
  have h0:tree_node_bytes 300 ⟨true,[ent k v]⟩=some (W (0 + W (W ((k.length:Int) + (v.length:Int)) + 2))):=by kernel_rfl
  rw [h0,W_id (n:=(k.length:Int) + v.length) (by omega) (by omega),W_id (n:=(k.length:Int) + v.length + 2) (by omega) (by omega),Int.zero_add,W_id (by omega) (by omega)]
open Go L
set_option linter.unusedVariables false
set_option maxRecDepth 100000
def Z : List UInt8 := List.replicate 256 0
def D0 : List (List UInt8) := List.replicate 51 Z
def L0 : S_wal_Log := ⟨⟨⟨D0, [], ⟨0⟩⟩⟩, 30, 0, 0, []⟩
def P0 : S_pager_Pager := ⟨L0, 8, [], [], [], [], ⟨0⟩, ⟨0⟩⟩
def T0 : S_tree_Tree := ⟨⟨0, 0, 1⟩, ⟨L0, 8, [], [(0, Z)], [0], [], ⟨0⟩, ⟨1⟩⟩⟩
theorem dirty0 (p : S_pager_Pager) (h : p.dirty = []) : pager_Pager_Dirty 300 p = some [] := by
  unfold pager_Pager_Dirty
  rw [h]
  refine mrngK_eq fun l hl=>?_
  obtain rfl:=hl.eq_nil
  kernel_rfl
theorem oB : block_New 300 (W ((W (20 + 30)) + 1)) = some (some ⟨D0, [], ⟨0⟩⟩, 0) := by kernel_rfl
theorem oW : wal_Open 300 ⟨D0, [], ⟨0⟩⟩ 30 = some (some L0, 0) := by kernel_rfl
theorem oP : pager_New 300 L0 8 = some (some P0, 0) := by kernel_rfl
theorem oL : wal_Log_Pages 300 L0 = some 20 := by kernel_rfl
theorem oR : pager_Pager_Read 300 P0 0 = some (Z, 0, ⟨L0, 8, [], [(0, Z)], [0], [], ⟨0⟩, ⟨1⟩⟩) := by kernel_rfl
theorem oC : slices_ContainsFunc_byte_byte_83_f84 300 Z = some false := by kernel_rfl
theorem oT : tree_Open 300 P0 = some (some T0, 0) := by
  unfold tree_Open
  have e1:wal_Log_Pages 300 (⟨(⟨(⟨P0.l.store.Disk.l,P0.l.store.Disk.writes,P0.l.store.Disk.count⟩ : S_block_Disk)⟩ : S_wal_store),P0.l.size,P0.l.groups,P0.l.used,P0.l.at_⟩ : S_wal_Log)=some 20:=oL
  rw [e1];simp only [Option.bind_some];rw [if_neg (by decide)]
  rw [dirty0 _ rfl];simp only [Option.bind_some];rw [if_neg (by decide)]
  have e2:=oR
  unfold P0 at e2
  show (pager_Pager_Read 300 (⟨L0,8,[],[],[],[],⟨0⟩,⟨0⟩⟩ : S_pager_Pager) 0).bind _=_
  rw [e2];simp only [Option.bind_some]
  rw [oC];rfl
theorem open0 : holdfastlaw05_open 300 20 30 = some (T0, 0) := by
  unfold holdfastlaw05_open
  rw [oB];simp only [Option.bind_some,Option.elim_some]
  rw [show wal_Open 300 (⟨D0,[],⟨(0:Int)⟩⟩ : S_block_Disk) 30=_ from oW];simp only [Option.bind_some,Option.elim_some]
  rw [show pager_New 300 _ 8=_ from oP];simp only [Option.bind_some,Option.elim_some]
  rw [show tree_Open 300 _=_ from oT];rfl
open Go L
set_option linter.unusedVariables false
set_option maxRecDepth 100000
def H1 : List UInt8 := [72, 84, 0, 1, 0, 0, 0, 2] ++ List.replicate 248 0
def E0 : List UInt8 := [76, 0, 0] ++ List.replicate 253 0
def P1 (d c : List (Int × List UInt8)) (row : List Int) : S_pager_Pager := ⟨L0, 8, d, c, row, [], ⟨0⟩, ⟨1⟩⟩
def T1 (B : List UInt8) : S_tree_Tree := ⟨⟨1, 0, 2⟩, P1 [(0, H1), (1, B)] [] []⟩
theorem clone1 {B : List UInt8} (hB : B.length = 256) : bytes_Clone 300 B = some B := by
  unfold bytes_Clone app
  rw [if_pos (by rw [hB];decide)];rfl
theorem look1 (d c : List (Int × List UInt8)) (row : List Int) {n : Int} (hn : n = 0 ∨ n = 1) : pager_Pager_look 300 (P1 d c row) n = some 0 := by
  rcases hn with rfl | rfl <;> kernel_rfl
theorem idx0 : slices_IndexFunc_int_int_f141 300 [0] 0 = some 0 := by kernel_rfl
theorem idx1 : slices_IndexFunc_int_int_f141 300 [0] 1 = some (-1) := by kernel_rfl
theorem idxn (n : Int) : slices_IndexFunc_int_int_f141 300 [] n = some (-1) := by kernel_rfl
theorem writeN (d c : List (Int × List UInt8)) (row : List Int) {n : Int} {B : List UInt8} (hn : n = 0 ∨ n = 1) (hB : B.length = 256) (hd : d.length < 100) (hr : slices_IndexFunc_int_int_f141 300 row n = some (-1)) :
    pager_Pager_Write 300 (P1 d c row) n B=some (0,P1 (msetC d n B) (mdel c n) row):=by
  unfold pager_Pager_Write
  have hl:=look1 d c row hn
  unfold P1 at hl ⊢
  simp only
  rw [hl];simp only [Option.bind_some]
  rw [if_neg (by decide),if_neg (by rw [hB];decide),if_neg (by simp;omega),clone1 hB]
  simp only [Option.bind_some]
  rw [hr];simp only [Option.bind_some]
  rw [if_pos (by decide)];rfl
theorem write0 (d : List (Int × List UInt8)) {B : List UInt8} (hB : B.length = 256) (hd : d.length < 100) :
    pager_Pager_Write 300 (P1 d [(0,Z)] [0]) 0 B=some (0,P1 (msetC d 0 B) [] []):=by
  unfold pager_Pager_Write
  have hl:=look1 d [(0,Z)] [0] (.inl rfl)
  unfold P1 at hl ⊢
  simp only
  rw [hl];simp only [Option.bind_some]
  rw [if_neg (by decide),if_neg (by rw [hB];decide),if_neg (by simp;omega),clone1 hB]
  simp only [Option.bind_some]
  rw [idx0];simp only [Option.bind_some]
  rw [if_neg (by decide)]
  show _=_
  kernel_rfl
theorem headp : tree_head_page 300 ⟨1, 0, 2⟩ = some H1 := by kernel_rfl
theorem put1 {k v : List UInt8} (h1 : 1 ≤ k.length) (hk : k.length ≤ 64) (hv : v.length ≤ 72) : tree_Tree_Put 300 T0 k v = some (0, T1 (pg k v)) := by
  have hkey:tree_isKey 300 k=some true:=by unfold tree_isKey;simp;omega
  have hB:=pg_len hk hv
  have s1:tree_Tree_Put 300 T0 k v=tree_Tree_Put.j3 300 T0 k v:=by
    unfold tree_Tree_Put;rw [hkey];simp only [Option.bind_some];rw [if_neg (by simp;omega)];kernel_rfl
  have s2:tree_Tree_Put.j3 300 T0 k v=tree_Tree_Put.j5 300 (⟨true,[]⟩,true) k v [(1,E0)] 1 0 D0 [] 0 30 0 0 [] 8 [] [(0,Z)] [0] [] 0 1 2 T0:=by kernel_rfl
  have s3:tree_Tree_Put.j5 300 (⟨true,[]⟩,true) k v [(1,E0)] 1 0 D0 [] 0 30 0 0 [] 8 [] [(0,Z)] [0] [] 0 1 2 T0=tree_Tree_Put.j12 300 [(1,pg k v)] 1 D0 [] 0 30 0 0 [] 8 [] [(0,Z)] [0] [] 0 1 0 2 T0:=by
    unfold tree_Tree_Put.j5
    have hf:tree_node_find 300 ⟨true,[]⟩ k=some (0,false):=by kernel_rfl
    rw [if_pos rfl,hf];simp only [Option.bind_some]
    rw [if_neg (by decide)]
    have hi:insS ([] : List S_tree_entry) 0 [ent k v]=some [ent k v]:=rfl
    rw [hi];simp only [Option.bind_some]
    rw [bytes1 hk hv];simp only [Option.bind_some]
    rw [if_pos (by simp;omega),page1 hk hv]
    rfl
  have s4:tree_Tree_Put.j12 300 [(1,pg k v)] 1 D0 [] 0 30 0 0 [] 8 [] [(0,Z)] [0] [] 0 1 0 2 T0=tree_Tree_Put.j15 300 (⟨true,[ent k v]⟩,true) 1 0 2 T0 D0 [] 0 30 0 0 [] 8 [] [(0,Z)] [0] [] 0 1 [(1,pg k v)]:=by
    unfold tree_Tree_Put.j12
    have hm:mget [((1:Int),pg k v)] 1=some (pg k v):=rfl
    rw [hm]
    rw [if_neg (by simp)]
    unfold tree_Tree_Put.j14
    rw [show ((some (pg k v)).getD [])=pg k v from rfl,parsed1 hk hv]
    rfl
  rw [s1,s2,s3,s4]
  generalize pg k v=B at hB ⊢
  unfold tree_Tree_Put.j15
  rw [if_neg (by simp),headp];simp only [Option.bind_some]
  rw [dirty0 _ rfl];simp only [Option.bind_some]
  have hm:msetC [((1:Int),B)] 0 H1=[(0,H1),(1,B)]:=rfl
  rw [hm]
  refine mrngK_eq fun l hl=>?_
  have hc:mfold (tree_Tree_Put.m3 300 []) l (([] : List Int).length:Int)=some (.go 2):=by
    rcases perm2 hl with rfl | rfl <;> kernel_rfl
  rw [hc];simp only [Option.bind_some,lrc]
  rw [if_neg (by decide)]
  refine mrngK_eq fun l hl=>?_
  have hw:∀ (x:S_pager_Pager) (n:Int) (B:List UInt8) (y:S_pager_Pager),pager_Pager_Write 300 x n B=some (0,y) →
      tree_Tree_Put.m4 300 (n,B) (x.l.store.Disk.l,x.l.store.Disk.writes,x.l.store.Disk.count.v_,x.l.size,x.l.groups,x.l.used,x.l.at_,x.most,x.dirty,x.clean,x.row,x.pins,x.hits.v_,x.misses.v_) =
        some (.go (y.l.store.Disk.l,y.l.store.Disk.writes,y.l.store.Disk.count.v_,y.l.size,y.l.groups,y.l.used,y.l.at_,y.most,y.dirty,y.clean,y.row,y.pins,y.hits.v_,y.misses.v_)):=by
    intro x n B y h
    unfold tree_Tree_Put.m4
    show (pager_Pager_Write 300 x n B).bind _=_
    rw [h];rfl
  have hH:H1.length=256:=by kernel_rfl
  have hf:mfold (tree_Tree_Put.m4 300) l (D0,[],0,30,0,0,[],8,[],[(0,Z)],[0],[],0,1)=some (.go (D0,[],0,30,0,0,[],8,[(0,H1),(1,B)],[],[],[],0,1)):=by
    rcases perm2 hl with rfl | rfl
    · have a1:=hw (P1 [] [(0,Z)] [0]) 0 H1 _ (write0 [] hH (by decide))
      have a2:=hw (P1 (msetC [] 0 H1) [] []) 1 B _ (writeN _ _ _ (.inr rfl) hB (by show 1 < 100;decide) (idxn 1))
      unfold mfold
      rw [show tree_Tree_Put.m4 300 (0,H1) (D0,[],0,30,0,0,[],8,[],[(0,Z)],[0],[],0,1)=_ from a1]
      simp only [Option.bind_some,lrc]
      unfold mfold
      rw [show tree_Tree_Put.m4 300 (1,B) _=_ from a2]
      rfl
    · have a1:=hw (P1 [] [(0,Z)] [0]) 1 B _ (writeN _ _ _ (.inr rfl) hB (by show 0 < 100;decide) idx1)
      have a2:=hw (P1 (msetC [] 1 B) (mdel [(0,Z)] 1) [0]) 0 H1 _ (write0 _ hH (by show 1 < 100;decide))
      unfold mfold
      rw [show tree_Tree_Put.m4 300 (1,B) (D0,[],0,30,0,0,[],8,[],[(0,Z)],[0],[],0,1)=_ from a1]
      simp only [Option.bind_some,lrc]
      unfold mfold
      rw [show tree_Tree_Put.m4 300 (0,H1) _=_ from a2]
      rfl
  rw [show mfold (tree_Tree_Put.m4 300) l _=_ from hf]
  rfl
open Go L
set_option linter.unusedVariables false
set_option maxRecDepth 100000
theorem get1 {k v : List UInt8} (h1 : 1 ≤ k.length) (hk : k.length ≤ 64) (hv : v.length ≤ 72) : tree_Tree_Get 300 (T1 (pg k v)) k = some (v, 0, T1 (pg k v)) := by
  have hkey:tree_isKey 300 k=some true:=by unfold tree_isKey;simp;omega
  have hB:=pg_len hk hv
  have hr:pager_Pager_Read 300 (P1 [(0,H1),(1,pg k v)] [] []) 1=some (pg k v,0,P1 [(0,H1),(1,pg k v)] [] []):=by
    unfold pager_Pager_Read
    have hl:=look1 [(0,H1),(1,pg k v)] [] [] (.inr rfl)
    unfold P1 at hl ⊢
    simp only
    rw [hl];simp only [Option.bind_some]
    rw [if_neg (by decide)]
    have hm:mget [((0:Int),H1),(1,pg k v)] 1=some (pg k v):=rfl
    rw [hm,if_pos (by simp)]
    rw [show ((some (pg k v)).getD [])=pg k v from rfl,clone1 hB];rfl
  unfold tree_Tree_Get
  rw [hkey];simp only [Option.bind_some]
  rw [if_neg (by decide),if_pos (by simp [T1])]
  show (pager_Pager_Read 300 (P1 [(0,H1),(1,pg k v)] [] []) 1).bind _=_
  rw [hr]
  simp only [Option.bind_some]
  rw [parsed1 hk hv];simp only [Option.bind_some]
  rw [if_neg (by simp)]
  unfold tree_Tree_Get.j1
  rw [find1];simp only [Option.bind_some]
  rw [if_pos (by simp),if_neg (by simp)]
  rw [show gt [ent k v] (0:Int)=some (ent k v) from rfl];simp only [Option.bind_some]
  unfold bytes_Clone app
  rw [if_pos (by simp <;> omega)];rfl
theorem putBad {k v : List UInt8} (h : ¬ (1 ≤ k.length ∧ k.length ≤ 64 ∧ v.length ≤ 72)) : tree_Tree_Put 300 T0 k v = some (6, T0) := by
  have hc:((!((decide ((1:Int)≤(k.length:Int))) && (decide ((k.length:Int)≤(64:Int))))) || (decide ((72:Int) < (v.length:Int))))=true:=by simp;omega
  unfold tree_Tree_Put tree_isKey
  simp only [Option.bind_some]
  rw [if_pos hc]
theorem set1 : ∀ (n : Nat) (l : List UInt8) (i : Nat), i ≤ l.length → l.length < n + i → l.length ≤ 1000 → holdfastlaw05_TreeOwn.l1 n l (i : Int) = some ()
  | 0,l,i,h,h',_=>by omega
  | n + 1,l,i,h,h',h3=>by
    rw [holdfastlaw05_TreeOwn.l1]
    by_cases hi:i < l.length
    · rw [if_pos (by simp;omega),req,if_pos (by omega)]
      simp only [Option.bind_some]
      rw [W_id (by omega) (by omega)]
      exact set1 n _ (i + 1) (by simp;omega) (by simp;omega) (by simpa using h3)
    · rw [if_neg (by simp;omega)]
theorem set2 : ∀ (n : Nat) (l : List UInt8) (i : Nat), i ≤ l.length → l.length < n + i → l.length ≤ 1000 → holdfastlaw05_TreeOwn.l2 n l (i : Int) = some ()
  | 0,l,i,h,h',_=>by omega
  | n + 1,l,i,h,h',h3=>by
    rw [holdfastlaw05_TreeOwn.l2]
    by_cases hi:i < l.length
    · rw [if_pos (by simp;omega),req,if_pos (by omega)]
      simp only [Option.bind_some]
      rw [W_id (by omega) (by omega)]
      exact set2 n _ (i + 1) (by simp;omega) (by simp;omega) (by simpa using h3)
    · rw [if_neg (by simp;omega)]
theorem set3 : ∀ (n : Nat) (l : List UInt8) (i : Nat), i ≤ l.length → l.length < n + i → l.length ≤ 1000 → holdfastlaw05_TreeOwn.l3 n l (i : Int) = some ()
  | 0,l,i,h,h',_=>by omega
  | n + 1,l,i,h,h',h3=>by
    rw [holdfastlaw05_TreeOwn.l3]
    by_cases hi:i < l.length
    · rw [if_pos (by simp;omega),req,if_pos (by omega)]
      simp only [Option.bind_some]
      rw [W_id (by omega) (by omega)]
      exact set3 n _ (i + 1) (by simp;omega) (by simp;omega) (by simpa using h3)
    · rw [if_neg (by simp;omega)]
theorem same1 : ∀ (n : Nat) (l : List UInt8) (i : Nat), i ≤ l.length → l.length < n + i → l.length ≤ 1000 → holdfastref01_SameBytes.l1 n l l (i : Int) = some (.go ())
  | 0,l,i,h,h',_=>by omega
  | n + 1,l,i,h,h',h3=>by
    rw [holdfastref01_SameBytes.l1]
    by_cases hi:i < l.length
    · have g:gt l (i:Int)=some l[i]:=by simp [gt,hi]
      rw [if_pos (by simp;omega),g]
      simp only [Option.bind_some]
      rw [if_neg (by simp),W_id (by omega) (by omega)]
      exact same1 n l (i + 1) (by omega) (by omega) h3
    · rw [if_neg (by simp;omega)]
theorem same {l : List UInt8} (h : l.length ≤ 72) : holdfastref01_SameBytes 300 l l = some true := by
  unfold holdfastref01_SameBytes
  have e:holdfastref01_SameBytes.l1 300 l l 0=some (.go ()):=same1 300 l 0 (by omega) (by omega) (by omega)
  rw [if_neg (by simp),e];rfl
theorem copy1 {l : List UInt8} (h : l.length ≤ 140737488351232) : holdfastref01_Copy 300 l = some l := by
  unfold holdfastref01_Copy app
  rw [if_pos (by simp;omega)];rfl
theorem own_of (hlive : holdfastlaw05_live 300 = some true) (key value : List UInt8) (y0 : key.length ≤ 140737488351232) (y1 : value.length ≤ 140737488351232) : ∃ K, holdfastlaw05_TreeOwn K key value = some true := by
  refine ⟨300,?_⟩
  unfold holdfastlaw05_TreeOwn
  rw [hlive,open0,copy1 y0,copy1 y1]
  simp only [Option.bind_some,tree_Tree_Get_nil0,tree_Tree_Scan_nil0,tree_Tree_Check_nil0,tree_Tree_Put_nil0,tree_Tree_Delete_nil0,tree_Tree_Commit_nil0,tree_Tree_Abort_nil0,tree_Tree_Pager_nil0]
  rw [if_neg (by decide)];simp only [Option.bind_some]
  rw [if_neg (by decide)];simp only [Option.bind_some]
  rw [if_neg (by decide)];simp only [Option.bind_some]
  rw [if_neg (by decide)];simp only [Option.bind_some]
  rw [if_neg (by decide)];simp only [Option.bind_some]
  rw [if_neg (by decide)]
  by_cases hv:1≤key.length∧key.length≤64∧value.length≤72
  · obtain ⟨h1,hk,hl⟩:=hv
    rw [show tree_Tree_Put 300 _ key value=_ from put1 h1 hk hl]
    simp only [Option.bind_some]
    rw [if_neg (by decide)]
    have e1:holdfastlaw05_TreeOwn.l1 300 key 0=some ():=set1 300 key 0 (by omega) (by omega) (by omega)
    have e2:holdfastlaw05_TreeOwn.l2 300 value 0=some ():=set2 300 value 0 (by omega) (by omega) (by omega)
    have e3:holdfastlaw05_TreeOwn.l3 300 value 0=some ():=set3 300 value 0 (by omega) (by omega) (by omega)
    rw [e1,e2]
    simp only [Option.bind_some]
    rw [show tree_Tree_Get 300 _ key=_ from get1 h1 hk hl]
    simp only [Option.bind_some]
    rw [if_neg (by decide),same hl]
    simp only [Option.bind_some]
    rw [if_neg (by decide),e3]
    simp only [Option.bind_some]
    rw [show tree_Tree_Get 300 _ key=_ from get1 h1 hk hl]
    simp only [Option.bind_some]
    rw [if_pos (by decide),same hl];rfl
  · rw [show tree_Tree_Put 300 _ key value=_ from putBad hv]
    simp only [Option.bind_some]
    rw [if_pos (by decide)]
    simp only [holdfastref05_IsKey,holdfastref05_IsValue,Option.bind_some]
    by_cases hk:1≤key.length∧key.length≤64
    · rw [if_neg (by simp;omega)];simp;omega
    · rw [if_pos (by simp;omega)];rfl
open Go L
set_option linter.unusedVariables false
set_option maxRecDepth 100000
def B1 : List UInt8 := pg [98] [50]
def B2 : List UInt8 := [76, 0, 2, 1, 97, 1, 49, 1, 98, 1, 50] ++ List.replicate 245 0
theorem b1_len : B1.length = 256 := by kernel_rfl
theorem b2_len : B2.length = 256 := by kernel_rfl
theorem dirty2 {A B : List UInt8} : pager_Pager_Dirty 300 (P1 [(0, A), (1, B)] [] []) = some [0, 1] := by
  unfold pager_Pager_Dirty P1
  refine mrngK_eq fun l hl=>?_
  rcases perm2 hl with rfl | rfl <;> kernel_rfl
theorem put2 : tree_Tree_Put 300 (T1 B1) [97] [49] = some (0, T1 B2) := by
  have s1:tree_Tree_Put 300 (T1 B1) [97] [49]=tree_Tree_Put.j15 300 (⟨true,[ent [97] [49],ent [98] [50]]⟩,true) 1 0 2 (T1 B1) D0 [] 0 30 0 0 [] 8 [(0,H1),(1,B1)] [] [] [] 0 1 [(1,B2)]:=by kernel_rfl
  rw [s1]
  have hB:=b2_len
  have hA:=b1_len
  generalize B1=A at hA ⊢
  generalize B2=B at hB ⊢
  unfold tree_Tree_Put.j15
  rw [if_neg (by simp),headp];simp only [Option.bind_some]
  show (pager_Pager_Dirty 300 (P1 [(0,H1),(1,A)] [] [])).bind _=_
  rw [dirty2];simp only [Option.bind_some]
  have hm:msetC [((1:Int),B)] 0 H1=[(0,H1),(1,B)]:=rfl
  rw [hm]
  refine mrngK_eq fun l hl=>?_
  have hc:mfold (tree_Tree_Put.m3 300 [0,1]) l (([0,1] : List Int).length:Int)=some (.go 2):=by
    rcases perm2 hl with rfl | rfl <;> kernel_rfl
  rw [hc];simp only [Option.bind_some,lrc]
  rw [if_neg (by decide)]
  refine mrngK_eq fun l hl=>?_
  have hw:∀ (x:S_pager_Pager) (n:Int) (B:List UInt8) (y:S_pager_Pager),pager_Pager_Write 300 x n B=some (0,y) →
      tree_Tree_Put.m4 300 (n,B) (x.l.store.Disk.l,x.l.store.Disk.writes,x.l.store.Disk.count.v_,x.l.size,x.l.groups,x.l.used,x.l.at_,x.most,x.dirty,x.clean,x.row,x.pins,x.hits.v_,x.misses.v_) =
        some (.go (y.l.store.Disk.l,y.l.store.Disk.writes,y.l.store.Disk.count.v_,y.l.size,y.l.groups,y.l.used,y.l.at_,y.most,y.dirty,y.clean,y.row,y.pins,y.hits.v_,y.misses.v_)):=by
    intro x n B y h
    unfold tree_Tree_Put.m4
    show (pager_Pager_Write 300 x n B).bind _=_
    rw [h];rfl
  have hH:H1.length=256:=by kernel_rfl
  have hf:mfold (tree_Tree_Put.m4 300) l (D0,[],0,30,0,0,[],8,[(0,H1),(1,A)],[],[],[],0,1)=some (.go (D0,[],0,30,0,0,[],8,[(0,H1),(1,B)],[],[],[],0,1)):=by
    rcases perm2 hl with rfl | rfl
    · have a1:=hw (P1 [(0,H1),(1,A)] [] []) 0 H1 _ (writeN _ _ _ (.inl rfl) hH (by show 2 < 100;decide) (idxn 0))
      have a2:=hw (P1 (msetC [(0,H1),(1,A)] 0 H1) (mdel [] 0) []) 1 B _ (writeN _ _ _ (.inr rfl) hB (by show 2 < 100;decide) (idxn 1))
      unfold mfold
      rw [show tree_Tree_Put.m4 300 (0,H1) (D0,[],0,30,0,0,[],8,[(0,H1),(1,A)],[],[],[],0,1)=_ from a1]
      simp only [Option.bind_some,lrc]
      unfold mfold
      rw [show tree_Tree_Put.m4 300 (1,B) _=_ from a2]
      rfl
    · have a1:=hw (P1 [(0,H1),(1,A)] [] []) 1 B _ (writeN _ _ _ (.inr rfl) hB (by show 2 < 100;decide) (idxn 1))
      have a2:=hw (P1 (msetC [(0,H1),(1,A)] 1 B) (mdel [] 1) []) 0 H1 _ (writeN _ _ _ (.inl rfl) hH (by show 2 < 100;decide) (idxn 0))
      unfold mfold
      rw [show tree_Tree_Put.m4 300 (1,B) (D0,[],0,30,0,0,[],8,[(0,H1),(1,A)],[],[],[],0,1)=_ from a1]
      simp only [Option.bind_some,lrc]
      unfold mfold
      rw [show tree_Tree_Put.m4 300 (0,H1) _=_ from a2]
      rfl
  rw [show mfold (tree_Tree_Put.m4 300) l _=_ from hf]
  rfl
theorem scan2 : tree_Tree_Scan 300 (T1 B2) [] [] 9 = some ([⟨[97], [49]⟩, ⟨[98], [50]⟩], 0, T1 B2) := by kernel_rfl
theorem check2 : tree_Tree_Check 300 (T1 B2) = some (⟨1, [1], [], [2, 3, 4, 5, 6, 7, 8, 9, 10, 11, 12, 13, 14, 15, 16, 17, 18, 19], 0⟩, 0, T1 B2) := by kernel_rfl
theorem live0 : holdfastlaw05_live 300 = some true := by
  unfold holdfastlaw05_live
  rw [open0];simp only [Option.bind_some]
  rw [show tree_Tree_Put 300 _ [98] [50]=_ from put1 (k:=[98]) (v:=[50]) (by decide) (by decide) (by decide)];simp only [Option.bind_some]
  show (tree_Tree_Put 300 (T1 B1) [97] [49]).bind _=_
  rw [put2];simp only [Option.bind_some]
  show (tree_Tree_Scan 300 (T1 B2) [] [] 9).bind _=_
  rw [scan2];simp only [Option.bind_some]
  show (tree_Tree_Check 300 (T1 B2)).bind _=_
  rw [check2];simp only [Option.bind_some]
  rfl
theorem law_own (key value : List UInt8) (y0 : key.length ≤ 140737488351232) (y1 : value.length ≤ 140737488351232) : ∃ K, holdfastlaw05_TreeOwn K key value = some true := own_of live0 key value y0 y1
end Go.Proofs.YtgmgahphjiiceaaGreat
