/-
  append with zeros: 'append(xs,make(T,n)...)'. No program in sight.
-/
import Derived.Test.YtjgbakieogadfabGreatDoorLib8
namespace Go.Proofs.YtjgbakieogadfabGreatDoor.L
open Go
section
variable {P:Program} {f:Fr} {w:World} {c:Col} {o:Oper} {R:Value→World→Prop} {x y:Operand} {v u:Value}
theorem run_appZ {α:Type} {E:Enc α} {i n:Nat} {xs:List α} {z0:α} {t t' ty:TypeId} {ti:TypeInfo} {zr:Value} {k k':IntKind} (ht:P.underlying t=some (.slice E.ty)) (ht':P.underlying t'=some (.int k'))
    (hi:P.info? E.ty=some ti) (hsz:ti.size=E.sz) (hz:ti.zero=some zr) (hzc:zr.cells.toList=E.e z0)
    (hv:Ow E i w c v xs) (hb:Fits (xs.length+n) ti.bytes) (h63:xs.length+n≤maxLen) :
    ∃ v' w' c',(Builtin.append_ #[t,t'] ty #[v,.int k (n:Int)]).run P w = .ok v' w'∧Ow E i w' c' v' (xs++List.replicate n z0)∧St [i] w c w' c':=by
  have hzs:zr.cells.size=E.sz:=by rw [← Array.length_toList,hzc,E.len]
  obtain ⟨ys,hys⟩:∃ ys,List.replicate n z0=ys:=⟨_,rfl⟩
  have hyl:ys.length=n:=by rw [← hys];simp
  have hzy:Builtin.zeroCells zr.cells n=(fl E ys).toArray:=by
    have:=madeCells_rep hzc n
    rw [← hys,← this];unfold Builtin.zeroCells madeCells;rw [hzs]
  have happ:∀ w:World,(if n*E.sz=0 then (pure #[]:Sem (Array Value)) else (do pure (Builtin.zeroCells (← (pure zr:Sem Value)).cells n))).run P w = .ok (fl E ys).toArray w:=fun w=>by
    by_cases h0:n*E.sz=0
    · have hn:n=0:=by have:=E.pos;rcases Nat.mul_eq_zero.1 h0 with h | h <;> omega
      have:ys=[]:=List.length_eq_zero_iff.1 (by omega)
      rw [if_pos h0,this];rfl
    · rw [if_neg h0];simp [hzy]
  rw [hys]
  rw [← hyl] at hb h63 happ ⊢
  have hwr:IntKind.i64.wrap (ys.length:Int)=(ys.length:Int):=by have:=W_id (n:=(ys.length:Int)) (by simp only [maxLen] at h63;omega) (by simp only [maxLen] at h63;omega);exact this
  have hby : ¬ ((281474976710656:Int)<(ys.length:Int)*(ti.bytes:Int)):=by
    have h1:ys.length*ti.bytes≤(xs.length+ys.length)*ti.bytes:=Nat.mul_le_mul_right _ (by omega)
    have h2:((ys.length*ti.bytes:Nat):Int)≤281474976710656:=by have:=hb.le;omega
    rw [Int.natCast_mul] at h2;omega
  have hng : ¬ ((ys.length:Int)<0):=by omega
  have hai0:∀ w,(asInt (.int k 0)).run P w = .ok 0 w:=fun w=>rfl
  have hwr0:IntKind.i64.wrap 0=0:=W_id (by omega) (by omega)
  have hai:∀ w,(asInt (.int k (ys.length:Int))).run P w = .ok (ys.length:Int) w:=fun w=>rfl
  obtain ⟨⟨hl,h2⟩,h3⟩:=hv
  have hmx:xs.length+ys.length≤9223372036854775807:=by simp only [maxLen] at h63;omega
  have grown:∀ (old:Nat),old<xs.length+ys.length →
      Ow E i (w.drew.alloc (.cells ((fl E xs).toArray++(fl E ys).toArray++Builtin.zeroCells zr.cells (grownCap w (xs.length+ys.length) old E.ty-(xs.length+ys.length))) E.ty)) (pc c w.heap.size i)
        (.slice (some ⟨w.heap.size,0,none⟩) (xs.length+ys.length) (grownCap w (xs.length+ys.length) old E.ty)) (xs++ys) ∧
      St [i] w c (w.drew.alloc (.cells ((fl E xs).toArray++(fl E ys).toArray++Builtin.zeroCells zr.cells (grownCap w (xs.length+ys.length) old E.ty-(xs.length+ys.length))) E.ty)) (pc c w.heap.size i):=by
    intro old ho
    have hge:=grownCap_ge w (xs.length+ys.length) old E.ty
    have hcm:grownCap w (xs.length+ys.length) old E.ty≤maxLen:=grownCap_le_maxLen w _ old E.ty h63
    refine ⟨⟨⟨fl_length _,.inr ⟨w.heap.size,_,_,by rw [List.length_append],Nat.zero_le _,heap_alloc_new w.drew _,by rw [List.length_append];exact hge,hcm,?_,?_⟩⟩,fun g hg=>?_⟩,
      ((St.drew (w:=w) (c:=c)).t (St.alloc _ i)).mono (by simp)⟩
    · simp only [Array.size_append,List.size_toArray,size_zeroCells,hzs,fl_length,← Nat.add_mul]
      congr 1
      omega
    · simp only [Array.toList_append,List.length_append]
      rw [← fl_append,List.take_append_of_le_length (by rw [fl_length,List.length_append];omega)]
      rw [List.take_of_length_le (by rw [fl_length,List.length_append];omega)]
    · simp only [Value.ownBlock,Option.some.injEq] at hg;subst hg;exact pc_same
  · rcases h2 with ⟨hv0,hn0⟩ | ⟨g,cap,cur,hv',hg0,hg,hnc,hcm,hcs,htake⟩
    · have hx:xs=[]:=List.length_eq_zero_iff.1 hn0
      subst hx;subst hv0
      by_cases hm0:ys.length=0
      · have hy:ys=[]:=List.length_eq_zero_iff.1 hm0
        subst hy
        refine ⟨.slice none 0 0,w,c,?_,Ow.nil,St.refl.mono (by simp)⟩
        simp [Builtin.append_,run_underlying ht,run_underlying ht',hai0,hwr0,sizeOf,typeInfo,hi]
      · obtain ⟨g1,g2⟩:=grown 0 (by simp;omega)
        have hn : ¬ ys.length=0:=hm0
        have h63' : ¬ (9223372036854775807<(ys.length:Int)):=by simp at hmx;omega
        have h48' : ¬ (281474976710656<Builtin.nextslicecap ys.length 0*ti.bytes):=by
          have:=hb 0 (by simp;omega);simp only [List.length_nil,Nat.zero_add] at this;omega
        refine ⟨_,_,_,?_,g1,g2⟩
        have hne : ¬ (ys.length=0 ∨ E.sz=0):=by have:=E.pos;omega
        have hnm : ¬ (ys.length*E.sz=0):=fun h=>hne (Nat.mul_eq_zero.1 h)
        have hzy':Builtin.zeroCells zr.cells ys.length=(fl E ys).toArray:=by rw [hyl];exact hzy
        simp [Builtin.append_,run_underlying ht,run_underlying ht',hai,hwr,hng,hby,sizeOf,typeInfo,zeroValue,hi,hz,hsz,hn,h63',h48',hnm,hzy',Question.forced,run_firstCells_none,newRow,grownCap,fl]
    · subst hv'
      by_cases hroom:xs.length+ys.length≤cap
      · have hst:=run_storeCells_at P g (xs.length*E.sz) E.ty (fl E ys) 0 cur w hg (by
          rw [fl_length,hcs,Nat.add_zero,← Nat.add_mul];exact Nat.mul_le_mul_right _ hroom) (fl_one ys)
        simp only [Nat.add_zero] at hst
        refine ⟨.slice (some ⟨g,0,none⟩) (xs.length+ys.length) cap,w.setRow g (cur.toList.take (xs.length*E.sz)++fl E ys++cur.toList.drop (xs.length*E.sz+(fl E ys).length)).toArray,c,?_,⟨⟨fl_length _,.inr ⟨g,cap,(cur.toList.take (xs.length*E.sz)++fl E ys++cur.toList.drop (xs.length*E.sz+(fl E ys).length)).toArray,by rw [List.length_append],Nat.zero_le _,setRow_heap w g cur _ _ _ hg,by rw [List.length_append];exact hroom,hcm,?_,?_⟩⟩,h3⟩,?_⟩
        · have hzy':Builtin.zeroCells zr.cells ys.length=(fl E ys).toArray:=by rw [hyl];exact hzy
          by_cases hne:ys.length=0 ∨ E.sz=0
          · have hy0:ys=[]:=List.length_eq_zero_iff.1 (by have:=E.pos;omega)
            subst hy0
            simp only [List.length_nil] at hroom hst ⊢
            simp [fl] at hst
            simp [Builtin.append_,run_underlying ht,run_underlying ht',hai0,hwr0,sizeOf,typeInfo,hi,hsz,hnc,Addr.add_lit,hst,fl]
          · have hnm : ¬ (ys.length*E.sz=0):=fun h=>hne (Nat.mul_eq_zero.1 h)
            simp [Builtin.append_,run_underlying ht,run_underlying ht',hai,hwr,hng,hby,sizeOf,typeInfo,zeroValue,hz,hi,hsz,hroom,hnm,hzy',Addr.add_lit,hst]
        · have:xs.length*E.sz≤cur.size:=by rw [hcs];exact Nat.mul_le_mul_right _ hnc
          have:xs.length*E.sz+ys.length*E.sz≤cap*E.sz:=by rw [← Nat.add_mul];exact Nat.mul_le_mul_right _ hroom
          simp only [List.size_toArray,List.length_append,List.length_take,List.length_drop,Array.length_toList,fl_length,hcs];omega
        · simp only [List.length_append]
          rw [htake,← fl_append,List.take_append_of_le_length (by rw [fl_length,List.length_append];exact Nat.le_refl _)]
          rw [List.take_of_length_le (by rw [fl_length,List.length_append];exact Nat.le_refl _)]
        · exact ⟨rfl,rfl,rfl,by simp,fun _ _ _=>rfl,fun k _ hn=>setRow_other w g k _ (fun e=>hn (by subst e;simp [h3 k rfl]))⟩
      · obtain ⟨g1,g2⟩:=grown cap (by omega)
        have hold:∀ j u,(fl E xs)[j]?=some u→w.cell? ((⟨g,0,none⟩:Addr).add j)=some u:=fun j u hu=>by
          rw [Addr.add_lit,cell_of_row w g _ cur _ _ hg,Nat.zero_add]
          rw [← htake,List.getElem?_take] at hu
          split at hu
          · simpa using hu
          · cases hu
        have hfo:=run_firstCells_some (P:=P) w.drew E.sz xs.length ⟨g,0,none⟩ xs.length cap (fl E xs) (fl_length _) (by simpa using hold)
        have h63' : ¬ (9223372036854775807<((xs.length:Int)+(ys.length:Int))):=by omega
        have h48' : ¬ (281474976710656<Builtin.nextslicecap (xs.length+ys.length) cap*ti.bytes):=by
          have:=hb cap (by omega);omega
        refine ⟨_,_,_,?_,g1,g2⟩
        have hne : ¬ (ys.length=0 ∨ E.sz=0):=by have:=E.pos;omega
        have hnm : ¬ (ys.length*E.sz=0):=fun h=>hne (Nat.mul_eq_zero.1 h)
        have hzy':Builtin.zeroCells zr.cells ys.length=(fl E ys).toArray:=by rw [hyl];exact hzy
        simp [Builtin.append_,run_underlying ht,run_underlying ht',hai,hwr,hng,hby,sizeOf,typeInfo,zeroValue,hi,hz,hsz,hroom,h63',h48',hnm,hzy',Question.forced,hfo,newRow,grownCap]
        congr 2
        apply Array.ext'
        simp [List.append_assoc]

theorem OS.appendZ {α:Type} {E:Enc α} {i:Nat} {j:Int} {xs zs:List α} {z0:α} {t t':TypeId} {ti:TypeInfo} {zr:Value} {k k':IntKind} (ho:o.op = .call { callee := .builtin .append,args := #[x,y],argTypes := #[t,t'] })
    (ht:P.underlying t=some (.slice E.ty)) (ht':P.underlying t'=some (.int k')) (hi:P.info? E.ty=some ti) (hsz:ti.size=E.sz) (hz:ti.zero=some zr) (hzc:zr.cells.toList=E.e z0)
    (hx:ev f x=v) (hy:ev f y = .int k j) (hv:Ow E i w c v xs) (h0:0≤j) (hzs:zs=List.replicate j.toNat z0) (hb:Fits (xs.length+zs.length) ti.bytes) (h63:xs.length+zs.length≤maxLen)
    (h:∀ v' w' c',Ow E i w' c' v' (xs++zs)→St [i] w c w' c'→R v' w'):OS P o f w R:=by
  have hl:zs.length=j.toNat:=by rw [hzs];simp
  rw [hl] at hb h63
  obtain ⟨v',w',c',hr,h1,h2⟩:=run_appZ (ty:=o.type) (k:=k) (n:=j.toNat) ht ht' hi hsz hz hzc hv hb h63
  rw [← hzs] at h1
  refine OS.val (v:=v') (w':=w') ?_ (h _ _ _ h1 h2)
  unfold execOp;rw [ho]
  have hj:((j.toNat:Nat):Int)=j:=Int.toNat_of_nonneg h0
  rw [hj] at hr
  simp only [resolve,invoke,builtin,Sem.run_bind,Sem.run_pure,Result.andThen_ok,List.map_toArray,List.map_cons,List.map_nil,hx,hy]
  rw [hr];rfl
end
end Go.Proofs.YtjgbakieogadfabGreatDoor.L
