/-
  More lemmas of one operation each: local arrays,literals,copies. No program in sight.
-/
import Derived.Test.YtjgbakieogadfabGreatDoorLib6
namespace Go.Proofs.YtjgbakieogadfabGreatDoor.L
open Go

section
variable {P:Program} {f:Fr} {w:World} {o:Oper} {R:Value→World→Prop} {x y z:Operand} {a b v u p:Value} {c:Col} {α:Type} {E:Enc α} {i:Nat} {xs ys:List α}

theorem getD_some {k:Nat} {d:α} (h:k<xs.length):xs[k]?=some (xs.getD k d):=by
  rw [List.getD_eq_getElem?_getD,List.getElem?_eq_getElem h];rfl
theorem lim_max {n b:Nat} (_hb:0<b) (h:n≤140737488355328 / b):n≤maxLen:=by
  have:140737488355328 / b≤140737488355328:=Nat.div_le_self _ _
  simp only [maxLen];omega
theorem lim_bytes {n b:Nat} (hb:0<b) (h:n≤140737488355328 / b):Fits n b:=by
  rw [Nat.le_div_iff_mul_le hb] at h;exact fun _ ho=>growslice_fits ho h
theorem OS.boxArr {t:TypeId} (i:Nat) (ho:o.op = .box t x) (hx:ev f x = .agg (fl E xs).toArray) (h:∀ p w' c',Arr E i w' c' p xs→St [] w c w' c'→R p w'):OS P o f w R :=
  OS.box ho hx rfl (h _ _ _ (Arr.mk0 xs t) (St.alloc _ i))
theorem OS.boxBx {t:TypeId} {us:List Value} (i:Nat) (ho:o.op = .box t x) (hx:ev f x=v) (hc:v.cells=us.toArray) (h:∀ p w' c',Bx i w' c' p us→St [] w c w' c'→R p w'):OS P o f w R :=
  OS.box ho hx hc (h _ _ _ (Bx.mk0 us t) (St.alloc _ i))
theorem OS.allocArr {t:TypeId} {zr:Value} (i:Nat) (ho:o.op = .alloc t) (hz:∀ w,(zeroValue t).run P w = .ok zr w) (hc:zr.cells=(fl E xs).toArray)
    (h:∀ p w' c',Arr E i w' c' p xs→St [] w c w' c'→R p w'):OS P o f w R :=
  OS.alloc ho hz hc (h _ _ _ (Arr.mk0 xs t) (St.alloc _ i))
theorem OS.allocBx {t:TypeId} {zr:Value} {us:List Value} (i:Nat) (ho:o.op = .alloc t) (hz:∀ w,(zeroValue t).run P w = .ok zr w) (hc:zr.cells=us.toArray)
    (h:∀ p w' c',Bx i w' c' p us→St [] w c w' c'→R p w'):OS P o f w R :=
  OS.alloc ho hz hc (h _ _ _ (Bx.mk0 us t) (St.alloc _ i))
theorem OS.bslice {t:TypeId} {n:Nat} {ps:List (Nat×Operand)} (i:Nat) (xs:List α) (vs:List (Nat×Value)) (ho:o.op = .buildSlice t n ps.toArray) (hp:PV f ps vs)
    (hr:∀ w,(Instr.buildSlice t n vs.toArray).run P w = .ok (.slice (some ⟨w.heap.size,0,none⟩) n n) { w with heap:=w.heap.push (.cells (fl E xs).toArray E.ty) })
    (hn:xs.length=n) (hm:n≤maxLen) (h:∀ v w' c',Ow E i w' c' v xs→St [] w c w' c'→R v w'):OS P o f w R :=
  OS.buildSlice vs ho hp hr (by subst hn;exact h _ _ _ (Ow.mk0 xs hm) (St.alloc _ i))
theorem setCells_arr {T:TypeId} : ∀ (vs:List Value) (k:Nat) (cs:Array Value) (w:World) (g:Nat),w.heap[g]?=some (.cells cs T (0,0))→k+vs.length≤cs.size→(∀ v ∈ vs,v.oneCell'=true) →
    (storeCells ⟨g,0,none⟩ vs k).run P w = .ok () (w.setRow g (cs.toList.take k++vs++cs.toList.drop (k+vs.length)).toArray):=by
  intro vs k cs w g hg hl h1
  have:=run_storeCells_at P g 0 T vs k cs w hg (by omega) h1
  simpa using this
theorem St.setRow {g:Nat} {cs:Array Value} (hc:c g=i):St [i] w c (w.setRow g cs) c :=
  ⟨rfl,rfl,rfl,by simp,fun _ _ _=>rfl,fun k _ hn=>setRow_other w g k _ (fun e=>hn (by subst e;simp [hc]))⟩
theorem OS.stArrAll {t:TypeId} {n:Nat} (ho:o.op = .store t x y) (ht:∀ w,(sizeOf t).run P w = .ok n w) (hx:ev f x=p) (hy:ev f y = .agg (fl E ys).toArray)
    (hv:Arr E i w c p xs) (hn:(fl E ys).length=n) (hl:xs.length=ys.length) (h:∀ w',Arr E i w' c p ys→St [i] w c w' c→R undef w'):OS P o f w R:=by
  obtain ⟨b,T,h1,h2,h3⟩:=hv
  have hlen:(fl E xs).length=(fl E ys).length:=by rw [fl_length,fl_length,hl]
  have hs:=setCells_arr (P:=P) (T:=T) (fl E ys) 0 (fl E xs).toArray w b h3 (by simp [hlen]) (fl_one ys)
  have he:((fl E xs).toArray.toList.take 0++fl E ys++(fl E xs).toArray.toList.drop (0+(fl E ys).length)).toArray=(fl E ys).toArray:=by
    rw [Nat.zero_add,← hlen];simp
  rw [he] at hs
  refine OS.skip (w':=w.setRow b (fl E ys).toArray) ?_ (h _ ⟨b,T,h1,h2,setRow_heap w b _ _ T _ h3⟩ (St.setRow h2))
  unfold execOp;rw [ho]
  simp [hx,hy,h1,Instr.storeAt,Instr.sureAddr,storeVar,ht,Value.cells,hn,hs]
theorem OS.stBxAll {t:TypeId} {n:Nat} {us ws:List Value} (ho:o.op = .store t x y) (ht:∀ w,(sizeOf t).run P w = .ok n w) (hx:ev f x=p) (hy:ev f y=v) (hvc:v.cells=ws.toArray)
    (hv:Bx i w c p us) (hn:ws.length=n) (hl:us.length=ws.length) (ho1:∀ v ∈ ws,v.oneCell'=true) (h:∀ w',Bx i w' c p ws→St [i] w c w' c→R undef w'):OS P o f w R:=by
  obtain ⟨b,T,h1,h2,h3⟩:=hv
  have hs:=setCells_arr (P:=P) (T:=T) ws 0 us.toArray w b h3 (by simp [hl]) ho1
  have he:(us.toArray.toList.take 0++ws++us.toArray.toList.drop (0+ws.length)).toArray=ws.toArray:=by
    rw [Nat.zero_add,← hl];simp
  rw [he] at hs
  refine OS.skip (w':=w.setRow b ws.toArray) ?_ (h _ ⟨b,T,h1,h2,setRow_heap w b _ _ T _ h3⟩ (St.setRow h2))
  unfold execOp;rw [ho]
  simp [hx,hy,h1,Instr.storeAt,Instr.sureAddr,storeVar,ht,hvc,hn,hs]
def Full (v:Value):Prop:=∃ b o n,v = .slice (some ⟨b,o,none⟩) n n
def SlP (p:Value) (l n s:Nat) (v:Value):Prop:=∃ b cap,p = .pointer (some ⟨b,0,none⟩)∧v = .slice (some ⟨b,l*s,none⟩) n cap
theorem OS.sliceAF {t l h n:Nat} {lo hi:Option Operand} (ho:o.op = .slice t x lo hi none) (ht:P.underlying t=some (.array n E.ty)) (hs:∀ w,(sizeOf E.ty).run P w = .ok E.sz w)
    (hx:ev f x=p) (hv:Arr E i w c p xs) (hn:xs.length=n) (hl:Bd f lo 0 l) (hh:Bd f hi n h) (h1:l≤h) (h2:h≤n)
    (hk:∀ v',Vw E i w c v' ((xs.take h).drop l)→(l<n→SlP p l (h-l) E.sz v')→(h=n→Full v')→R v' w):OS P o f w R:=by
  subst hn
  obtain ⟨b,hp,hsub⟩:=Vw.arr_sub hv h1 h2
  have hval:(Value.slice (some (if xs.length=l then (⟨b,0,none⟩:Addr) else (⟨b,0,none⟩:Addr).add (l*E.sz))) (h-l) (xs.length-l)) =
      if xs.length=l then .slice (some ⟨b,0,none⟩) (h-l) (xs.length-l) else .slice (some ⟨b,l*E.sz,none⟩) (h-l) (xs.length-l):=by
    split <;> simp [Addr.add_lit]
  refine OS.val (w':=w) ?_ (hk _ (hsub xs.length h2 (Nat.le_refl _)) ?_ ?_)
  · unfold execOp;rw [ho]
    have hb:=run_bounds (P:=P) (w:=w) (isS:=false) (n:=xs.length) hl hh (Bd.none (d:=xs.length)) h1 h2 (Nat.le_refl _) (.inl rfl)
    simp only [Option.map_none] at hb
    simp only [hx,hp,Instr.sliceAt,Instr.sureAddr,Sem.run_bind,run_underlying ht,Result.andThen_ok,Option.map_none,hb,hs,Sem.run_pure]
  · intro hln
    rw [hval,if_neg (by omega)]
    exact ⟨b,_,hp,rfl⟩
  · intro hhn
    rw [hval]
    split
    · exact ⟨b,0,_,by rw [hhn]⟩
    · exact ⟨b,_,_,by rw [hhn]⟩
theorem OS.appendFull {t t':TypeId} {ti:TypeInfo} {zr:Value} {d':TypeDesc} (ho:o.op = .call { callee := .builtin .append,args := #[x,y],argTypes := #[t,t'] })
    (ht:P.underlying t=some (.slice E.ty)) (ht':P.underlying t'=some d')
    (hd':d' = .slice E.ty ∨ d' = .string) (hi:P.info? E.ty=some ti) (hsz:ti.size=E.sz) (hz:ti.zero=some zr) (_hzs:zr.cells.size=E.sz)
    (hx:ev f x=v) (hy:ev f y=u) (hv:Vw E i w c v xs) (hF:Full v) (hs:Src P E.sz w u ys.length (fl E ys)) (hb:Fits (xs.length+ys.length) ti.bytes) (h63:xs.length+ys.length≤maxLen)
    (h:∀ v' w' c',Vw E i w' c' v' (xs++ys)→St [] w c w' c'→R v' w'):OS P o f w R:=by
  obtain ⟨b,off,n,hFv⟩:=hF
  obtain ⟨s1,s2,s3⟩:=hs
  have hv0:=hv
  obtain ⟨h1,hcell⟩:v = .slice (some ⟨b,off,none⟩) xs.length xs.length∧∀ j u,(fl E xs)[j]?=some u→w.cell? ((⟨b,off,none⟩:Addr).add j)=some u:=by
    rcases hv with ⟨e,e'⟩ | ⟨b',off',cap,cs,T,fz,h1,h2,h3,h4,h5⟩
    · subst e'
      rcases e with e | ⟨a0,q0,e⟩
      · rw [e] at hFv;cases hFv
      · have hn0:n=0:=by rw [e] at hFv;cases hFv;rfl
        exact ⟨by rw [hFv,hn0];rfl,fun j u hu=>by simp [fl] at hu⟩
    · have hn0:n=xs.length:=by rw [h1] at hFv;cases hFv;rfl
      refine ⟨by rw [hFv,hn0],fun j u hu=>?_⟩
      rw [h1] at hFv;cases hFv
      rw [Addr.add_lit,cell_of_row w b _ cs T fz h4];exact h5 j u hu
  have hrun:∀ (v':Value) (w':World),(Builtin.append_ #[t,t'] o.type #[v,u]).run P w = .ok v' w'→(execOp (ev f) o).run P w = .ok (.value v') w':=by
    intro v' w' hr
    unfold execOp;rw [ho]
    simp only [resolve,invoke,builtin,Sem.run_bind,Sem.run_pure,Result.andThen_ok,List.map_toArray,List.map_cons,List.map_nil,hx,hy]
    rw [hr];rfl
  by_cases hm0:ys.length=0
  · have hy0:ys=[]:=List.length_eq_zero_iff.1 hm0
    subst hy0
    refine OS.val (v:=v) (w':=w) (hrun _ _ ?_) (h v w c (by simpa using hv0) St.refl)
    rw [h1]
    simp only [List.length_nil] at s1 s2
    rcases hd' with rfl | rfl
    all_goals simp [Builtin.append_,run_underlying ht,run_underlying ht',sizeOf,typeInfo,hi,hsz,s1,s2,storeCells,fl]
  · have hn : ¬ (xs.length+ys.length≤xs.length):=by omega
    have hmx:xs.length+ys.length≤9223372036854775807:=by simp only [maxLen] at h63;omega
    have h63' : ¬ (9223372036854775807<((xs.length:Int)+(ys.length:Int))):=by omega
    have h48' : ¬ (281474976710656<Builtin.nextslicecap (xs.length+ys.length) xs.length*ti.bytes):=by
      have:=hb xs.length (by omega);omega
    have hfo:=run_firstCells_some (P:=P) w.drew E.sz xs.length ⟨b,off,none⟩ xs.length xs.length (fl E xs) (fl_length _) (by simpa using hcell)
    refine OS.val (v := .slice (some ⟨w.heap.size,0,none⟩) (xs.length+ys.length) (grownCap w (xs.length+ys.length) xs.length E.ty))
      (w':=w.drew.alloc (.cells ((fl E xs).toArray++(fl E ys).toArray++Builtin.zeroCells zr.cells (grownCap w (xs.length+ys.length) xs.length E.ty-(xs.length+ys.length))) E.ty)) (hrun _ _ ?_)
      (h _ _ (pc c w.heap.size i) (.inr ⟨w.heap.size,0,_,_,E.ty,(0,0),by rw [List.length_append],?_,pc_same,heap_alloc_new w.drew _,fun j u hu=>?_⟩) ((St.drew (w:=w) (c:=c)).t (St.alloc _ i)))
    · rw [h1]
      rcases hd' with rfl | rfl
      all_goals
        simp [Builtin.append_,run_underlying ht,run_underlying ht',sizeOf,typeInfo,zeroValue,hi,hz,hsz,s1,hn,h63',h48',Question.forced,hfo,s3,newRow,grownCap]
        congr 2
        apply Array.ext'
        simp [List.append_assoc]
    · rw [List.length_append];exact grownCap_ge _ _ _ _
    · rw [Nat.zero_add]
      rw [fl_append] at hu
      have hj:j<((fl E xs)++(fl E ys)).length:=(List.getElem?_eq_some_iff.1 hu).1
      have:((fl E xs).toArray++(fl E ys).toArray++Builtin.zeroCells zr.cells (grownCap w (xs.length+ys.length) xs.length E.ty-(xs.length+ys.length)))[j]?=((fl E xs)++(fl E ys))[j]?:=by
        rw [Array.getElem?_append_left (by simpa using hj)];simp
      rw [this];exact hu
theorem OS.copyArr {t t':TypeId} {p0:Value} {j l n:Nat} (ho:o.op = .call { callee := .builtin .copy,args := #[x,y],argTypes := #[t,t'] })
    (ht:P.underlying t=some (.slice E.ty)) (hs:∀ w,(sizeOf E.ty).run P w = .ok E.sz w) (h1:E.sz=1)
    (hx:ev f x=v) (hy:ev f y=u) (hv:Arr E i w c p0 xs) (hsl:SlP p0 l n E.sz v) (hu:Vw E j w c u ys) (hln:l+n≤xs.length)
    (h:∀ w',Arr E i w' c p0 (xs.take l++ys.take n++xs.drop (l+min ys.length n))→St [i] w c w' c→R (vI (min ys.length n:Nat)) w'):OS P o f w R:=by
  obtain ⟨b,T,e1,e2,e3⟩:=hv
  obtain ⟨b',cap,e4,e5⟩:=hsl
  rw [e1] at e4;cases e4
  have hfl:∀ zs:List α,(fl E zs).length=zs.length:=fun zs=>by rw [fl_length,h1,Nat.mul_one]
  -- what is read
  have hu':Vw E j w c u ys:=hu
  have hlen:(Builtin.lenOf u).run P w = .ok ys.length w:=(hu'.src (P:=P)).1 w
  have hsrc:(Builtin.firstCells 1 (min ys.length n) u).run P w = .ok (fl E (ys.take n)).toArray w:=by
    have hmin:(ys.take n).length=min ys.length n:=by rw [List.length_take,Nat.min_comm]
    rcases hu with ⟨q1,q2⟩ | ⟨bb,off,cp,cs,T',fz,q1,q2,q3,q4,q5⟩
    · subst q2
      rcases q1 with q1 | ⟨a0,q0,q1⟩
      · subst q1;simp [Builtin.firstCells,fl]
      · subst q1
        have:=run_firstCells_some (P:=P) w 1 0 a0 0 q0 (fl E (([]:List α).take n)) (by simp [fl]) (fun k uu hk=>by simp [fl] at hk)
        simpa using this
    · rw [q1]
      have:=run_firstCells_some (P:=P) w 1 (min ys.length n) ⟨bb,off,none⟩ ys.length cp (fl E (ys.take n)) (by rw [hfl,hmin,Nat.mul_one]) (fun k uu hk=>by
        rw [Addr.add_lit,cell_of_row w bb _ cs T' fz q4]
        refine q5 k uu ?_
        have h6:fl E (ys.take n)=(fl E ys).take n:=by have:=fl_take (E:=E) ys n;rw [h1,Nat.mul_one] at this;exact this.symm
        rw [h6,List.getElem?_take] at hk
        split at hk
        · exact hk
        · cases hk)
      exact this
  have hst:=run_storeCells_at P b l T (fl E (ys.take n)) 0 (fl E xs).toArray w e3 (by
    rw [hfl,List.size_toArray,hfl,List.length_take];omega) (fl_one _)
  have hrow:((fl E xs).toArray.toList.take (l+0)++fl E (ys.take n)++(fl E xs).toArray.toList.drop (l+0+(fl E (ys.take n)).length))=fl E (xs.take l++ys.take n++xs.drop (l+min ys.length n)):=by
    have h7:=fl_take (E:=E) xs l
    have h8:=fl_drop (E:=E) xs (l+min ys.length n)
    rw [h1,Nat.mul_one] at h7 h8
    rw [fl_append,fl_append,← h7,← h8,hfl,List.length_take,Nat.min_comm n];simp
  rw [hrow] at hst
  refine OS.val (v:=vI (min ys.length n:Nat)) (w':=w.setRow b (fl E (xs.take l++ys.take n++xs.drop (l+min ys.length n))).toArray) ?_ (h _ ⟨b,T,e1,e2,setRow_heap w b _ _ T _ e3⟩ (St.setRow e2))
  unfold execOp;rw [ho]
  simp only [resolve,invoke,builtin,Sem.run_bind,Sem.run_pure,Result.andThen_ok,List.map_toArray,List.map_cons,List.map_nil,hx,hy]
  rw [h1] at hs
  rw [h1,Nat.mul_one] at e5
  subst e5
  have hmin':Nat.min ys.length n=min ys.length n:=rfl
  simp [Builtin.copy_,run_underlying ht,hlen,hs,hmin',hsrc,hst,goInt]
def eqArr (d:Nat) (e:TypeId) (n:Nat) (us vs:Array Value):List Nat→Sem Bool
  | []=>pure true
  | k :: ks=>do
    let a ← part e us (k*n)
    let b ← part e vs (k*n)
    let r ← Op.equalIn d e a b
    if (!r)=true then pure false else eqArr d e n us vs ks
theorem run_equalIn_arr (w:World) (d:Nat) (t e:TypeId) (len n:Nat) (us vs:Array Value) (ht:P.underlying t=some (.array len e)) (hs:∀ w,(sizeOf e).run P w = .ok n w) :
    (Op.equalIn (d+1) t (.agg us) (.agg vs)).run P w=(eqArr d e n us vs (List.range' 0 len)).run P w:=by
  simp only [Op.equalIn,Sem.run_bind,run_underlying ht,Result.andThen_ok,hs,Std.Legacy.Range.forIn_eq_forIn_range',Std.Legacy.Range.size,Nat.sub_zero,Nat.add_sub_cancel,Nat.div_one]
  generalize List.range' 0 len=ks
  clear ht
  induction ks generalizing w with
  | nil=>simp [eqArr]
  | cons k ks ih =>
    simp only [List.forIn_cons,eqArr,Sem.run_bind,Sem.run_ite]
    generalize (part e us (k*n)).run P w=r1
    cases r1 with
    | ok a w1 =>
      simp only [Result.andThen_ok]
      generalize (part e vs (k*n)).run P w1=r2
      cases r2 with
      | ok b w2 =>
        simp only [Result.andThen_ok]
        generalize (Op.equalIn d e a b).run P w2=r3
        cases r3 with
        | ok r w3 =>
          cases r
          · simp only [Result.andThen_ok,Bool.not_false,if_true,Sem.run_pure]
          · simp only [Result.andThen_ok,Bool.not_true,Bool.false_eq_true,if_false,Sem.run_pure]
            exact ih w3
        | halt x w3=>simp [Result.andThen]
      | halt x w2=>simp [Result.andThen]
    | halt x w1=>simp [Result.andThen]
theorem run_eqArr (w:World) (d:Nat) (e:TypeId) (us vs:List Value) (h1:∀ w,(isAgg e).run P w = .ok false w) (g:Nat→Bool)
    (hg:∀ k,k<us.length→∀ a b,us[k]?=some a→vs[k]?=some b→∀ w,(Op.equalIn d e a b).run P w = .ok (g k) w) (hl:vs.length=us.length) :
    ∀ (m k:Nat),k+m=us.length→(eqArr d e 1 us.toArray vs.toArray (List.range' k m)).run P w = .ok ((List.range' k m).all g) w
  | 0,_,_=>by simp [eqArr]
  | m+1,k,h=>by
    have ih:=run_eqArr w d e us vs h1 g hg hl m (k+1) (by omega)
    have hk:k<us.length:=by omega
    have pa:(part e us.toArray (k*1)).run P w = .ok us[k] w:=by simp [part,h1,hk]
    have pb:(part e vs.toArray (k*1)).run P w = .ok (vs[k]'(by omega)) w:=by
      have:k<vs.length:=by omega
      simp [part,h1,this]
    have pe:=hg k hk us[k] (vs[k]'(by omega)) (by simp [hk]) (List.getElem?_eq_getElem _) w
    simp only [List.range'_succ,eqArr,Sem.run_bind,pa,pb,pe,Result.andThen_ok,Sem.run_ite,ih,List.all_cons]
    cases g k <;> simp
theorem all_range_eq {β:Type} [DecidableEq β] (a b:List β) (h:b.length=a.length):((List.range' 0 a.length).all fun k=>decide (a[k]?=b[k]?))=decide (a=b):=by
  rw [Bool.eq_iff_iff]
  simp only [List.all_eq_true,decide_eq_true_eq]
  constructor
  · intro hh
    apply List.ext_getElem?
    intro k
    by_cases hk:k<a.length
    · exact hh k (by rw [List.mem_range'_1];omega)
    · rw [List.getElem?_eq_none (by omega),List.getElem?_eq_none (by omega)]
  · intro e k _;rw [e]
theorem run_eq8 (w:World) (d:Nat) (t e:TypeId) (len:Nat) (a b:List UInt8) (ht:P.underlying t=some (.array len e)) (he:P.underlying e=some (.int .u8)) (hs:∀ w,(sizeOf e).run P w = .ok 1 w)
    (h1:∀ w,(isAgg e).run P w = .ok false w) (ha:a.length=len) (hb:b.length=len) :
    (Op.equalIn (d+2) t (.agg (fl (eU8 e) a).toArray) (.agg (fl (eU8 e) b).toArray)).run P w = .ok (decide (a=b)) w:=by
  subst ha
  rw [run_equalIn_arr w (d+1) t e a.length 1 _ _ ht hs]
  have hla:(fl (eU8 e) a).length=a.length:=by rw [fl_length];exact Nat.mul_one _
  have hlb:(fl (eU8 e) b).length=b.length:=by rw [fl_length];exact Nat.mul_one _
  have hget:∀ (l:List UInt8) (k:Nat) (u:Value),(fl (eU8 e) l)[k]?=some u→∃ q,l[k]?=some q∧u=vU8 q:=by
    intro l k u hu
    have:fl (eU8 e) l=l.map fun q=>vU8 q:=fl_u8 l
    rw [this,List.getElem?_map] at hu
    cases hq:l[k]? with
    | none=>rw [hq] at hu;cases hu
    | some q=>rw [hq] at hu;cases hu;exact ⟨q,rfl,rfl⟩
  rw [← hla,run_eqArr w (d+1) e _ _ h1 (fun k=>decide (a[k]?=b[k]?)) (fun k hk u v hu hv w=>?_) (by rw [hla,hlb,hb]) _ 0 (by omega),hla,all_range_eq a b hb]
  obtain ⟨q,e1,rfl⟩:=hget a k u hu
  obtain ⟨q',e2,rfl⟩:=hget b k v hv
  rw [run_equalIn_int w d e .u8 .u8 _ _ he,e1,e2]
  simp only [beq_dec,Option.some.injEq,Int.natCast_inj,UInt8.toNat_inj]
theorem OS.eqArr8 {op:BinOp} {t t' e:TypeId} {len:Nat} {a8 b8:List UInt8} {q:Bool} (ho:o.op = .binOp op t x y t') (hop:op = .eql∧q=decide (a8=b8) ∨ op = .neq∧q=!decide (a8=b8))
    (ht:P.underlying t=some (.array len e)) (he:P.underlying e=some (.int .u8)) (hs:∀ w,(sizeOf e).run P w = .ok 1 w) (h1:∀ w,(isAgg e).run P w = .ok false w)
    (hgd:P.eqGuardType P.depth t=false) (hx:ev f x = .agg (fl (eU8 e) a8).toArray) (hy:ev f y = .agg (fl (eU8 e) b8).toArray) (ha:a8.length=len) (hb:b8.length=len) (h:R (.bool q) w):OS P o f w R:=by
  refine OS.val (v := .bool q) (w':=w) ?_ h
  have he8:=run_eq8 (P:=P) w 9998 t e len a8 b8 ht he hs h1 ha hb
  unfold execOp;rw [ho]
  have hg:∀ w,(eqGuard op t x y (.agg (fl (eU8 e) a8).toArray) (.agg (fl (eU8 e) b8).toArray)).run P w = .ok () w:=by
    intro w
    unfold eqGuard
    rcases hop with ⟨rfl,_⟩ | ⟨rfl,_⟩ <;> simp [hgd]
  rcases hop with ⟨rfl,rfl⟩ | ⟨rfl,rfl⟩
  · simp [hx,hy,hg,binOp,Op.equal,Op.maxDepth,he8]
  · simp [hx,hy,hg,binOp,Op.equal,Op.maxDepth,he8]
def RV (P:Program) (f:Fr) (w:World):List ResultVar→List Value→Prop
  | [],[]=>True
  | r :: rs,v :: vs=>((∃ t,r = .tmp t∧f t=v) ∨ (∃ a t n us,r = .cell a t∧(∃ p,f a=p∧(∀ w,(isAgg t).run P w = .ok true w)∧(∀ w,(sizeOf t).run P w = .ok n w)∧Ld w p us∧us.length=n)∧v = .agg us.toArray))∧RV P f w rs vs
  | _,_=>False
def R1 (P:Program) (f:Fr) (w:World) (r:ResultVar) (v:Value):Prop :=
  (∃ t,r = .tmp t∧f t=v) ∨ (∃ a t n us,r = .cell a t∧(∃ p,f a=p∧(∀ w,(isAgg t).run P w = .ok true w)∧(∀ w,(sizeOf t).run P w = .ok n w)∧Ld w p us∧us.length=n)∧v = .agg us.toArray)
def resVal (tmps:Array Value):ResultVar→Sem Value
  | .tmp t=>pure (tmps.getD t undef)
  | .cell a t=>do loadVar t (← asAddr (tmps.getD a undef))
theorem R1.run {r:ResultVar} (h:R1 P f w r v) (tmps:Array Value) (ht:∀ t,tmps.getD t undef=f t):(resVal tmps r).run P w = .ok v w:=by
  rcases h with ⟨t,rfl,h⟩ | ⟨a,t,n,us,rfl,⟨p,h1,h2,h3,⟨b,off,h4,h5⟩,h6⟩,rfl⟩
  · show (pure _:Sem Value).run P w=_
    rw [ht,h];rfl
  · subst h4
    have:=run_loadCells_list (P:=P) w ⟨b,off,none⟩ us (fun j v hv=>by rw [Addr.add_lit];exact h5 j v hv)
    rw [h6] at this
    simp [resVal,ht,h1,asAddr,loadVar,h2,h3,this]
theorem results_eq (fn:Func) (tmps:Array Value):results fn tmps=(do let vs ← fn.results.mapM (resVal tmps); pure (if h:vs.size=1 then vs[0] else .tuple vs)):=by
  unfold results;congr 1
theorem fnQ.l1 {fn:Func} {Rr:Ending→World→Prop} {r:ResultVar} (hr:fn.results = #[r]) (h1:R1 P f w r v) (h:Rr (.returned v) w):fnQ P fn Rr .ret f w :=
  ⟨v,fun tmps ht=>by rw [results_eq,hr];simp [h1.run tmps ht],h⟩
def R1s (P:Program) (f:Fr) (w:World):List ResultVar→List Value→Prop
  | [],[]=>True
  | r :: rs,v :: vs=>R1 P f w r v∧R1s P f w rs vs
  | _,_=>False
theorem R1s.run (tmps:Array Value) (ht:∀ t,tmps.getD t undef=f t):∀ {rs:List ResultVar} {vs:List Value},R1s P f w rs vs→(rs.mapM (resVal tmps)).run P w = .ok vs w
  | [],[],_=>by simp
  | r :: rs,v :: vs,⟨h1,h2⟩=>by simp [List.mapM_cons,h1.run tmps ht,R1s.run tmps ht h2]
  | [],_ :: _,h=>h.elim
  | _ :: _,[],h=>h.elim
theorem fnQ.ls {fn:Func} {Rr:Ending→World→Prop} {rs:List ResultVar} {vs:List Value} (hr:fn.results=rs.toArray) (h1:R1s P f w rs vs) (h:Rr (.returned (.tuple vs.toArray)) w) (hn:vs.length ≠ 1:=by decide):fnQ P fn Rr .ret f w :=
  ⟨.tuple vs.toArray,fun tmps ht=>by
    rw [results_eq,hr]
    have hm:=h1.run tmps ht
    simp [hm,hn],h⟩
theorem Arr.recol (h:Arr E i w c p xs) (j:Nat):∃ c',St [i] w c w c'∧Arr E j w c' p xs:=by
  obtain ⟨b,T,h1,h2,h3⟩:=h
  have hs:=St.recol (w:=w) (c:=c) b j
  rw [h2] at hs
  exact ⟨_,hs,b,T,h1,pc_same,h3⟩
theorem OS.nilCheckArr (ho:o.op = .nilCheck x) (hx:ev f x=p) (hp:Arr E i w c p xs) (h:R p w):OS P o f w R:=by
  obtain ⟨b,rfl⟩:=hp.ptr
  exact OS.nilCheck ho hx h
theorem OS.eqB {op:BinOp} {t t':TypeId} {a1 b1 q:Bool} (ho:o.op = .binOp op t x y t') (hop:op = .eql∧q=decide (a1=b1) ∨ op = .neq∧q=!decide (a1=b1)) (ht:P.underlying t=some .bool)
    (hx:ev f x = .bool a1) (hy:ev f y = .bool b1) (h:R (.bool q) w):OS P o f w R:=by
  refine OS.val (v := .bool q) (w':=w) ?_ h
  unfold execOp;rw [ho]
  have hg:∀ w,(eqGuard op t x y (.bool a1) (.bool b1)).run P w = .ok () w:=by
    intro w;unfold eqGuard;rcases hop with ⟨rfl,_⟩ | ⟨rfl,_⟩ <;> simp
  have he:=run_equal_bool (P:=P) w t a1 b1 ht
  rcases hop with ⟨rfl,rfl⟩ | ⟨rfl,rfl⟩
  · simp [hx,hy,hg,binOp,he,beq_dec]
  · simp [hx,hy,hg,binOp,he,beq_dec]
end
end Go.Proofs.YtjgbakieogadfabGreatDoor.L
