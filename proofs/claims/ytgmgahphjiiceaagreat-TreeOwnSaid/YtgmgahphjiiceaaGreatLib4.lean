/-
  One lemma an operation. No program in sight.
-/
import Derived.Test.YtgmgahphjiiceaaGreatLib3
import Derived.Deep.DeepAppendWide
namespace Go.Proofs.YtgmgahphjiiceaaGreat.L
open Go

section
variable {P : Program} {f : Fr} {w : World} {o : Oper} {R : Value → World → Prop} {x y z : Operand} {a b v u p : Value} {c : Col}

theorem OS.move (ho : o.op = .move x) (hx : ev f x = v) (h : R v w) : OS P o f w R :=
  OS.val (v:=v) (w':=w) (by unfold execOp;rw [ho];simp only [hx];rfl) h
theorem OS.assign (ho : o.op = .assign x) (hx : ev f x = v) (h : R v w) : OS P o f w R :=
  OS.val (v:=v) (w':=w) (by unfold execOp;rw [ho];simp only [hx];rfl) h
theorem OS.bin {op : BinOp} {t t' : TypeId} (ho : o.op = .binOp op t x y t') (hx : ev f x = a) (hy : ev f y = b) (hb : Bin op a b v) (h : R v w) : OS P o f w R :=
  OS.val (v:=v) (w':=w) (by
    have:=hb P w t x y
    unfold execOp;rw [ho];simp only [hx,hy]
    simp only [Sem.run_bind,Sem.run_pure] at this ⊢
    rw [this];rfl) h
theorem OS.not {t : TypeId} {q : Bool} (ho : o.op = .unOp .not t x) (hx : ev f x = .bool q) (h : R (.bool !q) w) : OS P o f w R :=
  OS.val (v := .bool !q) (w':=w) (by unfold execOp;rw [ho];simp only [hx];rfl) h
theorem OS.pickT (ho : o.op = .pick x y z) (hx : ev f x = .bool true) (hy : ev f y = a) (h : R a w) : OS P o f w R :=
  OS.val (v:=a) (w':=w) (by unfold execOp;rw [ho];simp only [hx,hy];rfl) h
theorem OS.pickF (ho : o.op = .pick x y z) (hx : ev f x = .bool false) (hz : ev f z = b) (h : R b w) : OS P o f w R :=
  OS.val (v:=b) (w':=w) (by unfold execOp;rw [ho];simp only [hx,hz];rfl) h
theorem OS.conv {s t : TypeId} {ds : TypeDesc} {k k' : IntKind} {n : Int} (ho : o.op = .convert s t x) (hs : ∀ w, (underlying s).run P w = .ok ds w)
    (ht:∀ w,(underlying t).run P w = .ok (.int k') w) (hx:ev f x = .int k n) (hv:Value.int k' (k'.wrap n)=v) (h:R v w):OS P o f w R :=
  OS.val (v:=v) (w':=w) (by
    unfold execOp;rw [ho];simp only [hx,convert,Sem.run_bind,hs,ht,Result.andThen_ok,Conv.intToInt,Sem.run_pure,hv]) h
theorem OS.extract {i : Nat} {vs : Array Value} (ho : o.op = .extract x i) (hx : ev f x = .tuple vs) (hi : vs[i]? = some v) (h : R v w) : OS P o f w R :=
  OS.val (v:=v) (w':=w) (by unfold execOp;rw [ho];simp only [hx,Instr.extract,hi];rfl) h
theorem OS.nilCheck {ad : Addr} (ho : o.op = .nilCheck x) (hx : ev f x = .pointer (some ad)) (h : R (.pointer (some ad)) w) : OS P o f w R :=
  OS.val (v := .pointer (some ad)) (w':=w) (by unfold execOp;rw [ho];simp only [hx];rfl) h

def iU8 (n : Int) : UInt8 := UInt8.ofNat (n % 256).toNat
def iU64 (n : Int) : UInt64 := UInt64.ofNat (n % 18446744073709551616).toNat
theorem cv_i8 (n : Int) : Value.int .u8 (IntKind.u8.wrap n) = vU8 (iU8 n) := by
  apply u8_of;have:(iU8 n).toNat=(n % 256).toNat % 256:=by simp [iU8]
  rw [this];omega
theorem cv_i64 (n : Int) : Value.int .u64 (IntKind.u64.wrap n) = vU64 (iU64 n) := by
  apply u64_of;have:(iU64 n).toNat=(n % 18446744073709551616).toNat % 18446744073709551616:=by simp [iU64]
  rw [this];omega
theorem cv_8i (x : UInt8) : Value.int .i64 (IntKind.i64.wrap (x.toNat : Int)) = vI (x.toNat : Int) := by
  have:=x.toNat_lt;show vI (W _)=_;rw [W_id (by omega) (by omega)]
theorem cv_64_8 (x : UInt64) : Value.int .u8 (IntKind.u8.wrap (x.toNat : Int)) = vU8 x.toUInt8 := by
  apply u8_of;rw [UInt64.toNat_toUInt8];omega
theorem cv_64i (x : UInt64) : Value.int .i64 (IntKind.i64.wrap (x.toNat : Int)) = vI (W (x.toNat : Int)) := rfl

theorem OS.lenSl {t e : TypeId} {n : Nat} (ho : o.op = .call { callee := .builtin .len, args := #[x], argTypes := #[t] }) (ht : ∀ w, (underlying t).run P w = .ok (.slice e) w)
    (hx:ev f x=v) (hv:IsSl v n) (h:R (vI n) w):OS P o f w R :=
  OS.val (v:=vI n) (w':=w) (by
    unfold execOp;rw [ho]
    rcases hv with ⟨h1,h2⟩ | ⟨b,off,cap,h1⟩
    · subst h2
      rcases h1 with h1 | ⟨a,cap,h1⟩ <;> simp [resolve,invoke,builtin,hx,h1,Builtin.len_,ht,goInt]
    · simp [resolve,invoke,builtin,hx,h1,Builtin.len_,ht,goInt]) h
theorem OS.idx {t e : TypeId} {s n : Nat} {j : Int} {k : IntKind} (ho : o.op = .indexAddr t x y) (ht : ∀ w, (underlying t).run P w = .ok (.slice e) w) (hs : ∀ w, (sizeOf e).run P w = .ok s w)
    (hx:ev f x=v) (hv:IsSl v n) (hy:ev f y = .int k j) (h0:0≤j) (h1:j < n) (h:∀ p,Adr v j.toNat s p→R p w):OS P o f w R:=by
  rcases hv with ⟨_,h2⟩ | ⟨b,off,cap,h2⟩
  · omega
  · refine OS.val (v := .pointer (some ⟨b,off + j.toNat * s,none⟩)) (w':=w) ?_ (h _ ⟨b,off,n,cap,h2,rfl⟩)
    unfold execOp;rw [ho]
    simp only [hx,hy,h2,Instr.indexAt,asIntOf,Sem.run_bind,Sem.run_pure,Result.andThen_ok,ht]
    simp [h0,h1,hs,Addr.add_lit]
theorem OS.ld1 {t : TypeId} (ho : o.op = .load t x) (ht : ∀ w, (isAgg t).run P w = .ok false w) (hx : ev f x = p) (hl : Ld w p [u]) (h : R u w) : OS P o f w R := by
  obtain ⟨a,hp,hc⟩:=hl.one
  refine OS.val (v:=u) (w':=w) ?_ h
  unfold execOp;rw [ho]
  simp [hx,hp,Instr.loadAt,Instr.sureAddr,loadVar,ht,run_load,hc]
theorem OS.ldN {t : TypeId} {us : List Value} {n : Nat} (ho : o.op = .load t x) (ht : ∀ w, (isAgg t).run P w = .ok true w) (hn : ∀ w, (sizeOf t).run P w = .ok n w) (hx : ev f x = p)
    (hl:Ld w p us) (hlen:us.length=n) (h:R (.agg us.toArray) w):OS P o f w R:=by
  obtain ⟨b,off,hp,hc⟩:=hl
  refine OS.val (v := .agg us.toArray) (w':=w) ?_ h
  unfold execOp;rw [ho]
  have:=run_loadCells_list (P:=P) w ⟨b,off,none⟩ us (fun j v hv=>by rw [Addr.add_lit];exact hc j v hv)
  rw [hlen] at this
  simp [hx,hp,Instr.loadAt,Instr.sureAddr,loadVar,ht,hn,this]
theorem Bx.ldAll {i : Nat} {us : List Value} (h : Bx i w c p us) : Ld w p us := by
  obtain ⟨b,T,h1,h2,h3⟩:=h
  exact ⟨b,0,h1,fun j u hu=>by rw [cell_of_row w b _ _ T _ h3,Nat.zero_add];simpa using hu⟩
theorem OS.st1 {t : TypeId} {b off : Nat} {old : Value} (ho : o.op = .store t x y) (ht : ∀ w, (sizeOf t).run P w = .ok 1 w) (hx : ev f x = .pointer (some ⟨b, off, none⟩)) (hy : ev f y = u)
    (h1:u.oneCell'=true) (hc:w.cell? ⟨b,off,none⟩=some old) (hf:w.frozen? ⟨b,off,none⟩=false) (h:R undef (w.setCell ⟨b,off,none⟩ u)):OS P o f w R:=by
  refine OS.skip (w':=w.setCell ⟨b,off,none⟩ u) ?_ h
  unfold execOp;rw [ho]
  have hu:u.cells = #[u]:=by cases u <;> first | rfl | simp [Value.oneCell'] at h1
  simp [hx,hy,Instr.storeAt,Instr.sureAddr,storeVar,ht,hu,storeCells,Addr.add_lit,run_store P w _ u _ h1,hc,hf]
theorem OS.stOwn {α : Type} {E : Enc α} {i k : Nat} {xs : List α} {q : α} {t : TypeId} (ho : o.op = .store t x y) (ht : ∀ w, (sizeOf t).run P w = .ok 1 w) (hx : ev f x = p) (hy : ev f y = u)
    (hv:Ow E i w c v xs) (h1:E.sz=1) (ha:Adr v k E.sz p) (hk:k < xs.length) (hq:E.e q=[u])
    (h:∀ w',Ow E i w' c v (xs.set k q)→St [i] w c w' c→R undef w'):OS P o f w R:=by
  obtain ⟨b,off,old,hp,h2,h3,h4,h5⟩:=hv.set h1 ha hk hq
  exact OS.st1 ho ht (hx.trans hp) hy (E.one q u (by simp [hq])) h2 h3 (h _ h4 h5)
theorem OS.indexS {t : TypeId} {l : List UInt8} {j : Int} {k : IntKind} {q : UInt8} (ho : o.op = .index t x y) (ht : ∀ w, (underlying t).run P w = .ok .string w) (hx : ev f x = vS l) (hy : ev f y = .int k j)
    (h0:0≤j) (hq:l[j.toNat]?=some q) (h:R (vU8 q) w):OS P o f w R :=
  OS.val (v:=vU8 q) (w':=w) (by
    unfold execOp;rw [ho]
    have h1:(ByteArray.mk l.toArray)[j.toNat]?=some q:=by
      have:(ByteArray.mk l.toArray)[j.toNat]?=l.toArray[j.toNat]?:=by
        by_cases hj:j.toNat < l.length
        · rw [getElem?_pos _ _ (by simpa [ByteArray.size] using hj),getElem?_pos _ _ (by simpa using hj)];rfl
        · rw [getElem?_neg _ _ (by simpa [ByteArray.size] using hj),getElem?_neg _ _ (by simpa using hj)]
      rw [this];simpa using hq
    simp [hx,hy,Instr.index,asIntOf,ht,h0,h1]) h

theorem OS.box {t : TypeId} {cs : Array Value} (ho : o.op = .box t x) (hx : ev f x = v) (hc : v.cells = cs) (h : R (.pointer (some ⟨w.heap.size, 0, none⟩)) (w.alloc (.cells cs t))) : OS P o f w R :=
  OS.val (v := .pointer (some ⟨w.heap.size,0,none⟩)) (w':=w.alloc (.cells cs t)) (by
    unfold execOp;rw [ho]
    simp [hx,Instr.box,newVar,newRow,hc]) h
theorem OS.alloc {t : TypeId} {zr : Value} {cs : Array Value} (ho : o.op = .alloc t) (hz : ∀ w, (zeroValue t).run P w = .ok zr w) (hc : zr.cells = cs)
    (h:R (.pointer (some ⟨w.heap.size,0,none⟩)) (w.alloc (.cells cs t))):OS P o f w R :=
  OS.val (v := .pointer (some ⟨w.heap.size,0,none⟩)) (w':=w.alloc (.cells cs t)) (by
    unfold execOp;rw [ho]
    simp [Instr.alloc,hz,newVar,newRow,hc]) h
def PA (f : Fr) : List Operand → List Value → Prop
  | [],[]=>True
  | x :: xs,v :: vs=>ev f x=v∧PA f xs vs
  | _,_=>False
theorem PA.map : ∀ {xs : List Operand} {vs : List Value}, PA f xs vs → xs.map (ev f) = vs
  | [],[],_=>rfl
  | x :: xs,v :: vs,⟨h,h'⟩=>by simp [h,h'.map]
  | [],_ :: _,h=>h.elim
  | _ :: _,[],h=>h.elim
def PV (f : Fr) : List (Nat × Operand) → List (Nat × Value) → Prop
  | [],[]=>True
  | x :: xs,v :: vs=>x.1=v.1∧ev f x.2=v.2∧PV f xs vs
  | _,_=>False
theorem PV.map : ∀ {xs : List (Nat × Operand)} {vs : List (Nat × Value)}, PV f xs vs → xs.map (fun (i, x) => (i, ev f x)) = vs
  | [],[],_=>rfl
  | x :: xs,v :: vs,⟨h,h',h''⟩=>by
    have:=h''.map
    simp only [List.map_cons,this];congr 1;exact Prod.ext h h'
  | [],_ :: _,h=>h.elim
  | _ :: _,[],h=>h.elim
theorem OS.build {t : TypeId} {ps : List (Nat × Operand)} (vs : List (Nat × Value)) (ho : o.op = .build t ps.toArray) (hp : PV f ps vs) (hr : ∀ w, (Instr.build t vs.toArray).run P w = .ok v w) (h : R v w) : OS P o f w R :=
  OS.val (v:=v) (w':=w) (by
    unfold execOp;rw [ho]
    have:(ps.toArray.map fun (i,x)=>(i,ev f x))=vs.toArray:=by rw [List.map_toArray,hp.map]
    simp only [this,Sem.run_bind,hr];rfl) h
theorem OS.buildSlice {t e : TypeId} {n : Nat} {ps : List (Nat × Operand)} {cs : List Value} (vs : List (Nat × Value)) (ho : o.op = .buildSlice t n ps.toArray) (hp : PV f ps vs)
    (hr:∀ w,(Instr.buildSlice t n vs.toArray).run P w = .ok (.slice (some ⟨w.heap.size,0,none⟩) n n) { w with heap:=w.heap.push (.cells cs.toArray e) })
    (h:R (.slice (some ⟨w.heap.size,0,none⟩) n n) (w.alloc (.cells cs.toArray e))):OS P o f w R :=
  OS.val (v := .slice (some ⟨w.heap.size,0,none⟩) n n) (w':=w.alloc (.cells cs.toArray e)) (by
    unfold execOp;rw [ho]
    have:(ps.toArray.map fun (i,x)=>(i,ev f x))=vs.toArray:=by rw [List.map_toArray,hp.map]
    simp only [this,Sem.run_bind,hr];rfl) h
theorem OS.callF {k : FuncId} {xs : List Operand} {vs : List Value} {ts : Array TypeId} (ho : o.op = .call { callee := .value (.func k), args := xs.toArray, argTypes := ts }) (hp : PA f xs vs)
    (hk:∀ args w,(callFunc k args).run P w = .ok (.enter k args) w) (h:Calls P k vs.toArray w fun e w'' => ∃ v,e = .returned v∧R v w''):OS P o f w R :=
  OS.call (w':=w) (by
    unfold execOp;rw [ho]
    have:(xs.toArray.map (ev f))=vs.toArray:=by rw [List.map_toArray,hp.map]
    simp only [resolve,this,Sem.run_bind,ev,Deferred.ofValue,Sem.run_pure,Result.andThen_ok,invoke]
    simp [hk]) h
theorem madeCells_rep {α : Type} {E : Enc α} {z : Array Value} {z0 : α} (hz : z.toList = E.e z0) (m : Nat) : madeCells z (m * E.sz) = (fl E (List.replicate m z0)).toArray := by
  have hsz:z.size=E.sz:=by rw [← Array.length_toList,hz,E.len]
  have hpos:=E.pos
  apply Array.ext'
  apply List.ext_getElem?
  intro j
  simp only [madeCells,Array.toList_map,Array.toList_range,List.getElem?_map]
  by_cases hj:j < m * E.sz
  · rw [List.getElem?_range hj]
    simp only [Option.map_some]
    have hd:j / E.sz < m:=by rw [Nat.div_lt_iff_lt_mul hpos];exact hj
    have hm:j % E.sz < E.sz:=Nat.mod_lt _ hpos
    have h1:(List.replicate m z0)[j / E.sz]?=some z0:=by simp [hd]
    have h2:(E.e z0)[j % E.sz]?=some z[j % z.size]!:=by
      rw [← hz,hsz];simp [hsz,hm]
    have h3:=fl_get (E:=E) _ _ _ h1 _ _ h2
    rw [Nat.mul_comm,Nat.div_add_mod] at h3
    exact h3.symm
  · rw [List.getElem?_eq_none (by simpa using hj),List.getElem?_eq_none (by rw [fl_length];simpa using hj)];rfl
theorem fl_replicate_take {α : Type} {E : Enc α} {z0 : α} (n m : Nat) (h : n ≤ m) : (fl E (List.replicate m z0)).take (n * E.sz) = fl E (List.replicate n z0) := by
  rw [fl_take,List.take_replicate,Nat.min_eq_left h]
theorem OS.make {α : Type} {E : Enc α} {t : TypeId} {n m : Int} {zr : Value} {z0 : α} {ti : TypeInfo} {k k' : IntKind} (i : Nat) (ho : o.op = .makeSlice t x y) (ht : P.underlying t = some (.slice E.ty))
    (hi:P.info? E.ty=some ti) (hsz:ti.size=E.sz) (hz:ti.zero=some zr) (hzc:zr.cells.toList=E.e z0)
    (hx:ev f x = .int k n) (hy:ev f y = .int k' m) (h0:0≤n) (hnm:n≤m) (hm:(ti.bytes:Int) * m≤281474976710656) (hl:m≤9223372036854775807)
    (h:∀ v w' c',Ow E i w' c' v (List.replicate n.toNat z0)→St [] w c w' c'→R v w'):OS P o f w R:=by
  have hr:=run_make (P:=P) w t E.ty ti zr ht hi hz k k' n m h0 hnm hm hl
  rw [hsz,madeCells_rep hzc] at hr
  have hmm:m.toNat≤maxLen:=by simp only [maxLen];omega
  have hle:n.toNat≤m.toNat:=by omega
  refine OS.val (by unfold execOp;rw [ho];simp only [hx,hy,Sem.run_bind,hr,Result.andThen_ok];rfl) (h _ _ (pc c w.heap.size i) ⟨⟨fl_length _,.inr ⟨_,m.toNat,_,?_,Nat.zero_le _,heap_alloc_new w _,?_,hmm,?_,?_⟩⟩,fun g hg=>?_⟩ (St.alloc _ i))
  · simp only [List.length_replicate]
  · simpa using hle
  · simp [fl_length]
  · simp only [List.length_replicate];exact fl_replicate_take _ _ hle
  · simp only [Value.ownBlock,Option.some.injEq] at hg;subst hg;exact pc_same

def Src (P : Program) (sz : Nat) (w : World) (u : Value) (m : Nat) (news : List Value) : Prop :=
  (∀ w,(Builtin.lenOf u).run P w = .ok m w)∧(Builtin.firstCells sz m u).run P w = .ok news.toArray w∧(Builtin.firstCells sz m u).run P w.drew = .ok news.toArray w.drew
theorem Vw.src {α : Type} {E : Enc α} {j : Nat} {ys : List α} (h : Vw E j w c u ys) : Src P E.sz w u ys.length (fl E ys) := by
  rcases h with ⟨h1,h2⟩ | ⟨b,off,cap,cs,T,fz,h1,h2,h3,h4,h5⟩
  · subst h2
    rcases h1 with h1 | ⟨a,cap,h1⟩
    · subst h1;exact ⟨fun _=>rfl,run_firstCells_none w _ _ _ _,run_firstCells_none w.drew _ _ _ _⟩
    · subst h1
      have hc:∀ (w:World) (j:Nat) (u:Value),(fl E ([] : List α))[j]?=some u→w.cell? (a.add j)=some u:=fun w j u hu=>by simp [fl] at hu
      exact ⟨fun _=>rfl,run_firstCells_some w E.sz _ _ _ cap _ (fl_length _) (hc w),run_firstCells_some w.drew E.sz _ _ _ cap _ (fl_length _) (hc _)⟩
  · subst h1
    have hc:∀ j u,(fl E ys)[j]?=some u→w.cell? ((⟨b,off,none⟩ : Addr).add j)=some u:=fun j u hu=>by
      rw [Addr.add_lit,cell_of_row w b _ cs T fz h4];exact h5 j u hu
    exact ⟨fun _=>rfl,run_firstCells_some w E.sz _ _ _ cap _ (fl_length _) hc,run_firstCells_some w.drew E.sz _ _ _ cap _ (fl_length _) (by simpa using hc)⟩
def Fits (n b : Nat) : Prop := ∀ old, old < n → Builtin.nextslicecap n old * b ≤ 281474976710656
theorem run_app {α : Type} {E : Enc α} {i : Nat} {xs ys : List α} {t t' ty : TypeId} {ti : TypeInfo} {zr : Value} {d' : TypeDesc} (ht : P.underlying t = some (.slice E.ty)) (ht' : P.underlying t' = some d')
    (hd' : d' = .slice E.ty ∨ d' = .string) (hi:P.info? E.ty=some ti) (hsz:ti.size=E.sz) (hz:ti.zero=some zr) (hzs:zr.cells.size=E.sz)
    (hv:Ow E i w c v xs) (hs:Src P E.sz w u ys.length (fl E ys)) (hb:Fits (xs.length + ys.length) ti.bytes) (h63:xs.length + ys.length≤maxLen) :
    ∃ v' w' c',(Builtin.append_ #[t,t'] ty #[v,u]).run P w = .ok v' w'∧Ow E i w' c' v' (xs++ys)∧St [i] w c w' c':=by
  obtain ⟨⟨hl,h2⟩,h3⟩:=hv
  obtain ⟨s1,s2,s3⟩:=hs
  have hmx:xs.length + ys.length≤9223372036854775807:=by simp only [maxLen] at h63;omega
  have grown:∀ (old:Nat),old < xs.length + ys.length →
      Ow E i (w.drew.alloc (.cells ((fl E xs).toArray++(fl E ys).toArray++Builtin.zeroCells zr.cells (grownCap w (xs.length + ys.length) old E.ty - (xs.length + ys.length))) E.ty)) (pc c w.heap.size i)
        (.slice (some ⟨w.heap.size,0,none⟩) (xs.length + ys.length) (grownCap w (xs.length + ys.length) old E.ty)) (xs++ys) ∧
      St [i] w c (w.drew.alloc (.cells ((fl E xs).toArray++(fl E ys).toArray++Builtin.zeroCells zr.cells (grownCap w (xs.length + ys.length) old E.ty - (xs.length + ys.length))) E.ty)) (pc c w.heap.size i):=by
    intro old ho
    have hge:=grownCap_ge w (xs.length + ys.length) old E.ty
    have hcm:grownCap w (xs.length + ys.length) old E.ty≤maxLen:=grownCap_le_maxLen w _ old E.ty h63
    refine ⟨⟨⟨fl_length _,.inr ⟨w.heap.size,_,_,by rw [List.length_append],Nat.zero_le _,heap_alloc_new w.drew _,by rw [List.length_append];exact hge,hcm,?_,?_⟩⟩,fun g hg=>?_⟩,
      ((St.drew (w:=w) (c:=c)).t (St.alloc _ i)).mono (by simp)⟩
    · simp only [Array.size_append,List.size_toArray,size_zeroCells,hzs,fl_length,← Nat.add_mul]
      congr 1
      omega
    · simp only [Array.toList_append,List.length_append]
      rw [← fl_append,List.take_append_of_le_length (by rw [fl_length,List.length_append];omega)]
      rw [List.take_of_length_le (by rw [fl_length,List.length_append];omega)]
    · simp only [Value.ownBlock,Option.some.injEq] at hg;subst hg;exact pc_same
  rcases hd' with rfl | rfl
  all_goals
    rcases h2 with ⟨hv0,hn0⟩ | ⟨g,cap,cur,hv',hg0,hg,hnc,hcm,hcs,htake⟩
    · have hx:xs=[]:=List.length_eq_zero_iff.1 hn0
      subst hx;subst hv0
      by_cases hm0:ys.length=0
      · have hy:ys=[]:=List.length_eq_zero_iff.1 hm0
        subst hy
        refine ⟨.slice none 0 0,w,c,?_,Ow.nil,St.refl.mono (by simp)⟩
        simp only [List.length_nil] at s1 s2
        simp [Builtin.append_,run_underlying ht,run_underlying ht',sizeOf,typeInfo,hi,hsz,s1,s2]
      · obtain ⟨g1,g2⟩:=grown 0 (by simp;omega)
        have hn : ¬ ys.length=0:=hm0
        have h63' : ¬ (9223372036854775807 < (ys.length:Int)):=by simp at hmx;omega
        have h48' : ¬ (281474976710656 < Builtin.nextslicecap ys.length 0 * ti.bytes):=by
          have:=hb 0 (by simp;omega);simp only [List.length_nil,Nat.zero_add] at this;omega
        refine ⟨_,_,_,?_,g1,g2⟩
        simp [Builtin.append_,run_underlying ht,run_underlying ht',sizeOf,typeInfo,zeroValue,hi,hz,hsz,s1,hn,h63',h48',Question.forced,run_firstCells_none,s3,newRow,grownCap,fl]
    · subst hv'
      by_cases hroom:xs.length + ys.length≤cap
      · have hst:=run_storeCells_at P g (xs.length * E.sz) E.ty (fl E ys) 0 cur w hg (by
          rw [fl_length,hcs,Nat.add_zero,← Nat.add_mul];exact Nat.mul_le_mul_right _ hroom) (fl_one ys)
        simp only [Nat.add_zero] at hst
        refine ⟨.slice (some ⟨g,0,none⟩) (xs.length + ys.length) cap,w.setRow g (cur.toList.take (xs.length * E.sz)++fl E ys++cur.toList.drop (xs.length * E.sz + (fl E ys).length)).toArray,c,?_,⟨⟨fl_length _,.inr ⟨g,cap,(cur.toList.take (xs.length * E.sz)++fl E ys++cur.toList.drop (xs.length * E.sz + (fl E ys).length)).toArray,by rw [List.length_append],Nat.zero_le _,setRow_heap w g cur _ _ _ hg,by rw [List.length_append];exact hroom,hcm,?_,?_⟩⟩,h3⟩,?_⟩
        · simp [Builtin.append_,run_underlying ht,run_underlying ht',sizeOf,typeInfo,hi,hsz,s1,s2,hroom,Addr.add_lit,hst]
        · have:xs.length * E.sz≤cur.size:=by rw [hcs];exact Nat.mul_le_mul_right _ hnc
          have:xs.length * E.sz + ys.length * E.sz≤cap * E.sz:=by rw [← Nat.add_mul];exact Nat.mul_le_mul_right _ hroom
          simp only [List.size_toArray,List.length_append,List.length_take,List.length_drop,Array.length_toList,fl_length,hcs];omega
        · simp only [List.length_append]
          rw [htake,← fl_append,List.take_append_of_le_length (by rw [fl_length,List.length_append];exact Nat.le_refl _)]
          rw [List.take_of_length_le (by rw [fl_length,List.length_append];exact Nat.le_refl _)]
        · exact ⟨rfl,rfl,rfl,by simp,fun _ _ _=>rfl,fun k _ hn=>setRow_other w g k _ (fun e=>hn (by subst e;simp [h3 k rfl]))⟩
      · obtain ⟨g1,g2⟩:=grown cap (by omega)
        have hold:∀ j u,(fl E xs)[j]?=some u→w.cell? ((⟨g,0,none⟩ : Addr).add j)=some u:=fun j u hu=>by
          rw [Addr.add_lit,cell_of_row w g _ cur _ _ hg,Nat.zero_add]
          rw [← htake,List.getElem?_take] at hu
          split at hu
          · simpa using hu
          · cases hu
        have hfo:=run_firstCells_some (P:=P) w.drew E.sz xs.length ⟨g,0,none⟩ xs.length cap (fl E xs) (fl_length _) (by simpa using hold)
        have h63' : ¬ (9223372036854775807 < ((xs.length:Int) + (ys.length:Int))):=by omega
        have h48' : ¬ (281474976710656 < Builtin.nextslicecap (xs.length + ys.length) cap * ti.bytes):=by
          have:=hb cap (by omega);omega
        refine ⟨_,_,_,?_,g1,g2⟩
        simp [Builtin.append_,run_underlying ht,run_underlying ht',sizeOf,typeInfo,zeroValue,hi,hz,hsz,s1,hroom,h63',h48',Question.forced,hfo,s3,newRow,grownCap]
        congr 2
        apply Array.ext'
        simp [List.append_assoc]
theorem OS.append {α : Type} {E : Enc α} {i : Nat} {xs ys : List α} {t t' : TypeId} {ti : TypeInfo} {zr : Value} {d' : TypeDesc} (ho : o.op = .call { callee := .builtin .append, args := #[x, y], argTypes := #[t, t'] })
    (ht:P.underlying t=some (.slice E.ty)) (ht' : P.underlying t'=some d')
    (hd' : d' = .slice E.ty ∨ d' = .string) (hi:P.info? E.ty=some ti) (hsz:ti.size=E.sz) (hz:ti.zero=some zr) (hzs:zr.cells.size=E.sz)
    (hx:ev f x=v) (hy:ev f y=u) (hv:Ow E i w c v xs) (hs:Src P E.sz w u ys.length (fl E ys)) (hb:Fits (xs.length + ys.length) ti.bytes) (h63:xs.length + ys.length≤maxLen)
    (h:∀ v' w' c',Ow E i w' c' v' (xs++ys)→St [i] w c w' c'→R v' w'):OS P o f w R:=by
  obtain ⟨v',w',c',hr,h1,h2⟩:=run_app (ty:=o.type) ht ht' hd' hi hsz hz hzs hv hs hb h63
  refine OS.val (v:=v') (w':=w') ?_ (h _ _ _ h1 h2)
  unfold execOp;rw [ho]
  simp only [resolve,invoke,builtin,Sem.run_bind,Sem.run_pure,Result.andThen_ok,List.map_toArray,List.map_cons,List.map_nil,hx,hy]
  rw [hr];rfl

end
end Go.Proofs.YtgmgahphjiiceaaGreat.L
