/-
  One lemma an operation: structs,maps,a range over a map. No program in sight.
-/
import Derived.Test.YtgmgahphjiiceaaGreatLib15
namespace Go.Proofs.YtgmgahphjiiceaaGreat.L
open Go
open Go.ChangeMaps (setBlock)
section
variable {P : Program} {f : Fr} {w w' : World} {o : Oper} {R : Value → World → Prop} {x y z : Operand} {a b v u p q : Value} {c c' : Col}

theorem OS.fieldAddr {t : TypeId} {k n b off : Nat} {fs : Array Field} {fd : Field} (ho : o.op = .fieldAddr t x k) (ht : ∀ w, (underlying t).run P w = .ok (.struct fs) w) (hf : fs[k]? = some fd)
    (hs:∀ w,(sizeOf fd.type).run P w = .ok n w) (hn:(n == 0)=false) (hx:ev f x=p) (hp:p = .pointer (some ⟨b,off,none⟩)) (h:∀ q,AdrP p fd.offset 1 q→R q w):OS P o f w R:=by
  subst hp
  have hn' : ¬ n=0:=by simpa using hn
  refine OS.val (v := .pointer (some ⟨b,off + fd.offset * 1,none⟩)) (w':=w) ?_ (h _ ⟨b,off,rfl,rfl⟩)
  unfold execOp;rw [ho]
  simp only [hx,Instr.fieldAt,Sem.run_bind,ht,Result.andThen_ok,hf,Instr.sureAddr,Sem.run_pure,fieldPlace,hs]
  rw [if_neg hn']
  simp [Addr.add_lit]
theorem Ld.sub {us vs : List Value} {k : Nat} (h : Ld w p us) (ha : AdrP p k 1 q) (hv : ∀ (j : Nat) u, vs[j]? = some u → us[k + j]? = some u) : Ld w q vs := by
  obtain ⟨b,o,hp,h1⟩:=h
  obtain ⟨b',o',hp',hq⟩:=ha
  rw [hp] at hp';cases hp'
  refine ⟨b,o + k * 1,hq,fun j u hu=>?_⟩
  rw [Nat.mul_one,Nat.add_assoc];exact h1 _ _ (hv j u hu)
theorem Bx.ldn {i k : Nat} {us vs : List Value} (h : Bx i w c p us) (ha : AdrP p k 1 q) (hv : ∀ (j : Nat) u, vs[j]? = some u → us[k + j]? = some u) : Ld w q vs := h.ldAll.sub ha hv
theorem sub_of {us vs : List Value} {k : Nat} (h : (us.drop k).take vs.length = vs) : ∀ (j : Nat) u, vs[j]? = some u → us[k + j]? = some u := by
  intro j u hu
  rw [← h,List.getElem?_take,List.getElem?_drop] at hu
  split at hu
  · exact hu
  · cases hu
theorem OS.stBxAt {i k n : Nat} {t : TypeId} {us vs ws : List Value} (ho : o.op = .store t x y) (ht : ∀ w, (sizeOf t).run P w = .ok n w) (hx : ev f x = q) (hy : ev f y = v) (hvc : v.cells = vs.toArray)
    (hp:Bx i w c p us) (ha:AdrP p k 1 q) (hn:vs.length=n) (hk:k + vs.length≤us.length) (h1:∀ u ∈ vs,u.oneCell'=true) (hw:us.take k++vs++us.drop (k + vs.length)=ws)
    (h:∀ w',Bx i w' c p ws→St [i] w c w' c→R undef w'):OS P o f w R:=by
  subst hw
  obtain ⟨b,T,h2,h3,h4⟩:=hp
  obtain ⟨b',o',hp',hq⟩:=ha
  rw [h2] at hp';cases hp'
  have hst:=run_storeCells_at P b k T vs 0 us.toArray w h4 (by simpa using hk) h1
  simp only [Nat.add_zero] at hst
  refine OS.skip (w':=w.setRow b (us.take k++vs++us.drop (k + vs.length)).toArray) ?_ (h _ ⟨b,T,h2,h3,?_⟩ (St.setRow h3))
  · unfold execOp;rw [ho]
    simp [hx,hy,hq,Instr.storeAt,Instr.sureAddr,storeVar,ht,hvc,hn,hst]
  · exact setRow_heap w b _ _ T _ h4
end

section
variable {P : Program}
theorem ck_int {t : TypeId} {k : IntKind} (ht : P.underlying t = some (.int k)) (b : Bool) (d : Nat) (a : Int) (w : World) : (Instr.checkKey b (d + 1) t (.int k a)).run P w = .ok () w := by
  simp only [Instr.checkKey,Sem.run_bind,run_underlying ht,Result.andThen_ok,Sem.run_pure]
theorem KL.int {t : TypeId} (ht : P.underlying t = some (.int .i64)) : KL P t (fun k : Int => vI k) :=
  KL.now ht (fun b a w=>ck_int ht b 9999 a w) (fun a b=>by
    show (if IntKind.i64=IntKind.i64 then some (a == b) else none)=_
    rw [if_pos rfl];congr 1;rw [Bool.eq_iff_iff,beq_iff_eq,decide_eq_true_eq];exact eq_comm) (fun a=>by
    show (IntKind.i64 == IntKind.i64 && a == a)=true
    simp)
end
section
variable {β κ : Type} [DecidableEq κ] {kv : κ → Value} {V : VR β} {P : Program} {f : Fr} {w w' : World} {c c' : Col} {o : Oper} {R : Value → World → Prop} {x y z : Operand} {v u p : Value} {i j : Nat} {m left : List (κ × β)} {kt et mt : TypeId} {a : κ}
omit [DecidableEq κ] in
theorem OS.makeMap {t : TypeId} (i : Nat) (ho : o.op = .makeMap t none) (h : ∀ v w' c', Mp kv V i w' c' v ([] : List (κ × β)) → St [] w c w' c' → R v w') : OS P o f w R :=
  OS.val (v := .map (some w.heap.size)) (w':=w.alloc (.map #[] 0)) (by
    unfold execOp;rw [ho]
    rfl) (h _ _ (pc c w.heap.size i) ⟨_,#[],0,rfl,pc_same,heap_alloc_new w _,trivial,by simp,by simp,by simp⟩ (St.alloc _ i))
theorem OS.look1 (ho : o.op = .lookup mt x y false) (K : KL P kt kv) (ht : P.underlying mt = some (.map kt et)) {zv : Value} {zx : β} (hz : ∀ w, (zeroValue et).run P w = .ok zv w) (hx : ev f x = v) (hy : ev f y = kv a)
    (hm:Mp kv V i w c v m) (hzr:V.r w c zv zx) (h:∀ u,V.r w c u ((mget m a).getD zx)→R u w):OS P o f w R:=by
  obtain ⟨u,hr,hu⟩:=hm.look K ht a (hz w) hzr false
  exact OS.val (v:=u) (w':=w) (by unfold execOp;rw [ho];simp only [hx,hy,Sem.run_bind,hr,Result.andThen_ok];rfl) (h u hu)
theorem OS.look2 (ho : o.op = .lookup mt x y true) (K : KL P kt kv) (ht : P.underlying mt = some (.map kt et)) {zv : Value} {zx : β} (hz : ∀ w, (zeroValue et).run P w = .ok zv w) (hx : ev f x = v) (hy : ev f y = kv a)
    (hm:Mp kv V i w c v m) (hzr:V.r w c zv zx) (h:∀ u,V.r w c u ((mget m a).getD zx)→R (.tuple #[u,.bool (mget m a).isSome]) w):OS P o f w R:=by
  obtain ⟨u,hr,hu⟩:=hm.look K ht a (hz w) hzr true
  exact OS.val (v := .tuple #[u,.bool (mget m a).isSome]) (w':=w) (by unfold execOp;rw [ho];simp only [hx,hy,Sem.run_bind,hr,Result.andThen_ok];rfl) (h u hu)
theorem OS.mapUpd {q : β} (ho : o.op = .mapUpdate mt x y z ∨ o.op = .insert mt x y z) (K : KL P kt kv) (ht : P.underlying mt = some (.map kt et)) (hx : ev f x = v) (hy : ev f y = kv a) (hz : ev f z = u)
    (hm:Mp kv V i w c v m) (hu:V.r w c u q) (hi:i ≠ 1) (h:∀ w',Mp kv V i w' c v (mset m a q)→St [i] w c w' c→R undef w'):OS P o f w R:=by
  obtain ⟨w',hr,h1,h2⟩:=hm.upd K ht a hu hi
  refine OS.skip (w':=w') ?_ (h w' h1 h2)
  unfold execOp
  rcases ho with ho | ho <;> (rw [ho];simp only [hx,hy,hz,Sem.run_bind,hr,Result.andThen_ok];rfl)
theorem OS.mapDel (ho : o.op = .call { callee := .builtin .delete, args := #[x, y], argTypes := #[mt, kt] }) (K : KL P kt kv) (ht : P.underlying mt = some (.map kt et)) (hx : ev f x = v) (hy : ev f y = kv a)
    (hm:Mp kv V i w c v m) (hi:i ≠ 1) (h:∀ w',Mp kv V i w' c v (mdel m a)→St [i] w c w' c→R (.tuple #[]) w'):OS P o f w R:=by
  obtain ⟨w',hr,h1,h2⟩:=hm.del K ht a o.type hi
  refine OS.val (v := .tuple #[]) (w':=w') ?_ (h w' h1 h2)
  unfold execOp;rw [ho]
  simp [resolve,invoke,builtin,hx,hy,hr]
omit [DecidableEq κ] in
theorem OS.lenMap (ho : o.op = .call { callee := .builtin .len, args := #[x], argTypes := #[mt] }) (ht : ∀ w, (underlying mt).run P w = .ok (.map kt et) w) (hx : ev f x = v) (hm : Mp kv V i w c v m) (h : R (vI m.length) w) : OS P o f w R := by
  obtain ⟨b,es,clock,rfl,h3,h4,h5,_⟩:=hm
  have hg:(getObj b).run P w = .ok (.map es clock) w:=by simp [getObj,Sem.run,h4]
  have hl:es.size=m.length:=by rw [← h5.len];simp
  refine OS.val (v:=vI m.length) (w':=w) ?_ h
  unfold execOp;rw [ho]
  simp [resolve,invoke,builtin,hx,Builtin.len_,ht,hg,goInt,hl]
def MpI (kv : κ → Value) (V : VR β) (i j : Nat) (w : World) (c : Col) (v p : Value) (m left : List (κ × β)) : Prop :=
  ∃ b es clock r seen,v = .map (some b)∧p = .pointer (some ⟨r,0,none⟩)∧c b=i∧c r=j∧w.heap[b]?=some (.map es clock)∧w.heap[r]?=some (.mapIter (some b) clock seen clock) ∧
    All2 (Ent kv V w c) es.toList m∧All2 (Ent kv V w c) (leftOf es seen).toList left∧(∀ e ∈ es.toList,e.born < clock)∧(es.toList.map (·.born)).Nodup∧(m.map (·.1)).Nodup
omit [DecidableEq κ] in
theorem MpI.keep {I : List Nat} (h : MpI kv V i j w c v p m left) (s : St I w c w' c') (hi : i ∉ I := by decide) (hj : j ∉ I := by decide) (h1 : 1 ∉ I := by decide) : MpI kv V i j w' c' v p m left := by
  obtain ⟨b,es,clock,r,seen,h2,h3,h4,h5,h6,h7,h8,h9,h10⟩:=h
  have hb:=blk_lt h6
  have hr:=blk_lt h7
  have hn:c b ∉ I:=by rw [h4];exact hi
  have hn' : c r ∉ I:=by rw [h5];exact hj
  exact ⟨b,es,clock,r,seen,h2,h3,by rw [s.col b hb hn,h4],by rw [s.col r hr hn',h5],by rw [s.blk b hb hn,h6],by rw [s.blk r hr hn',h7],h8.mono fun e x ⟨e1,e2⟩=>⟨e1,V.keep e2 s h1⟩,h9.mono fun e x ⟨e1,e2⟩=>⟨e1,V.keep e2 s h1⟩,h10⟩
omit [DecidableEq κ] in
theorem MpI.mp (h : MpI kv V i j w c v p m left) : Mp kv V i w c v m := by
  obtain ⟨b,es,clock,r,seen,h2,h3,h4,h5,h6,h7,h8,h9,h10,h11,h12⟩:=h
  exact ⟨b,es,clock,h2,h4,h6,h8,h10,h11,h12⟩
omit [DecidableEq κ] in
theorem OS.range (j : Nat) (ho : o.op = .range mt x) (ht : ∀ w, (underlying mt).run P w = .ok (.map kt et) w) (hx : ev f x = v) (hm : Mp kv V i w c v m)
    (h:∀ p w' c',MpI kv V i j w' c' v p m m→St [] w c w' c'→R p w'):OS P o f w R:=by
  obtain ⟨b,es,clock,rfl,h3,h4,h5,h6,h7,h8⟩:=hm
  have hg:(getObj b).run P w = .ok (.map es clock) w:=by simp [getObj,Sem.run,h4]
  have hb:=blk_lt h4
  have st:St [] w c (w.alloc (.mapIter (some b) clock #[] clock)) (pc c w.heap.size j):=St.alloc _ j
  have hle:leftOf es #[]=es:=by
    unfold leftOf
    apply Array.filter_eq_self.2
    intro e _;simp
  have h5' : All2 (Ent kv V (w.alloc (.mapIter (some b) clock #[] clock)) (pc c w.heap.size j)) es.toList m:=h5.mono fun e x ⟨e1,e2⟩=>⟨e1,V.keep e2 st (by simp)⟩
  refine OS.val (v := .pointer (some ⟨w.heap.size,0,none⟩)) (w':=w.alloc (.mapIter (some b) clock #[] clock)) ?_ (h _ _ _ ⟨b,es,clock,w.heap.size,#[],rfl,rfl,?_,pc_same,?_,heap_alloc_new w _,h5',by rw [hle];exact h5',h6,h7,h8⟩ st)
  · unfold execOp;rw [ho]
    simp only [hx,Instr.range,Sem.run_bind,ht,Result.andThen_ok,hg,Sem.run_pure,newObj,Sem.run]
    rfl
  · rw [pc_ne (by omega),h3]
  · rw [heap_alloc_old w _ hb,h4]
omit [DecidableEq κ] in
theorem left_keys {es : List MapEntry} {g : MapEntry → Bool} : ∀ {m left : List (κ × β)}, All2 (Ent kv V w c) es m → All2 (Ent kv V w c) (es.filter g) left → (∀ a b, kv a = kv b → a = b) → (left.map (·.1)).Sublist (m.map (·.1)) := by
  induction es with
  | nil =>
    intro m left h1 h2 _
    cases m with
    | nil=>cases left with
      | nil=>simp
      | cons _ _=>exact h2.elim
    | cons _ _=>exact h1.elim
  | cons e es ih =>
    intro m left h1 h2 hinj
    cases m with
    | nil=>exact h1.elim
    | cons x m =>
      by_cases hg:g e=true
      · rw [List.filter_cons_of_pos hg] at h2
        cases left with
        | nil=>exact h2.elim
        | cons y left =>
          have:x.1=y.1:=hinj _ _ (h1.1.1.symm.trans h2.1.1)
          simp only [List.map_cons,this]
          exact (ih h1.2 h2.2 hinj).cons_cons _
      · rw [List.filter_cons_of_neg hg] at h2
        exact (ih h1.2 h2 hinj).cons _
theorem filter_born_erase : ∀ (L : List MapEntry) (k : Nat) (e : MapEntry), (L.map (·.born)).Nodup → L[k]? = some e → L.filter (fun x => x.born != e.born) = L.eraseIdx k
  | [],k,e,_,h=>by simp at h
  | y :: L,0,e,hn,h=>by
    simp at h;subst h
    simp only [List.map_cons,List.nodup_cons] at hn
    rw [List.filter_cons_of_neg (by simp),List.eraseIdx_cons_zero,List.filter_eq_self.2]
    intro z hz
    have:z.born ≠ y.born:=fun e2=>hn.1 (e2 ▸ List.mem_map_of_mem hz)
    simpa using this
  | y :: L,k + 1,e,hn,h=>by
    simp only [List.map_cons,List.nodup_cons] at hn
    have hk' : L[k]?=some e:=by simpa using h
    have:y.born ≠ e.born:=fun e2=>hn.1 (e2 ▸ List.mem_map_of_mem (List.mem_of_getElem? hk'))
    rw [List.filter_cons_of_pos (by simpa using this),List.eraseIdx_cons_succ,filter_born_erase L k e hn.2 hk']
theorem kv_inj (K : KL P kt kv) (a b : κ) (h : kv a = kv b) : a = b := by
  have h1:=K.fnd (es:=[{ key:=kv a,val:=undef,born:=0 }]) (ks:=[a]) b default rfl
  have h2:=K.fnd (es:=[{ key:=kv b,val:=undef,born:=0 }]) (ks:=[b]) b default rfl
  rw [h] at h1
  rw [h1] at h2
  simp only [fidx] at h2
  by_cases hab:a=b
  · exact hab
  · simp [hab] at h2
def MpE (kv : κ → Value) (_V : VR β) (i j : Nat) (w : World) (c : Col) (p : Value) (a : κ) (u : Value) : Prop :=
  ∃ b es clock r,∃ (seen:Array Nat) (s:Nat) (e:MapEntry),p = .pointer (some ⟨r,0,none⟩)∧c b=i∧c r=j∧w.heap[b]?=some (.map es clock)∧w.heap[r]?=some (.mapIter (some b) s (seen.push e.born) clock)∧e ∈ es.toList∧(es.toList.map (·.born)).Nodup∧e.key=kv a∧e.val=u
omit [DecidableEq κ] in
theorem OS.entry (ho : o.op = .entry x) (hx : ev f x = p) (he : MpE kv V i j w c p a u) (h : R (.tuple #[kv a, u]) w) : OS P o f w R := by
  obtain ⟨b,es,clock,r,seen,s0,e,rfl,h4,h5,h6,h7,h8,h9,h10,h11⟩:=he
  have:=run_entry_at (P:=P) w r b s0 seen es clock e h7 h6 h8 h9
  rw [h10,h11] at this
  exact OS.val (v := .tuple #[kv a,u]) (w':=w) (by unfold execOp;rw [ho];simp only [hx,Sem.run_bind,this,Result.andThen_ok];rfl) h
theorem OS.next (ho : o.op = .next x false) (K : KL P kt kv) (hx : ev f x = p) (hm : MpI kv V i j w c v p m left) (_hij : i ≠ j) (hj : j ≠ 1)
    (h0:left=[]→R (.tuple #[.bool false]) w)
    (h1:∀ l1 k q l2 u w',left=l1++(k,q) :: l2→k ∉ (l1++l2).map (·.1)→V.r w' c u q→MpI kv V i j w' c v p m (l1++l2)→MpE kv V i j w' c p k u→St [j] w c w' c→R (.tuple #[.bool true,kv k,u]) w'):OS P o f w R:=by
  obtain ⟨b,es,clock,r,seen,rfl,rfl,hb,hr,h6,h7,h8,h9,h10,h11,h12⟩:=hm
  rcases run_next_at (P:=P) w o.type r b clock clock seen es clock h7 h6 h10 (Nat.le_refl _) with ⟨hs,hrun⟩ | ⟨e,he,w1,hw1,hrun⟩
  · have:left=[]:=by
      have:=h9.len
      simp [hs] at this
      exact List.length_eq_zero_iff.1 this.symm
    exact OS.val (v := .tuple #[.bool false]) (w':=w) (by unfold execOp;rw [ho];simp only [hx,Sem.run_bind,hrun,Result.andThen_ok];rfl) (h0 this)
  · obtain ⟨k,hk⟩:=List.getElem?_of_mem he
    obtain ⟨q,hq,hqk,hqv⟩:=h9.get' hk
    have hl1:=List.getElem?_eq_some_iff.1 hq
    have hsplit:left=left.take k++q :: left.drop (k + 1):=by
      rw [← hl1.2,List.getElem_cons_drop,List.take_append_drop]
    have hinj:=kv_inj K
    have hem:e ∈ es.toList:=by
      unfold leftOf at he;simp at he ⊢;exact he.1
    have h7' : w1.heap[r]?=some (.mapIter (some b) clock seen clock):=by rcases hw1 with rfl | rfl <;> exact h7
    have h6' : w1.heap[b]?=some (.map es clock):=by rcases hw1 with rfl | rfl <;> exact h6
    have hne:b ≠ r:=by intro e1;rw [e1,h7] at h6;cases h6
    have hset:∀ n,n ≠ r→(setBlock w1 r (.mapIter (some b) clock (seen.push e.born) clock)).heap[n]?=w1.heap[n]?:=fun n hn=>by
      simp [Go.ChangeMaps.setBlock,Ne.symm hn]
    have hsr:(setBlock w1 r (.mapIter (some b) clock (seen.push e.born) clock)).heap[r]?=some (.mapIter (some b) clock (seen.push e.born) clock):=by
      have:=blk_lt h7'
      simp [Go.ChangeMaps.setBlock,this]
    have st:St [j] w c (setBlock w1 r (.mapIter (some b) clock (seen.push e.born) clock)) c:=by
      have s1:St [] w c w1 c:=by
        rcases hw1 with rfl | rfl
        · exact St.refl
        · exact St.drew
      exact (s1.t (St.setBlock (w:=w1) (i:=j) hr)).mono (by simp)
    have hin:(1:Nat) ∉ [j]:=by simp;omega
    have hleft:(leftOf es (seen.push e.born)).toList=(leftOf es seen).toList.eraseIdx k:=by
      have hnd:((leftOf es seen).toList.map (·.born)).Nodup:=by
        unfold leftOf
        rw [Array.toList_filter]
        exact h11.sublist (List.filter_sublist.map _)
      have e1:(leftOf es (seen.push e.born)).toList=(leftOf es seen).toList.filter (fun x=>x.born != e.born):=by
        unfold leftOf
        rw [Array.toList_filter,Array.toList_filter,List.filter_filter]
        apply List.filter_congr
        intro x _
        rw [contains_push]
        cases seen.contains x.born <;> simp [bne]
      rw [e1];exact filter_born_erase _ k e hnd hk
    have herase:left.eraseIdx k=left.take k++left.drop (k + 1):=List.eraseIdx_eq_take_drop_succ _ _
    have hE:∀ {es' : List MapEntry} {l:List (κ × β)},All2 (Ent kv V w c) es' l→All2 (Ent kv V (setBlock w1 r (.mapIter (some b) clock (seen.push e.born) clock)) c) es' l:=fun h=>h.mono fun e x ⟨e1,e2⟩=>⟨e1,V.keep e2 st hin⟩
    have hnk:(left.map (·.1)).Nodup:=by
      have h9':=h9
      unfold leftOf at h9'
      rw [Array.toList_filter] at h9'
      exact h12.sublist (left_keys h8 h9' hinj)
    refine OS.val (v := .tuple #[.bool true,kv q.1,e.val]) (w':=setBlock w1 r (.mapIter (some b) clock (seen.push e.born) clock)) (by unfold execOp;rw [ho];simp only [hx,Sem.run_bind,hrun,Result.andThen_ok,← hqk];rfl)
      (h1 (left.take k) q.1 q.2 (left.drop (k + 1)) e.val _ hsplit ?_ (V.keep hqv st hin) ⟨b,es,clock,r,seen.push e.born,rfl,rfl,hb,hr,by rw [hset b hne];exact h6',hsr,hE h8,?_,h10,h11,h12⟩
        ⟨b,es,clock,r,seen,clock,e,rfl,hb,hr,by rw [hset b hne];exact h6',hsr,hem,h11,hqk,rfl⟩ st)
    · rw [hsplit] at hnk
      simp only [List.map_append,List.map_cons] at hnk ⊢
      rw [List.nodup_append] at hnk
      obtain ⟨n1,n2,n3⟩:=hnk
      rw [List.nodup_cons] at n2
      intro hmem
      rcases List.mem_append.1 hmem with hm | hm
      · exact n3 _ hm _ (by simp) rfl
      · exact n2.1 hm
    · rw [hleft,← herase];exact hE (h9.eraseIdx k)
end
end Go.Proofs.YtgmgahphjiiceaaGreat.L
