/-
  A region that draws its order: each operation is shown once,from what its own forerunners gave. No program in sight.
-/
import Derived.Test.YtgmgahphjiiceaaGreatLib5
namespace Go.Proofs.YtgmgahphjiiceaaGreat.L
open Go

abbrev Fact := Value → World → Col → Prop
def trF : Fact := fun _ _ _ => True
def AllL (p : Nat → Prop) : List Nat → Prop
  | []=>True
  | i :: l=>p i∧AllL p l
theorem AllL.mem {p : Nat → Prop} : ∀ {l : List Nat}, AllL p l → ∀ i, i ∈ l → p i
  | [],_,_,h=>by cases h
  | j :: l,⟨h1,h2⟩,i,h=>by
    rcases List.mem_cons.1 h with rfl | h
    · exact h1
    · exact AllL.mem h2 i h
theorem AllL.of {p : Nat → Prop} : ∀ {l : List Nat}, (∀ i, i ∈ l → p i) → AllL p l
  | [],_=>trivial
  | _ :: _,h=>⟨h _ (by simp),AllL.of fun i hi=>h i (by simp [hi])⟩

def edges (o : Oper) : List Nat := (o.after.toList.filter fun e => Region.binds .any e).map (·.on)
def ancs : List Oper → List (List Nat) → List (List Nat)
  | [],acc=>acc
  | o :: l,acc=>ancs l (acc++[(edges o).flatMap fun j=>j :: acc.getD j []])
def dstOf (ops : List Oper) (i : Nat) : Nat := (((ops[i]?).bind (·.dst))).getD 0
def OSG (P : Program) (ops : List Oper) (o : Oper) (f : Fr) (w : World) (R : Value → World → Prop) : Prop :=
  match o.guard with
  | none=>OS P o f w R
  | some (j,b) => ∃ b',f (dstOf ops j) = .bool b'∧(ops[j]?).bind (·.dst)=some (dstOf ops j)∧(b'=b→OS P o f w R)∧(b'=(!b)→R undef w)

structure Plan where
  m:Nat
  K:List (List Nat)
  M:List (List Nat)
  MM:List Nat
  need:List (List Nat)
  fin:List Nat

def Plan.free (pl : Plan) (A : List (List Nat)) (j : Nat) (i : Option Nat) : Bool :=
  (List.range pl.m).all fun i'=>i' == j || some i' == i || (A.getD j []).contains i' || (pl.K.getD j []).all fun x => !(pl.M.getD i' []).contains x
def Plan.ok (pl : Plan) (ops : List Oper) : Bool :=
  let A:=ancs ops []
  Nat.ble pl.m ops.length &&
  (ops.zipIdx.all fun (o,i)=>o.after.all fun e => !Region.binds .any e || Nat.blt e.on i) &&
  ((List.range ops.length).all fun j=>Nat.blt j pl.m || (List.range j).all fun i=>(A.getD j []).contains i) &&
  ((List.range pl.m).all fun i=>(((ops[i]?).bind (·.dst)).isSome) && (pl.M.getD i []).all (pl.MM.contains ·) &&
    (pl.need.getD i []).all fun j=>Nat.blt j pl.m && (A.getD i []).contains j && pl.free A j (some i)) &&
  (pl.fin.all fun j=>Nat.blt j pl.m && pl.free A j none) &&
  ((List.range pl.m).all fun i=>(List.range pl.m).all fun j=>i == j || dstOf ops i != dstOf ops j) &&
  ((List.range pl.m).all fun _=>true)

section
variable {P : Program} {N : Nat} {D : Cx} {f : Fr} {w : World} {c : Col} {ops rest : List Oper} {o : Oper} {Q : Exit → Fr → World → Prop}

theorem ready_spec {md : Region.Mode} {os : Array Oper} {li : Array Bool} {i : Nat} (h : i ∈ Region.ready md os li) : ∃ o, os[i]? = some o ∧ li.getD i true = false ∧ ∀ e, e ∈ o.after → Region.binds md e = true → li.getD e.on false = true := by
  unfold Region.ready at h
  rw [List.mem_filter] at h
  obtain ⟨h1,h2⟩:=h
  simp only [Bool.and_eq_true,Bool.not_eq_true'] at h2
  obtain ⟨h2,h3⟩:=h2
  cases ho:os[i]? with
  | none=>rw [ho] at h3;simp at h3
  | some o =>
    rw [ho] at h3
    simp only [Option.map_some,Option.getD_some] at h3
    refine ⟨o,rfl,h2,fun e he hb=>?_⟩
    have:=(Array.all_eq_true_iff_forall_mem.1 h3) e he
    simpa [hb] using this

theorem flatMap_eq {α β : Type} {l : List α} {g h : α → List β} (e : ∀ a, a ∈ l → g a = h a) : l.flatMap g = l.flatMap h := by
  induction l with
  | nil=>rfl
  | cons a l ih=>simp only [List.flatMap_cons];rw [e a (by simp),ih fun b hb=>e b (by simp [hb])]
theorem ancs_get : ∀ (l : List Oper) (acc : List (List Nat)) (j : Nat), j < acc.length → (ancs l acc)[j]? = acc[j]?
  | [],_,_,_=>rfl
  | o :: l,acc,j,h=>by
    rw [ancs,ancs_get l _ j (by simp;omega),List.getElem?_append_left h]
theorem ancs_new : ∀ (l : List Oper) (acc : List (List Nat)) (j : Nat) (o : Oper), l[j]? = some o → (∀ k, k ∈ edges o → k < acc.length + j) →
    (ancs l acc).getD (acc.length + j) []=(edges o).flatMap fun k=>k :: (ancs l acc).getD k []
  | [],_,_,_,h,_=>by simp at h
  | o :: l,acc,0,o',h,he=>by
    simp at h;subst h
    have h1:(ancs l (acc++[(edges o).flatMap fun j=>j :: acc.getD j []]))[acc.length]?=some ((edges o).flatMap fun j=>j :: acc.getD j []):=by
      rw [ancs_get l _ _ (by simp),List.getElem?_append_right (Nat.le_refl _)];simp
    rw [ancs,Nat.add_zero,List.getD_eq_getElem?_getD,h1]
    simp only [Option.getD_some]
    refine flatMap_eq fun k hk=>?_
    have hk':=he k hk
    rw [List.getD_eq_getElem?_getD,List.getD_eq_getElem?_getD,ancs_get l _ _ (by simp;omega),List.getElem?_append_left (by omega)]
  | o :: l,acc,j + 1,o',h,he=>by
    have h2:=ancs_new l (acc++[(edges o).flatMap fun j=>j :: acc.getD j []]) j o' (by simpa using h) (fun k hk=>by have:=he k hk;simp;omega)
    simp only [List.length_append,List.length_singleton] at h2
    rw [ancs,show acc.length + (j + 1)=acc.length + 1 + j by omega]
    exact h2

def cnt (n : Nat) (li : Array Bool) : Nat := ((List.range n).filter fun i => li.getD i false).length
theorem cnt_all {n : Nat} {li : Array Bool} (h : cnt n li = n) : ∀ i, i < n → li.getD i false = true := by
  intro i hi
  have h1:((List.range n).filter fun i=>li.getD i false)=List.range n:=by
    have:=List.filter_sublist (p:=fun i=>li.getD i false) (l:=List.range n)
    exact this.eq_of_length (by simpa [cnt] using h)
  have:i ∈ (List.range n).filter fun i=>li.getD i false:=by rw [h1];simpa using hi
  exact (List.mem_filter.1 this).2
theorem getD_set {li : Array Bool} {i j : Nat} {b d : Bool} (h : i < li.size) : (li.setIfInBounds i b).getD j d = if j = i then b else li.getD j d := by
  simp only [Array.getD_eq_getD_getElem?]
  by_cases hj:j=i
  · subst hj;rw [if_pos rfl];simp [h]
  · rw [if_neg hj,Array.getElem?_setIfInBounds_ne (fun e=>hj e.symm)]
theorem cnt_set {n : Nat} {li : Array Bool} {i : Nat} (hn : li.size = n) (hi : i < n) (h : li.getD i true = false) : cnt n (li.setIfInBounds i true) = cnt n li + 1 := by
  have key:∀ (l:List Nat),l.Nodup→(l.filter fun j=>(li.setIfInBounds i true).getD j false).length=(l.filter fun j=>li.getD j false).length + (if i ∈ l then 1 else 0):=by
    intro l
    induction l with
    | nil=>intro _;simp
    | cons x l ih =>
      intro hd
      obtain ⟨h1,h2⟩:=List.nodup_cons.1 hd
      have ih:=ih h2
      have hlf:li.getD i false=false:=by
        simp only [Array.getD_eq_getD_getElem?] at h ⊢
        cases hx:li[i]? with
        | none=>rfl
        | some b=>rw [hx] at h;simpa using h
      by_cases hx:x=i
      · subst hx
        rw [List.filter_cons,List.filter_cons,getD_set (by omega),if_pos rfl,if_pos rfl,hlf]
        simp [h1] at ih ⊢
        exact ih
      · have hxi:(i ∈ x :: l) ↔ i ∈ l:=⟨fun h=>(List.mem_cons.1 h).resolve_left fun e=>hx e.symm,List.mem_cons_of_mem _⟩
        rw [List.filter_cons,List.filter_cons,getD_set (by omega),if_neg hx]
        simp only [hxi]
        split
        · simp only [List.length_cons,ih];omega
        · exact ih
  have:=key (List.range n) List.nodup_range
  simpa [cnt,hi] using this

theorem wpOp_of_list {F : Fence} {n k : Nat} {a : Act} {q : Exit → Act → World → Prop} (hk : ops[k]? = some o) (h : wpListIn F n P ops.toArray q (o :: rest) a w) : wpOpIn F n P ops.toArray q k (wpListIn F n P ops.toArray q rest) a w := by
  unfold wpOpIn
  have:ops.toArray[k]?=some o:=by simpa using hk
  rw [this]
  unfold wpListIn at h
  exact h
def mixed (P : Program) : Prop := P.follows .mixedOrders = true

theorem any_tail {F : Fence} {n : Nat} {q : Exit → Act → World → Prop} (m : Nat) (hs : ∀ i o, ops[i]? = some o → ∀ e, e ∈ o.after → Region.binds .any e = true → e.on < i)
    (ht:∀ j,m≤j→j < ops.length→∀ li:Array Bool,(∀ i,li.getD i false=true→∀ o,ops[i]?=some o→∀ e,e ∈ o.after→Region.binds .any e=true→li.getD e.on false=true) →
      (∀ o,ops[j]?=some o→∀ e,e ∈ o.after→Region.binds .any e=true→li.getD e.on false=true)→∀ i,i < j→li.getD i false=true) :
    ∀ (fuel k:Nat) (li:Array Bool) (a:Act) (w:World),m≤k→k + fuel=ops.length→li.size=ops.length→(∀ i,i < ops.length→li.getD i false=decide (i < k)) →
      wpListIn F n P ops.toArray q (ops.drop k) a w→wpAnyIn F n P .any ops.toArray q fuel li a w:=by
  intro fuel
  induction fuel with
  | zero =>
    intro k li a w hmk hk hsz hli h
    have hd:ops.drop k=[]:=List.drop_eq_nil_of_le (by omega)
    rw [hd] at h
    refine ⟨?_,h⟩
    apply List.eq_nil_iff_forall_not_mem.2
    intro i hi
    obtain ⟨o,ho,h1,_⟩:=ready_spec hi
    have hil:i < ops.length:=by
      have:=(Array.getElem?_eq_some_iff.1 ho).1;simpa using this
    have h2:=hli i hil
    simp only [Array.getD_eq_getD_getElem?] at h1 h2
    cases hx:li[i]? with
    | none=>rw [hx] at h1;simp at h1
    | some b=>rw [hx] at h1 h2;simp at h1 h2;rw [h1] at h2;simp at h2;omega
  | succ fuel ih =>
    intro k li a w hmk hk hsz hli h
    have hkl:k < ops.length:=by omega
    obtain ⟨o,ho⟩ : ∃ o,ops[k]?=some o:=⟨ops[k],by simp [hkl]⟩
    have hd:ops.drop k=o :: ops.drop (k + 1):=by
      have:ops[k]=o:=by simpa [hkl] using ho
      rw [← this];exact List.drop_eq_getElem_cons hkl
    have closed:∀ i,li.getD i false=true→∀ o,ops[i]?=some o→∀ e,e ∈ o.after→Region.binds .any e=true→li.getD e.on false=true:=by
      intro i hi o' ho' e he hb
      have hil:i < ops.length:=(List.getElem?_eq_some_iff.1 ho').1
      have h1:=hli i hil
      rw [hi] at h1
      have h2:=hs i o' ho' e he hb
      have:=hli e.on (by omega)
      rw [this];simp at h1 ⊢;omega
    have hready:∀ i,i ∈ Region.ready .any ops.toArray li→i=k:=by
      intro i hi
      obtain ⟨o',ho',h1,h2⟩:=ready_spec hi
      have ho'' : ops[i]?=some o':=by simpa using ho'
      have hil:i < ops.length:=(List.getElem?_eq_some_iff.1 ho'').1
      have h3:li.getD i false=false:=by
        simp only [Array.getD_eq_getD_getElem?] at h1 ⊢
        cases hx:li[i]? with
        | none=>rfl
        | some b=>rw [hx] at h1;simpa using h1
      have hik:k≤i:=by
        have:=hli i hil;rw [h3] at this;simp at this;exact this
      rcases Nat.lt_or_ge k i with hlt | hge
      · have:=ht i (by omega) hil li closed (fun o3 ho3=>by rw [ho''] at ho3;cases ho3;exact h2) k hlt
        rw [hli k hkl] at this;simp at this
      · omega
    have hkr:k ∈ Region.ready .any ops.toArray li:=by
      unfold Region.ready
      rw [List.mem_filter]
      refine ⟨by simpa using hkl,?_⟩
      have ho' : ops.toArray[k]?=some o:=by simpa using ho
      have h1:li.getD k true=false:=by
        have:=hli k hkl
        simp only [Array.getD_eq_getD_getElem?] at this ⊢
        have hx:li[k]?=some li[k]:=by simp [hsz,hkl]
        rw [hx] at this ⊢;simpa using this
      rw [h1,ho']
      simp only [Option.map_some,Option.getD_some,Bool.not_false,Bool.true_and]
      rw [Array.all_eq_true_iff_forall_mem]
      intro e he
      cases hb:Region.binds .any e with
      | false=>rfl
      | true =>
        have:=hs k o ho e he hb
        have h2:=hli e.on (by omega)
        rw [h2];simp;omega
    refine ⟨fun he=>(by rw [he] at hkr;cases hkr),fun i hi=>?_⟩
    obtain rfl:=hready i hi
    rw [hd] at h
    refine wpOpIn_mono (fun a' w' h'=>?_) (wpOp_of_list ho h)
    refine ih (i + 1) _ a' w' (by omega) (by omega) (by simpa using hsz) (fun j hj=>?_) h'
    rw [getD_set (by omega)]
    by_cases hji:j=i
    · subst hji;simp
    · rw [if_neg hji,hli j hj];congr 1;simp;omega

def Held (pl : Plan) (A : List (List Nat)) (ops : List Oper) (Φ : List Fact) (li : Array Bool) (f' : Fr) (w' : World) (c' : Col) : Prop :=
  ∀ j,j < pl.m→li.getD j false=true→(∀ i',i' < pl.m→li.getD i' false=true→i'=j ∨ i' ∈ A.getD j [] ∨ ∀ x,x ∈ pl.K.getD j []→x ∉ pl.M.getD i' [])→(Φ.getD j trF) (f' (dstOf ops j)) w' c'

theorem WC.draw {id : Nat} (pl : Plan) (Φ : List Fact) (hmix : mixed P) (hok : pl.ok ops = true) (hNd : ((List.range pl.m).all fun i => Nat.blt (dstOf ops i) N) = true)
    (step:AllL (fun i => ∀ f' w' c',(∀ t,((List.range pl.m).map (dstOf ops)).contains t=false→f' t=f t)→St pl.MM w c w' c' →
      AllL (fun j=>(Φ.getD j trF) (f' (dstOf ops j)) w' c') (pl.need.getD i []) →
      ∀ o,ops[i]?=some o→OSG P ops o (msk D N f') w' fun v w'' => ∃ c'',St (pl.M.getD i []) w' c' w'' c''∧(Φ.getD i trF) v w'' c'') (List.range pl.m))
    (stab:AllL (fun i => ∀ v w c I w' c',(Φ.getD i trF) v w c→St I w c w' c'→(∀ x,x ∈ pl.K.getD i []→x ∉ I)→(Φ.getD i trF) v w' c') (List.range pl.m))
    (fin:∀ f' w' c',(∀ t,((List.range pl.m).map (dstOf ops)).contains t=false→f' t=f t)→St pl.MM w c w' c' →
      AllL (fun j=>(Φ.getD j trF) (f' (dstOf ops j)) w' c') pl.fin→WR P ops N D Q (ops.drop pl.m) f' w') :
    WC P N D (.region id ops.toArray true) Q f w:=by
  intro a ha
  simp only [Plan.ok,Bool.and_eq_true] at hok
  obtain ⟨⟨⟨⟨⟨⟨k1,k2⟩,k3⟩,k4⟩,k5⟩,k6⟩,_⟩:=hok
  have hm:pl.m≤ops.length:=by simpa using k1
  have hs:∀ (i:Nat) (o:Oper),ops[i]?=some o→∀ e,e ∈ o.after→Region.binds .any e=true→e.on < i:=by
    intro i o ho e he hb
    have hmem:(o,i) ∈ ops.zipIdx:=by
      rw [List.mem_zipIdx_iff_getElem?];exact ho
    have:=(Array.all_eq_true_iff_forall_mem.1 ((List.all_eq_true.1 k2) _ hmem)) e he
    simpa [hb] using this
  have hed:∀ (i:Nat) (o:Oper),ops[i]?=some o→∀ k,k ∈ edges o→∃ e,e ∈ o.after∧Region.binds .any e=true∧e.on=k:=by
    intro i o _ k hk
    unfold edges at hk
    obtain ⟨e,he,rfl⟩:=List.mem_map.1 hk
    obtain ⟨h1,h2⟩:=List.mem_filter.1 he
    exact ⟨e,by simpa using h1,h2,rfl⟩
  have hA:∀ (j:Nat) (o:Oper),ops[j]?=some o→(ancs ops []).getD j []=(edges o).flatMap fun k=>k :: (ancs ops []).getD k []:=by
    intro j o ho
    have:=ancs_new ops [] j o ho (fun k hk=>by
      obtain ⟨e,h1,h2,rfl⟩:=hed j o ho k hk
      have:=hs j o ho e h1 h2;simpa using this)
    simpa using this
  let Closed (li:Array Bool):Prop:=∀ (i:Nat),li.getD i false=true→∀ (o:Oper),ops[i]?=some o→∀ e,e ∈ o.after→Region.binds .any e=true→li.getD e.on false=true
  have anc_dir:∀ (li:Array Bool),Closed li→∀ (j:Nat) (o:Oper),ops[j]?=some o→(∀ e,e ∈ o.after→Region.binds .any e=true→li.getD e.on false=true)→∀ i,i ∈ (ancs ops []).getD j []→li.getD i false=true:=by
    intro li hcl j
    induction j using Nat.strongRecOn with
    | _ j ih =>
      intro o ho hd i hi
      rw [hA j o ho] at hi
      obtain ⟨k,hk,hi⟩:=List.mem_flatMap.1 hi
      obtain ⟨e,h1,h2,rfl⟩:=hed j o ho k hk
      have hek:=hd e h1 h2
      rcases List.mem_cons.1 hi with rfl | hi
      · exact hek
      · have hlt:=hs j o ho e h1 h2
        have hjl:j < ops.length:=(List.getElem?_eq_some_iff.1 ho).1
        obtain ⟨o',ho'⟩ : ∃ o',ops[e.on]?=some o':=⟨ops[e.on]'(by omega),by simp⟩
        exact ih e.on hlt o' ho' (hcl _ hek o' ho') i hi
  have ht:∀ j,pl.m≤j→j < ops.length→∀ li:Array Bool,Closed li →
      (∀ (o:Oper),ops[j]?=some o→∀ e,e ∈ o.after→Region.binds .any e=true→li.getD e.on false=true)→∀ i,i < j→li.getD i false=true:=by
    intro j hj hjl li hcl hd i hi
    have h1:=(List.all_eq_true.1 k3) j (by simpa using hjl)
    have hnb:Nat.blt j pl.m=false:=by
      cases hb:Nat.blt j pl.m with
      | false=>rfl
      | true=>have:=(by simpa using hb:j < pl.m);omega
    rw [hnb,Bool.false_or] at h1
    have h2:=(List.all_eq_true.1 h1) i (by simpa using hi)
    obtain ⟨o,ho⟩ : ∃ o,ops[j]?=some o:=⟨ops[j],by simp [hjl]⟩
    exact anc_dir li hcl j o ho (hd o ho) i (by simpa using h2)
  have hdst:∀ (i:Nat),i < pl.m→∀ (o:Oper),ops[i]?=some o→o.dst=some (dstOf ops i):=by
    intro i hi o ho
    have h1:=(List.all_eq_true.1 k4) i (by simpa using hi)
    simp only [Bool.and_eq_true] at h1
    have h2:=h1.1.1
    unfold dstOf
    rw [ho] at h2 ⊢
    simp only [Option.bind_some] at h2 ⊢
    obtain ⟨d,hd⟩:=Option.isSome_iff_exists.1 h2
    rw [hd];rfl
  have hdne:∀ (i j:Nat),i < pl.m→j < pl.m→i ≠ j→dstOf ops i ≠ dstOf ops j:=by
    intro i j hi hj hij e
    have h1:=(List.all_eq_true.1 ((List.all_eq_true.1 k6) i (by simpa using hi))) j (by simpa using hj)
    simp [e,hij] at h1
  -- the draw,then every order
  refine wpIn_region_any (P:=P) hmix ?_
  suffices key:∀ (fuel:Nat) (li:Array Bool) (a:Act) (f' : Fr) (w' : World) (c' : Col),fuel + cnt ops.length li=ops.length→li.size=ops.length→Closed li →
      (∀ j,pl.m≤j→li.getD j false=false)→At N D a f'→(∀ t,((List.range pl.m).map (dstOf ops)).contains t=false→f' t=f t)→St pl.MM w c w' c' →
      Held pl (ancs ops []) ops Φ li f' w' c'→wpAnyIn (FR D.rd) 0 P .any ops.toArray (lift N D Q) fuel li a w' by
    have h0:∀ i,(Array.replicate ops.toArray.size false).getD i false=false:=fun i=>by
      simp only [Array.getD_eq_getD_getElem?,Array.getElem?_replicate];split <;> rfl
    have hc0:cnt ops.length (Array.replicate ops.toArray.size false)=0:=by
      unfold cnt;simp only [h0];simp
    have:=key ops.length (Array.replicate ops.toArray.size false) a f { w with drawn:=w.drawn + 1 } c (by rw [hc0];rfl) (by simp) (fun i hi=>by rw [h0] at hi;cases hi)
      (fun j _=>h0 j) ha (fun _ _=>rfl) (St.drew.mono (by simp)) (fun j _ hj=>by rw [h0] at hj;cases hj)
    simpa using this
  intro fuel
  induction fuel with
  | zero =>
    intro li a f' w' c' hf hsz hcl htl hat hB hst hH
    have hall:=cnt_all (n:=ops.length) (li:=li) (by omega)
    have hmn:pl.m=ops.length:=by
      rcases Nat.lt_or_ge pl.m ops.length with h | h
      · have:=hall pl.m h;rw [htl pl.m (Nat.le_refl _)] at this;cases this
      · omega
    refine any_tail pl.m hs ht 0 ops.length li a w' (by omega) (by omega) hsz (fun i hi=>by rw [hall i hi];simp [hi]) ?_
    have:=fin f' w' c' hB hst (AllL.of fun j hj=>?_)
    · rw [hmn] at this;exact this a hat
    · have h1:=(List.all_eq_true.1 k5) j hj
      simp only [Bool.and_eq_true] at h1
      have hjm:j < pl.m:=by simpa using h1.1
      refine hH j hjm (hall j (by omega)) fun i' hi' _=>?_
      have h2:=(List.all_eq_true.1 h1.2) i' (by simpa using hi')
      simp only [Bool.or_eq_true,beq_iff_eq,Bool.not_eq_true',List.contains_eq_mem,decide_eq_true_eq,decide_eq_false_iff_not,List.all_eq_true] at h2
      rcases h2 with ((h2 | h2) | h2) | h2
      · exact .inl h2
      · cases h2
      · exact .inr (.inl h2)
      · exact .inr (.inr h2)
  | succ fuel ih =>
    intro li a f' w' c' hf hsz hcl htl hat hB hst hH
    by_cases hall:∀ i,i < pl.m→li.getD i false=true
    · -- the tail
      have hli:∀ i,i < ops.length→li.getD i false=decide (i < pl.m):=by
        intro i hi
        by_cases h:i < pl.m
        · rw [hall i h];simp [h]
        · rw [htl i (by omega)];simp [h]
      have hfuel:pl.m + (fuel + 1)=ops.length:=by
        have hc:cnt ops.length li=pl.m:=by
          unfold cnt
          have:((List.range ops.length).filter fun i=>li.getD i false)=List.range pl.m:=by
            have h1:((List.range ops.length).filter fun i=>li.getD i false)=(List.range ops.length).filter fun i=>decide (i < pl.m) :=
              List.filter_congr fun i hi=>hli i (by simpa using hi)
            rw [h1]
            obtain ⟨d,hd⟩:=Nat.exists_eq_add_of_le hm
            rw [hd,List.range_add,List.filter_append]
            have e1:(List.range pl.m).filter (fun i=>decide (i < pl.m))=List.range pl.m:=List.filter_eq_self.2 fun i hi=>by simpa using hi
            have e2:((List.range d).map (pl.m + ·)).filter (fun i=>decide (i < pl.m))=[]:=List.filter_eq_nil_iff.2 fun i hi=>by
              obtain ⟨k,_,rfl⟩:=List.mem_map.1 hi;simp
            rw [e1,e2,List.append_nil]
          rw [this];simp
        omega
      refine any_tail pl.m hs ht (fuel + 1) pl.m li a w' (Nat.le_refl _) hfuel hsz hli ?_
      refine fin f' w' c' hB hst (AllL.of fun j hj=>?_) a hat
      have h1:=(List.all_eq_true.1 k5) j hj
      simp only [Bool.and_eq_true] at h1
      have hjm:j < pl.m:=by simpa using h1.1
      refine hH j hjm (hall j hjm) fun i' hi' _=>?_
      have h2:=(List.all_eq_true.1 h1.2) i' (by simpa using hi')
      simp only [Bool.or_eq_true,beq_iff_eq,Bool.not_eq_true',List.contains_eq_mem,decide_eq_true_eq,decide_eq_false_iff_not,List.all_eq_true] at h2
      rcases h2 with ((h2 | h2) | h2) | h2
      · exact .inl h2
      · cases h2
      · exact .inr (.inl h2)
      · exact .inr (.inr h2)
    · -- one more of the first part
      have hlt:∀ i,i ∈ Region.ready .any ops.toArray li→i < pl.m∧li.getD i false=false∧li.getD i true=false ∧
          ∃ o,ops[i]?=some o∧∀ e,e ∈ o.after→Region.binds .any e=true→li.getD e.on false=true:=by
        intro i hi
        obtain ⟨o,ho,h1,h2⟩:=ready_spec hi
        have ho' : ops[i]?=some o:=by simpa using ho
        have hil:i < ops.length:=(List.getElem?_eq_some_iff.1 ho').1
        have h3:li.getD i false=false:=by
          simp only [Array.getD_eq_getD_getElem?] at h1 ⊢
          cases hx:li[i]? with
          | none=>rfl
          | some b=>rw [hx] at h1;simpa using h1
        refine ⟨?_,h3,h1,o,ho',h2⟩
        rcases Nat.lt_or_ge i pl.m with h | h
        · exact h
        · exact absurd (fun k hk=>ht i h hil li hcl (fun o3 ho3=>by rw [ho'] at ho3;cases ho3;exact h2) k (by omega)) hall
      refine ⟨fun he=>?_,fun i hi=>?_⟩
      · -- something is ready
        exfalso
        have:∃ i,i < pl.m∧li.getD i false=false∧∀ k,k < i→li.getD k false=true:=by
          have:∃ i,i < pl.m∧li.getD i false=false:=by
            apply Classical.byContradiction
            intro hn
            apply hall
            intro i hi
            cases h:li.getD i false with
            | true=>rfl
            | false=>exact absurd ⟨i,hi,h⟩ hn
          obtain ⟨i,hi,h⟩:=this
          induction i using Nat.strongRecOn with
          | _ i ih' =>
            by_cases hk:∀ k,k < i→li.getD k false=true
            · exact ⟨i,hi,h,hk⟩
            · have:∃ k,k < i∧li.getD k false=false:=by
                apply Classical.byContradiction
                intro hn
                apply hk
                intro k hki
                cases h:li.getD k false with
                | true=>rfl
                | false=>exact absurd ⟨k,hki,h⟩ hn
              obtain ⟨k,hki,hk⟩:=this
              exact ih' k hki (by omega) hk
        obtain ⟨i,hi,h,hmin⟩:=this
        have hil:i < ops.length:=by omega
        obtain ⟨o,ho⟩ : ∃ o,ops[i]?=some o:=⟨ops[i],by simp [hil]⟩
        have:i ∈ Region.ready .any ops.toArray li:=by
          unfold Region.ready
          rw [List.mem_filter]
          refine ⟨by simpa using hil,?_⟩
          have ho' : ops.toArray[i]?=some o:=by simpa using ho
          have h1:li.getD i true=false:=by
            simp only [Array.getD_eq_getD_getElem?] at h ⊢
            have hx:li[i]?=some li[i]:=by simp [hsz,hil]
            rw [hx] at h ⊢;simpa using h
          rw [h1,ho']
          simp only [Option.map_some,Option.getD_some,Bool.not_false,Bool.true_and]
          rw [Array.all_eq_true_iff_forall_mem]
          intro e he'
          cases hb:Region.binds .any e with
          | false=>rfl
          | true=>rw [hmin e.on (hs i o ho e he' hb)];rfl
        rw [he] at this;cases this
      · obtain ⟨him,h3,h1,o,ho,h2⟩:=hlt i hi
        have hil:i < ops.length:=by omega
        have hst':=AllL.mem step i (by simpa using him) f' w' c' hB hst (AllL.of fun j hj=>?_) o ho
        · -- the operation
          have hd:=hdst i him o ho
          have hN:=(List.all_eq_true.1 hNd) i (by simpa using him)
          have kk:=(List.all_eq_true.1 k4) i (by simpa using him)
          simp only [Bool.and_eq_true] at kk
          have next:∀ v w'' c'',St (pl.M.getD i []) w' c' w'' c''→(Φ.getD i trF) v w'' c'' →
              wpAnyIn (FR D.rd) 0 P .any ops.toArray (lift N D Q) fuel (li.setIfInBounds i true) (a.put o.dst v) w'':=by
            intro v w'' c'' s2 hv
            have hget:∀ k,(li.setIfInBounds i true).getD k false=if k=i then true else li.getD k false:=fun k=>getD_set (by omega)
            have hup:∀ t,t ≠ dstOf ops i→up f' (dstOf ops i) v t=f' t:=fun t ht'=>by simp [up,nbf ht']
            refine ih _ _ (up f' (dstOf ops i) v) w'' c'' (by rw [cnt_set hsz hil h1];omega) (by simpa using hsz) (fun k hk o' ho' e he' hb=>?_) (fun k hk=>?_) ?_ (fun t ht'=>?_) ?_ (fun k hkm hk hfree=>?_)
            · rw [hget];split
              · rfl
              · rw [hget] at hk
                split at hk
                · rename_i hki;subst hki;rw [ho] at ho';cases ho';exact h2 e he' hb
                · exact hcl k hk o' ho' e he' hb
            · rw [hget,if_neg (by omega)];exact htl k hk
            · rw [hd];exact hat.put hN v
            · rw [hup t (fun e=>?_)]
              · exact hB t ht'
              · subst e
                have:((List.range pl.m).map (dstOf ops)).contains (dstOf ops i)=true:=by
                  rw [List.contains_eq_mem];simp only [decide_eq_true_eq];exact List.mem_map.2 ⟨i,by simpa using him,rfl⟩
                rw [this] at ht';cases ht'
            · refine (hst.t s2).mono fun k hk=>?_
              rcases List.mem_append.1 hk with h | h
              · exact h
              · have:=(List.all_eq_true.1 kk.1.2) k h;simpa using this
            · by_cases hki:k=i
              · subst hki
                have:up f' (dstOf ops k) v (dstOf ops k)=v:=by simp [up]
                rw [this];exact hv
              · rw [hup _ (hdne k i hkm him hki)]
                rw [hget,if_neg hki] at hk
                have hold:=hH k hkm hk fun i' hi' hli'=>by
                  refine hfree i' hi' ?_
                  rw [hget];split
                  · rfl
                  · exact hli'
                have hkf:∀ x,x ∈ pl.K.getD k []→x ∉ pl.M.getD i []:=by
                  rcases hfree i him (by rw [hget,if_pos rfl]) with h | h | h
                  · exact absurd h.symm hki
                  · have hkl:k < ops.length:=by omega
                    obtain ⟨ok,hok'⟩ : ∃ o,ops[k]?=some o:=⟨ops[k],by simp [hkl]⟩
                    have:=anc_dir li hcl k ok hok' (hcl k hk ok hok') i h
                    rw [h3] at this;cases this
                  · exact h
                exact AllL.mem stab k (by simpa using hkm) _ _ _ _ _ _ hold s2 hkf
          have hos:∀ (q:World) ,OS P o (msk D N f') w' (fun v w'' => ∃ c'',St (pl.M.getD i []) w' c' w'' c''∧(Φ.getD i trF) v w'' c'') →
              o.wpIn (FR D.rd) 0 P a w' (wpAnyIn (FR D.rd) 0 P .any ops.toArray (lift N D Q) fuel (li.setIfInBounds i true)) (lift N D Q):=fun _ h =>
            h _ a _ _ hat.eval fun v w'' ⟨c'',s2,hv⟩=>next v w'' c'' s2 hv
          unfold wpOpIn
          have ho' : ops.toArray[i]?=some o:=by simpa using ho
          rw [ho']
          simp only
          unfold OSG at hst'
          cases hg:o.guard with
          | none =>
            rw [hg] at hst'
            rw [if_pos (by simp [Region.wanted,hg])]
            exact hos w' hst'
          | some gb =>
            obtain ⟨g,b⟩:=gb
            rw [hg] at hst'
            obtain ⟨b',hb1,hb2,hb3,hb4⟩:=hst'
            have hy:yielded ops.toArray a.tmps g=some b':=yielded_of hb2 (by rw [hat.rd];exact hb1)
            by_cases hbb:b'=b
            · subst hbb
              rw [if_pos (by simp [Region.wanted,hg,hy])]
              exact hos w' (hb3 rfl)
            · have hbn:b'=!b:=by cases b' <;> cases b <;> first | rfl | exact absurd rfl hbb
              have hw:Region.wanted o (yielded ops.toArray a.tmps)=false:=by
                unfold Region.wanted;rw [hg];simp only [hy];simpa using hbb
              rw [if_neg (by rw [hw];exact Bool.false_ne_true)]
              obtain ⟨c'',s2,hv⟩:=hb4 hbn
              exact ⟨fun _ _=>trivial,next undef w' c'' s2 hv⟩
        · have hj1:=(List.all_eq_true.1 k4) i (by simpa using him)
          simp only [Bool.and_eq_true] at hj1
          have hj2:=(List.all_eq_true.1 hj1.2) j hj
          simp only [Bool.and_eq_true,List.contains_eq_mem,decide_eq_true_eq] at hj2
          obtain ⟨⟨hj3,hj4⟩,hj5⟩:=hj2
          have hjm:j < pl.m:=by simpa using hj3
          refine hH j hjm (anc_dir li hcl i o ho h2 j hj4) fun i' hi' hli'=>?_
          have h4:=(List.all_eq_true.1 hj5) i' (by simpa using hi')
          simp only [Bool.or_eq_true,beq_iff_eq,Option.some.injEq,Bool.not_eq_true',List.contains_eq_mem,decide_eq_true_eq,decide_eq_false_iff_not,List.all_eq_true] at h4
          rcases h4 with ((h4 | h4) | h4) | h4
          · exact .inl h4
          · subst h4;rw [h3] at hli';cases hli'
          · exact .inr (.inl h4)
          · exact .inr (.inr h4)
end
end Go.Proofs.YtgmgahphjiiceaaGreat.L
