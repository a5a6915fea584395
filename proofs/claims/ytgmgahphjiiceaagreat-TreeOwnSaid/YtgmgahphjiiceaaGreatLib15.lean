/-
  Maps,as lists of pairs. No program in sight.
-/
import Derived.Test.YtgmgahphjiiceaaGreatLib14
import Derived.Maps.RangeRun
namespace Go.Proofs.YtgmgahphjiiceaaGreat.L
open Go
open Go.ChangeMaps (setBlock)
section
variable {α β κ : Type}
def All2 (R : α → β → Prop) : List α → List β → Prop
  | [],[]=>True
  | a :: as,b :: bs=>R a b∧All2 R as bs
  | _,_=>False
theorem All2.mono {R S : α → β → Prop} (h : ∀ a b, R a b → S a b) : ∀ {as : List α} {bs : List β}, All2 R as bs → All2 S as bs
  | [],[],_=>trivial
  | _ :: _,_ :: _,h1=>⟨h _ _ h1.1,h1.2.mono h⟩
  | [],_ :: _,h1=>h1.elim
  | _ :: _,[],h1=>h1.elim
theorem All2.len {R : α → β → Prop} : ∀ {as : List α} {bs : List β}, All2 R as bs → as.length = bs.length
  | [],[],_=>rfl
  | _ :: _,_ :: _,h1=>by simp [h1.2.len]
  | [],_ :: _,h1=>h1.elim
  | _ :: _,[],h1=>h1.elim
theorem All2.append {R : α → β → Prop} : ∀ {as as' : List α} {bs bs' : List β}, All2 R as bs → All2 R as' bs' → All2 R (as ++ as') (bs ++ bs')
  | [],_,[],_,_,h2=>h2
  | _ :: _,_,_ :: _,_,h1,h2=>⟨h1.1,h1.2.append h2⟩
  | [],_,_ :: _,_,h1,_=>h1.elim
  | _ :: _,_,[],_,h1,_=>h1.elim
theorem All2.get {R : α → β → Prop} : ∀ {as : List α} {bs : List β}, All2 R as bs → ∀ {i : Nat} {b : β}, bs[i]? = some b → ∃ a, as[i]? = some a ∧ R a b
  | [],[],_,i,b,h=>by simp at h
  | a :: _,_ :: _,h1,0,b,h=>by simp at h;subst h;exact ⟨a,rfl,h1.1⟩
  | _ :: as,_ :: bs,h1,i + 1,b,h=>by
    obtain ⟨a,h2,h3⟩:=h1.2.get (i:=i) (by simpa using h)
    exact ⟨a,by simpa using h2,h3⟩
  | [],_ :: _,h1,_,_,_=>h1.elim
  | _ :: _,[],h1,_,_,_=>h1.elim
theorem All2.get' {R : α → β → Prop} : ∀ {as : List α} {bs : List β}, All2 R as bs → ∀ {i : Nat} {a : α}, as[i]? = some a → ∃ b, bs[i]? = some b ∧ R a b
  | [],[],_,i,b,h=>by simp at h
  | _ :: _,b :: _,h1,0,a,h=>by simp at h;subst h;exact ⟨b,rfl,h1.1⟩
  | _ :: as,_ :: bs,h1,i + 1,a,h=>by
    obtain ⟨b,h2,h3⟩:=h1.2.get' (i:=i) (by simpa using h)
    exact ⟨b,by simpa using h2,h3⟩
  | [],_ :: _,h1,_,_,_=>h1.elim
  | _ :: _,[],h1,_,_,_=>h1.elim
theorem All2.set {R : α → β → Prop} : ∀ (n : Nat) {as : List α} {bs : List β} {a : α} {b : β}, All2 R as bs → R a b → All2 R (as.set n a) (bs.set n b)
  | _,[],[],_,_,_,_=>by simp [All2]
  | 0,_ :: _,_ :: _,_,_,h1,h=>⟨h,h1.2⟩
  | n + 1,_ :: _,_ :: _,_,_,h1,h=>⟨h1.1,All2.set n h1.2 h⟩
  | _,[],_ :: _,_,_,h1,_=>h1.elim
  | _,_ :: _,[],_,_,h1,_=>h1.elim
theorem All2.eraseIdx {R : α → β → Prop} : ∀ (n : Nat) {as : List α} {bs : List β}, All2 R as bs → All2 R (as.eraseIdx n) (bs.eraseIdx n)
  | _,[],[],_=>by simp [All2]
  | 0,_ :: _,_ :: _,h1=>h1.2
  | n + 1,_ :: _,_ :: _,h1=>⟨h1.1,All2.eraseIdx n h1.2⟩
  | _,[],_ :: _,h1=>h1.elim
  | _,_ :: _,[],h1=>h1.elim

def mget [DecidableEq κ] : List (κ × β) → κ → Option β
  | [],_=>none
  | x :: m,a=>if x.1=a then some x.2 else mget m a
def mset [DecidableEq κ] : List (κ × β) → κ → β → List (κ × β)
  | [],a,v=>[(a,v)]
  | x :: m,a,v=>if x.1=a then (a,v) :: m else x :: mset m a v
def mdel [DecidableEq κ] : List (κ × β) → κ → List (κ × β)
  | [],_=>[]
  | x :: m,a=>if x.1=a then m else x :: mdel m a
def midx [DecidableEq κ] : List (κ × β) → κ → Nat → Option Nat
  | [],_,_=>none
  | x :: m,a,i=>if x.1=a then some i else midx m a (i + 1)
theorem midx_some [DecidableEq κ] : ∀ {m : List (κ × β)} {a : κ} {i j : Nat}, midx m a i = some j → i ≤ j ∧ ∃ x, m[j - i]? = some x ∧ x.1 = a ∧ mget m a = some x.2 ∧ (∀ v, mset m a v = m.set (j - i) (a, v)) ∧ mdel m a = m.eraseIdx (j - i)
  | [],_,_,_,h=>by cases h
  | x :: m,a,i,j,h=>by
    unfold midx at h
    by_cases hx:x.1=a
    · rw [if_pos hx] at h;cases h
      exact ⟨Nat.le_refl _,x,by simp,hx,by simp [mget,hx],fun v=>by simp [mset,hx],by simp [mdel,hx]⟩
    · rw [if_neg hx] at h
      obtain ⟨h1,y,h2,h3,h4,h5,h6⟩:=midx_some h
      obtain ⟨d,rfl⟩ : ∃ d,j=i + 1 + d:=⟨j - (i + 1),by omega⟩
      rw [show i + 1 + d - (i + 1)=d by omega] at h2 h5 h6
      rw [show i + 1 + d - i=d + 1 by omega]
      exact ⟨by omega,y,by simpa using h2,h3,by simp [mget,hx,h4],fun v=>by simp [mset,hx,h5],by simp [mdel,hx,h6]⟩
theorem midx_none [DecidableEq κ] : ∀ {m : List (κ × β)} {a : κ} {i : Nat}, midx m a i = none → (∀ x ∈ m, x.1 ≠ a) ∧ mget m a = none ∧ (∀ v, mset m a v = m ++ [(a, v)]) ∧ mdel m a = m
  | [],a,_,_=>⟨fun x hx=>by simp at hx,rfl,fun _=>rfl,rfl⟩
  | x :: m,a,i,h=>by
    unfold midx at h
    by_cases hx:x.1=a
    · rw [if_pos hx] at h;cases h
    · rw [if_neg hx] at h
      obtain ⟨h1,h2,h3,h4⟩:=midx_none h
      refine ⟨fun y hy=>?_,by simp [mget,hx,h2],fun v=>by simp [mset,hx,h3],by simp [mdel,hx,h4]⟩
      rcases List.mem_cons.1 hy with rfl | hy
      · exact hx
      · exact h1 y hy
def fidx [DecidableEq κ] : List κ → κ → List MapEntry → Nat → Option (Nat × Value)
  | k :: ks,a,e :: es,i=>if k=a then some (i,e.val) else fidx ks a es (i + 1)
  | _,_,_,_=>none
structure KL (P : Program) (kt : TypeId) (kv : κ → Value) [DecidableEq κ] : Prop where
  chk:∀ (b:Bool) (a:κ) (w:World),(Instr.checkKey b 10000 kt (kv a)).run P w = .ok () w
  fnd:∀ {es:List MapEntry} {ks:List κ} (a:κ) (w:World),es.map (·.key)=ks.map kv→(Instr.findKey kt (kv a) es).run P w = .ok (fidx ks a es 0) w
  bits:∀ a,Instr.sameBits 10000 (kv a) (kv a)=true
theorem now_some [DecidableEq κ] {d : TypeDesc} {kv : κ → Value} (hs : ∀ a b, Instr.sameNow d (kv a) (kv b) = some (decide (b = a))) (a : κ) : ∀ (es : List MapEntry) (ks : List κ) (i : Nat),
    es.map (·.key)=ks.map kv→Instr.findNow d (kv a) es i=some (fidx ks a es i)
  | [],[],i,_=>by simp [Instr.findNow,fidx]
  | e :: es,k :: ks,i,h=>by
    simp only [List.map_cons,List.cons.injEq] at h
    have ih:=now_some hs a es ks (i + 1) h.2
    simp only [Instr.findNow,h.1,hs,fidx]
    by_cases hk:k=a
    · simp [hk]
    · simp [hk,ih]
  | [],_ :: _,_,h=>by simp at h
  | _ :: _,[],_,h=>by simp at h
theorem KL.now [DecidableEq κ] {P : Program} {kt : TypeId} {kv : κ → Value} {d : TypeDesc} (ht : P.underlying kt = some d) (hc : ∀ (b : Bool) (a : κ) (w : World), (Instr.checkKey b 10000 kt (kv a)).run P w = .ok () w)
    (hs:∀ a b,Instr.sameNow d (kv a) (kv b)=some (decide (b=a))) (hb:∀ a,Instr.sameBits 10000 (kv a) (kv a)=true):KL P kt kv :=
  ⟨hc,fun {es ks} a w h=>by
    unfold Instr.findKey
    simp only [Sem.run_bind,run_underlying ht,Result.andThen_ok,now_some hs a es ks 0 h,Sem.run_pure],hb⟩
theorem fidx_midx [DecidableEq κ] {R : MapEntry → κ × β → Prop} (a : κ) : ∀ (es : List MapEntry) (m : List (κ × β)) (i : Nat), All2 R es m →
    fidx (m.map (·.1)) a es i=(midx m a i).bind fun j=>(es[j - i]?).map fun e=>(j,e.val)
  | [],[],i,_=>by simp [fidx,midx]
  | e :: es,x :: m,i,h=>by
    have ih:=fidx_midx a es m (i + 1) h.2
    simp only [List.map_cons,fidx,midx]
    by_cases hk:x.1=a
    · simp [hk]
    · simp only [hk,if_false,ih]
      cases hm:midx m a (i + 1) with
      | none=>rfl
      | some j =>
        have:=(midx_some hm).1
        simp only [Option.bind_some]
        rw [show j - i=j - (i + 1) + 1 by omega,List.getElem?_cons_succ]
  | [],_ :: _,_,h=>h.elim
  | _ :: _,[],_,h=>h.elim
structure VR (β : Type) where
  r:World→Col→Value→β→Prop
  keep:∀ {I:List Nat} {w w' : World} {c c' : Col} {v:Value} {x:β},r w c v x→St I w c w' c'→1 ∉ I→r w' c' v x
abbrev VR.flat (e : β → Value) : VR β := ⟨fun _ _ v x => v = e x, fun h _ _ => h⟩
def Ent (kv : κ → Value) (V : VR β) (w : World) (c : Col) (e : MapEntry) (x : κ × β) : Prop := e.key = kv x.1 ∧ V.r w c e.val x.2
def Mp (kv : κ → Value) (V : VR β) (i : Nat) (w : World) (c : Col) (v : Value) (m : List (κ × β)) : Prop :=
  ∃ b es clock,v = .map (some b)∧c b=i∧w.heap[b]?=some (.map es clock)∧All2 (Ent kv V w c) es.toList m∧(∀ e ∈ es.toList,e.born < clock)∧(es.toList.map (·.born)).Nodup∧(m.map (·.1)).Nodup
end
section
variable {β κ : Type} [DecidableEq κ] {kv : κ → Value} {V : VR β} {P : Program} {f : Fr} {w w' : World} {c c' : Col} {o : Oper} {R : Value → World → Prop} {x y z : Operand} {v u p : Value} {i : Nat} {m : List (κ × β)} {kt et mt : TypeId} {a : κ}
omit [DecidableEq κ] in
theorem Mp.keep {I : List Nat} (h : Mp kv V i w c v m) (s : St I w c w' c') (hi : i ∉ I := by decide) (h1 : 1 ∉ I := by decide) : Mp kv V i w' c' v m := by
  obtain ⟨b,es,clock,h2,h3,h4,h5,h6,h7,h8⟩:=h
  have hb:=blk_lt h4
  have hn:c b ∉ I:=by rw [h3];exact hi
  exact ⟨b,es,clock,h2,by rw [s.col b hb hn,h3],by rw [s.blk b hb hn,h4],h5.mono fun e x ⟨e1,e2⟩=>⟨e1,V.keep e2 s h1⟩,h6,h7,h8⟩
omit [DecidableEq κ] in
theorem keys_of {es : List MapEntry} : ∀ {m : List (κ × β)}, All2 (Ent kv V w c) es m → es.map (·.key) = (m.map (·.1)).map kv := by
  induction es with
  | nil=>intro m h;cases m with
    | nil=>rfl
    | cons _ _=>exact h.elim
  | cons e es ih=>intro m h;cases m with
    | nil=>exact h.elim
    | cons x m=>simp [ih h.2,h.1.1]
theorem Mp.find {es : List MapEntry} (h : All2 (Ent kv V w c) es m) (K : KL P kt kv) (a : κ) (w1 : World) :
    (midx m a 0=none∧(Instr.findKey kt (kv a) es).run P w1 = .ok none w1) ∨
    ∃ j e x,midx m a 0=some j∧es[j]?=some e∧m[j]?=some x∧x.1=a∧e.key=kv a∧V.r w c e.val x.2∧(Instr.findKey kt (kv a) es).run P w1 = .ok (some (j,e.val)) w1:=by
  have h1:=K.fnd a w1 (keys_of h)
  rw [fidx_midx a es m 0 h] at h1
  cases hm:midx m a 0 with
  | none=>left;rw [hm] at h1;exact ⟨rfl,h1⟩
  | some j =>
    right
    obtain ⟨_,x,h2,h3,_⟩:=midx_some hm
    rw [Nat.sub_zero] at h2
    obtain ⟨e,h4,h5,h6⟩:=h.get h2
    rw [hm] at h1
    simp only [Option.bind_some,Nat.sub_zero,h4,Option.map_some] at h1
    exact ⟨j,e,x,rfl,h4,h2,h3,by rw [h5,h3],h6,h1⟩
theorem Mp.look (h : Mp kv V i w c v m) (K : KL P kt kv) (ht : P.underlying mt = some (.map kt et)) (a : κ) {zv : Value} {zx : β} (hz : (zeroValue et).run P w = .ok zv w) (hzr : V.r w c zv zx) (ok : Bool) :
    ∃ u,(Instr.lookup mt v (kv a) ok).run P w = .ok (if ok then .tuple #[u,.bool (mget m a).isSome] else u) w∧V.r w c u ((mget m a).getD zx):=by
  obtain ⟨b,es,clock,rfl,h3,h4,h5,h6,h7,h8⟩:=h
  have hg:(getObj b).run P w = .ok (.map es clock) w:=by simp [getObj,Sem.run,h4]
  rcases Mp.find h5 K a w with ⟨hm,hr⟩ | ⟨j,e,x,hm,he,hx,hxa,hek,hv,hr⟩
  · obtain ⟨_,hg2,_⟩:=midx_none hm
    refine ⟨zv,?_,by rw [hg2];exact hzr⟩
    unfold Instr.lookup
    simp only [Sem.run_bind,run_underlying ht,Result.andThen_ok,hg,Sem.run_pure,K.chk,hr,hz,hg2]
    cases ok <;> rfl
  · obtain ⟨_,y,hy,hya,hg2,_⟩:=midx_some hm
    rw [Nat.sub_zero,hx] at hy;cases hy
    refine ⟨e.val,?_,by rw [hg2];exact hv⟩
    unfold Instr.lookup
    simp only [Sem.run_bind,run_underlying ht,Result.andThen_ok,hg,Sem.run_pure,K.chk,hr,hg2]
    cases ok <;> rfl
theorem St.setBlock {b : Nat} {o' : Obj} (hc : c b = i) : St [i] w c (setBlock w b o') c :=
  ⟨rfl,rfl,rfl,by simp [Go.ChangeMaps.setBlock],fun _ _ _=>rfl,fun k _ hn=>by
    have:b ≠ k:=fun e=>hn (by simp [← e,hc])
    simp [Go.ChangeMaps.setBlock,this]⟩
theorem run_setMap {b : Nat} {es : Array MapEntry} {clock : Nat} (hb : w.heap[b]? = some (.map es clock)) (o' : Obj) : (setObj b o').run P w = .ok () (setBlock w b o') := by
  simp [setObj,Sem.run,hb,Go.ChangeMaps.setBlock]
theorem modify_set {es : Array MapEntry} {j : Nat} {g : MapEntry → MapEntry} {e : MapEntry} (he : es.toList[j]? = some e) : (es.modify j g).toList = es.toList.set j (g e) := by
  apply List.ext_getElem?
  intro k
  rw [Array.getElem?_toList,Array.getElem?_modify,List.getElem?_set,← Array.getElem?_toList]
  have hl:j < es.toList.length:=by
    rcases Nat.lt_or_ge j es.toList.length with h | h
    · exact h
    · rw [List.getElem?_eq_none h] at he;cases he
  by_cases hk:j=k
  · subst hk;simp [he];simpa using hl
  · simp [hk]
omit [DecidableEq κ] in
theorem nodup_set_key {m : List (κ × β)} {j : Nat} {x : κ × β} {v : β} (hx : m[j]? = some x) (h : (m.map (·.1)).Nodup) : ((m.set j (x.1, v)).map (·.1)).Nodup := by
  have:(m.set j (x.1,v)).map (·.1)=m.map (·.1):=by
    rw [List.map_set]
    apply List.ext_getElem?
    intro k
    rw [List.getElem?_set]
    by_cases hk:j=k
    · subst hk
      have hl:j < m.length:=by
        rcases Nat.lt_or_ge j m.length with h | h
        · exact h
        · rw [List.getElem?_eq_none h] at hx;cases hx
      simp [hl,(List.getElem?_eq_some_iff.1 hx).2]
    · simp [hk]
  rw [this];exact h
theorem Mp.upd (h : Mp kv V i w c v m) (K : KL P kt kv) (ht : P.underlying mt = some (.map kt et)) (a : κ) {u : Value} {q : β} (hu : V.r w c u q) (hi : i ≠ 1) :
    ∃ w',(Instr.mapUpdate mt v (kv a) u).run P w = .ok () w'∧Mp kv V i w' c v (mset m a q)∧St [i] w c w' c:=by
  obtain ⟨b,es,clock,rfl,h3,h4,h5,h6,h7,h8⟩:=h
  have hg:(getObj b).run P w = .ok (.map es clock) w:=by simp [getObj,Sem.run,h4]
  have hin:(1:Nat) ∉ [i]:=by simp;omega
  rcases Mp.find h5 K a w with ⟨hm,hr⟩ | ⟨j,e,x,hm,he,hx,hxa,hek,hv,hr⟩
  · obtain ⟨hne,_,hs,_⟩:=midx_none hm
    have st:St [i] w c (setBlock w b (.map (es.push { key:=kv a,val:=u,born:=clock }) (clock + 1))) c:=St.setBlock h3
    refine ⟨_,?_,⟨b,_,_,rfl,h3,Go.ChangeMaps.heap_setBlock_same h4 _,?_,?_,?_,?_⟩,st⟩
    · unfold Instr.mapUpdate
      simp only [Sem.run_bind,run_underlying ht,Result.andThen_ok,hg,K.chk,hr,run_setMap h4]
    · rw [hs,Array.toList_push]
      exact (h5.mono fun e x ⟨e1,e2⟩=>⟨e1,V.keep e2 st hin⟩).append ⟨⟨rfl,V.keep hu st hin⟩,trivial⟩
    · intro e he
      rw [Array.toList_push,List.mem_append] at he
      rcases he with he | he
      · have:=h6 e he;omega
      · simp at he;subst he;simp
    · rw [Array.toList_push,List.map_append,List.nodup_append]
      refine ⟨h7,by simp,fun x hx y hy=>?_⟩
      simp at hy;subst hy
      obtain ⟨e,he,rfl⟩:=List.mem_map.1 hx
      have:=h6 e he;omega
    · rw [hs,List.map_append,List.nodup_append]
      refine ⟨h8,by simp,fun x hx y hy=>?_⟩
      simp at hy;subst hy
      obtain ⟨e,he,rfl⟩:=List.mem_map.1 hx
      exact hne e he
  · obtain ⟨_,y,hy,hya,_,hs,_⟩:=midx_some hm
    rw [Nat.sub_zero] at hy hs
    have st:St [i] w c (setBlock w b (.map (es.modify j fun e => { e with key:=kv a,val:=u }) clock)) c:=St.setBlock h3
    have hks:(Instr.keyThatStays (((es[j]?).map (·.key)).getD (kv a)) (kv a)).run P w = .ok (kv a) w:=by
      rw [show es[j]?=some e by rw [← Array.getElem?_toList];exact he]
      simp only [Option.map_some,Option.getD_some,hek]
      unfold Instr.keyThatStays
      rw [if_pos (K.bits a)];rfl
    have hml:=modify_set (g:=fun e => { e with key:=kv a,val:=u }) he
    refine ⟨_,?_,⟨b,_,_,rfl,h3,Go.ChangeMaps.heap_setBlock_same h4 _,?_,?_,?_,?_⟩,st⟩
    · unfold Instr.mapUpdate
      simp only [Sem.run_bind,run_underlying ht,Result.andThen_ok,hg,K.chk,hr,hks,run_setMap h4]
    · rw [hs,hml]
      exact (h5.mono fun e x ⟨e1,e2⟩=>⟨e1,V.keep e2 st hin⟩).set j ⟨rfl,V.keep hu st hin⟩
    · intro e1 he1
      rw [hml] at he1
      rcases List.mem_or_eq_of_mem_set he1 with h | h
      · exact h6 e1 h
      · rw [h];exact h6 e (List.mem_of_getElem? he)
    · have:(es.toList.set j { e with key:=kv a,val:=u }).map (·.born)=es.toList.map (·.born):=by
        rw [List.map_set]
        apply List.ext_getElem?
        intro k
        rw [List.getElem?_set]
        by_cases hk:j=k
        · subst hk
          have hl:j < es.toList.length:=(List.getElem?_eq_some_iff.1 he).1
          rw [if_pos rfl,if_pos (by simpa using hl),List.getElem?_map,he];rfl
        · rw [if_neg hk]
      rw [hml,this];exact h7
    · rw [hs,← hxa];exact nodup_set_key hx h8
theorem Mp.del (h : Mp kv V i w c v m) (K : KL P kt kv) (ht : P.underlying mt = some (.map kt et)) (a : κ) (ty : TypeId) (hi : i ≠ 1) :
    ∃ w',(Builtin.delete_ #[mt,kt] ty #[v,kv a]).run P w = .ok (.tuple #[]) w'∧Mp kv V i w' c v (mdel m a)∧St [i] w c w' c:=by
  obtain ⟨b,es,clock,rfl,h3,h4,h5,h6,h7,h8⟩:=h
  have hg:(getObj b).run P w = .ok (.map es clock) w:=by simp [getObj,Sem.run,h4]
  have hin:(1:Nat) ∉ [i]:=by simp;omega
  rcases Mp.find h5 K a w with ⟨hm,hr⟩ | ⟨j,e,x,hm,he,hx,hxa,hek,hv,hr⟩
  · obtain ⟨_,_,_,hd⟩:=midx_none hm
    have st:St [i] w c (setBlock w b (.map es clock)) c:=St.setBlock h3
    refine ⟨_,?_,⟨b,_,_,rfl,h3,Go.ChangeMaps.heap_setBlock_same h4 _,?_,h6,h7,by rw [hd];exact h8⟩,st⟩
    · unfold Builtin.delete_
      simp only [List.getElem?_toArray,List.getElem?_cons_zero,List.getElem?_cons_succ,Sem.run_bind,run_underlying ht,Result.andThen_ok,hg,Sem.run_pure,K.chk,hr,run_setMap h4]
    · rw [hd];exact h5.mono fun e x ⟨e1,e2⟩=>⟨e1,V.keep e2 st hin⟩
  · obtain ⟨_,y,hy,hya,_,_,hd⟩:=midx_some hm
    rw [Nat.sub_zero] at hy hd
    have st:St [i] w c (setBlock w b (.map (es.eraseIdxIfInBounds j) clock)) c:=St.setBlock h3
    have hl:j < es.toList.length:=(List.getElem?_eq_some_iff.1 he).1
    have hel:(es.eraseIdxIfInBounds j).toList=es.toList.eraseIdx j:=by
      unfold Array.eraseIdxIfInBounds
      rw [dif_pos (by simpa using hl),Array.toList_eraseIdx]
    refine ⟨_,?_,⟨b,_,_,rfl,h3,Go.ChangeMaps.heap_setBlock_same h4 _,?_,?_,?_,?_⟩,st⟩
    · unfold Builtin.delete_
      simp only [List.getElem?_toArray,List.getElem?_cons_zero,List.getElem?_cons_succ,Sem.run_bind,run_underlying ht,Result.andThen_ok,hg,Sem.run_pure,K.chk,hr,run_setMap h4]
    · rw [hd,hel];exact (h5.mono fun e x ⟨e1,e2⟩=>⟨e1,V.keep e2 st hin⟩).eraseIdx j
    · intro e1 he1;rw [hel] at he1;exact h6 e1 ((List.eraseIdx_sublist _ _).subset he1)
    · rw [hel];exact h7.sublist ((List.eraseIdx_sublist _ _).map _)
    · rw [hd];exact h8.sublist ((List.eraseIdx_sublist _ _).map _)
end
end Go.Proofs.YtgmgahphjiiceaaGreat.L
