/-
  A map turned at the key at hand while it is gone through. No program in sight.
-/
import Derived.Test.YtjgbakieogadfaaGreatDoorLib19
namespace Go.Proofs.YtjgbakieogadfaaGreatDoor.L
open Go
open Go.ChangeMaps (setBlock)
section
variable {β κ : Type} [DecidableEq κ] {kv : κ → Value} {V : VR β} {P : Program} {f : Fr} {w w' : World} {c c' : Col} {o : Oper} {R : Value → World → Prop} {x y z : Operand} {v u p : Value} {i j : Nat} {m left : List (κ × β)} {kt et mt : TypeId} {a : κ}
theorem filter_set_seen {g : MapEntry → Bool} : ∀ (L : List MapEntry) (k : Nat) (e e' : MapEntry), L[k]? = some e → g e = false → g e' = false → (L.set k e').filter g = L.filter g
  | [],k,e,_,h,_,_=>by simp at h
  | y :: L,0,e,e',h,hg,hg'=>by
    simp at h;subst h
    rw [List.set_cons_zero,List.filter_cons_of_neg (by simp [hg']),List.filter_cons_of_neg (by simp [hg])]
  | y :: L,k + 1,e,e',h,hg,hg'=>by
    rw [List.set_cons_succ,List.filter_cons,List.filter_cons,filter_set_seen L k e e' (by simpa using h) hg hg']
theorem MpI.upd (h : MpI kv V i j w c v p m left) (K : KL P kt kv) (ht : P.underlying mt = some (.map kt et)) (a : κ) {q : β} (ha : a ∉ left.map (·.1)) (hp : (mget m a).isSome = true) (hu : V.r w c u q) (hi : i ≠ 1) :
    ∃ w',(Instr.mapUpdate mt v (kv a) u).run P w = .ok () w'∧MpI kv V i j w' c v p (mset m a q) left∧St [i] w c w' c:=by
  obtain ⟨b,es,clock,r,seen,rfl,rfl,hb,hr,h6,h7,h8,h9,h10,h11,h12⟩:=h
  have hg:(getObj b).run P w = .ok (.map es clock) w:=by simp [getObj,Sem.run,h6]
  have hin:(1:Nat) ∉ [i]:=by simp;omega
  have hne:r ≠ b:=by intro e1;rw [e1,h6] at h7;cases h7
  have hinj:=kv_inj K
  rcases Mp.find h8 K a w with ⟨hm,hrun⟩ | ⟨k,e,x,hm,he,hx,hxa,hek,hv,hrun⟩
  · obtain ⟨_,hgn,_⟩:=midx_none hm
    rw [hgn] at hp;cases hp
  · obtain ⟨_,y,hy,hya,_,hs,_⟩:=midx_some hm
    rw [Nat.sub_zero] at hy hs
    have hks:(Instr.keyThatStays (((es[k]?).map (·.key)).getD (kv a)) (kv a)).run P w = .ok (kv a) w:=by
      rw [show es[k]?=some e by rw [← Array.getElem?_toList];exact he]
      simp only [Option.map_some,Option.getD_some,hek]
      unfold Instr.keyThatStays
      rw [if_pos (K.bits a)];rfl
    have st:St [i] w c (setBlock w b (.map (es.modify k fun e => { e with key:=kv a,val:=u }) clock)) c:=St.setBlock hb
    have hml:=modify_set (g:=fun e => { e with key:=kv a,val:=u }) he
    have hseen:seen.contains e.born=true:=by
      cases hs:seen.contains e.born with
      | true=>rfl
      | false =>
        have hmem:e ∈ (leftOf es seen).toList:=by
          unfold leftOf;rw [Array.toList_filter,List.mem_filter]
          exact ⟨List.mem_of_getElem? he,by rw [hs];rfl⟩
        obtain ⟨n,hn⟩:=List.getElem?_of_mem hmem
        obtain ⟨z,hz,hzk,_⟩:=h9.get' hn
        have:z.1=a:=hinj _ _ (hzk.symm.trans hek)
        exact absurd (List.mem_map.2 ⟨z,List.mem_of_getElem? hz,this⟩) ha
    have hleft:(leftOf (es.modify k fun e => { e with key:=kv a,val:=u }) seen).toList=(leftOf es seen).toList:=by
      unfold leftOf
      rw [Array.toList_filter,Array.toList_filter,hml]
      exact filter_set_seen es.toList k e _ he (by rw [hseen];rfl) (by rw [hseen];rfl)
    refine ⟨_,?_,⟨b,_,clock,r,seen,rfl,rfl,hb,hr,Go.ChangeMaps.heap_setBlock_same h6 _,by rw [Go.ChangeMaps.heap_setBlock_other h6 _ hne];exact h7,?_,?_,?_,?_,?_⟩,st⟩
    · unfold Instr.mapUpdate
      simp only [Sem.run_bind,run_underlying ht,Result.andThen_ok,hg,K.chk,hrun,hks,run_setMap h6]
    · rw [hs,hml]
      exact (h8.mono fun e x ⟨e1,e2⟩=>⟨e1,V.keep e2 st hin⟩).set k ⟨rfl,V.keep hu st hin⟩
    · rw [hleft];exact h9.mono fun e x ⟨e1,e2⟩=>⟨e1,V.keep e2 st hin⟩
    · intro e1 he1
      rw [hml] at he1
      rcases List.mem_or_eq_of_mem_set he1 with h | h
      · exact h10 e1 h
      · rw [h];exact h10 e (List.mem_of_getElem? he)
    · have:(es.toList.set k { e with key:=kv a,val:=u }).map (·.born)=es.toList.map (·.born):=by
        rw [List.map_set]
        apply List.ext_getElem?
        intro n
        rw [List.getElem?_set]
        by_cases hn:k=n
        · subst hn
          have hl:k < es.toList.length:=(List.getElem?_eq_some_iff.1 he).1
          rw [if_pos rfl,if_pos (by simpa using hl),List.getElem?_map,he];rfl
        · rw [if_neg hn]
      rw [hml,this];exact h11
    · rw [hs,← hxa];exact nodup_set_key hx h12
theorem OS.mapUpdI {q : β} (ho : o.op = .mapUpdate mt x y z ∨ o.op = .insert mt x y z) (K : KL P kt kv) (ht : P.underlying mt = some (.map kt et)) (hx : ev f x = v) (hy : ev f y = kv a) (hz : ev f z = u)
    (hm:MpI kv V i j w c v p m left) (ha:a ∉ left.map (·.1)) (hp:(mget m a).isSome=true) (hu:V.r w c u q) (hi:i ≠ 1) (h:∀ w',MpI kv V i j w' c v p (mset m a q) left→St [i] w c w' c→R undef w'):OS P o f w R:=by
  obtain ⟨w',hr,h1,h2⟩:=hm.upd K ht a ha hp hu hi
  refine OS.skip (w':=w') ?_ (h w' h1 h2)
  unfold execOp
  rcases ho with ho | ho <;> (rw [ho];simp only [hx,hy,hz,Sem.run_bind,hr,Result.andThen_ok];rfl)
omit [DecidableEq κ] in
theorem MpI.isMap (h : MpI kv V i j w c v p m left) : ∃ b, v = .map (some b) := by
  obtain ⟨b,_,_,_,_,h1,_⟩:=h;exact ⟨b,h1⟩
end
section
variable {α : Type} {E : Enc α} {P : Program} {f : Fr} {w : World} {c d : Col} {o : Oper} {R : Value → World → Prop} {x : Operand} {p q r v : Value} {i j : Nat} {xs : List α}
theorem OS.callClo {k : FuncId} {ys : List Operand} {vs cs : List Value} {ts : Array TypeId} (ho : o.op = .call { callee := .value x, args := ys.toArray, argTypes := ts }) (hx : ev f x = .func (.func k) #[] cs.toArray) (hp : PA f ys vs)
    (hk:∀ args w,(callFunc k args).run P w = .ok (.enter k args) w) (h:Calls P k (vs++cs).toArray w fun e w'' => ∃ v,e = .returned v∧R v w''):OS P o f w R :=
  OS.call (args:=(vs++cs).toArray) (w':=w) (by
    unfold execOp;rw [ho]
    have:(ys.toArray.map (ev f))=vs.toArray:=by rw [List.map_toArray,hp.map]
    simp only [resolve,this,Sem.run_bind,hx,Deferred.ofValue,Sem.run_pure,Result.andThen_ok,invoke]
    simp [hk]) h
theorem AdrP.z {s k : Nat} (h : Adr v k s p) : AdrP p 0 1 p := by
  obtain ⟨b,o,n,cap,_,rfl⟩:=h
  exact ⟨b,_,rfl,by simp⟩
theorem OS.fieldAddrP {t : TypeId} {k n j : Nat} {fs : Array Field} {fd : Field} (ho : o.op = .fieldAddr t x k) (ht : ∀ w, (underlying t).run P w = .ok (.struct fs) w) (hf : fs[k]? = some fd)
    (hs:∀ w,(sizeOf fd.type).run P w = .ok n w) (hn:(n == 0)=false) (hx:ev f x=q) (hp:AdrP p j 1 q) (h:∀ r,AdrP p (j + fd.offset) 1 r→R r w):OS P o f w R:=by
  obtain ⟨b,off,rfl,rfl⟩:=hp
  refine OS.fieldAddr ho ht hf hs hn hx rfl fun r hr=>h r ?_
  obtain ⟨b',o',e,rfl⟩:=hr
  cases e
  exact ⟨b,off,rfl,by simp [Nat.add_assoc]⟩
end
end Go.Proofs.YtjgbakieogadfaaGreatDoor.L
