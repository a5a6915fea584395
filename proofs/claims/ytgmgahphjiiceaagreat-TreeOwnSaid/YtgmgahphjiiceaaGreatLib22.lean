/-
  A region that draws its order: as 'WC.draw2',what has been turned so far told more closely. No program in sight.
-/
import Derived.Test.YtgmgahphjiiceaaGreatLib21
namespace Go.Proofs.YtgmgahphjiiceaaGreat.L
open Go
def Plan.ok3 (pl : Plan) (PR T : List (List Nat)) (ops : List Oper) : Bool :=
  let A:=ancs ops []
  Nat.ble pl.m ops.length &&
  (ops.zipIdx.all fun (o,i)=>o.after.all fun e => !Region.binds .any e || Nat.blt e.on i) &&
  ((List.range ops.length).all fun j=>Nat.blt j pl.m || (List.range j).all fun i=>(A.getD j []).contains i) &&
  ((List.range pl.m).all fun i=>((T.getD i []).all fun t=>(i :: (A.getD i [])).any fun j=>Nat.blt j pl.m && dstO ops j == some t) && (pl.M.getD i []).all (pl.MM.contains ·) &&
    (pl.need.getD i []).all fun j=>Nat.blt j pl.m && (A.getD i []).contains j && ((List.range pl.m).all fun i'=>i' == j || i' == i || (A.getD j []).contains i' || (A.getD i' []).contains i || (pl.K.getD j []).all fun x => !(pl.M.getD i' []).contains x)) &&
  (pl.fin.all fun j=>Nat.blt j pl.m && pl.free A j none) &&
  ((List.range pl.m).all fun i=>(List.range pl.m).all fun j=>i == j || dstO ops i == none || dstO ops i != dstO ops j) &&
  ((List.range pl.m).all fun i=>(List.range pl.m).all fun i'=>i' == i || (A.getD i' []).contains i || (pl.M.getD i' []).all ((PR.getD i []).contains ·))
section
variable {P : Program} {N : Nat} {D : Cx} {f : Fr} {w : World} {c : Col} {ops rest : List Oper} {o : Oper} {Q : Exit → Fr → World → Prop}
theorem WC.draw3 {id : Nat} (pl : Plan) (PR : List (List Nat)) (T : List (List Nat)) (Φ : List FactF) (hmix : mixed P) (hok : pl.ok3 PR T ops = true) (hNd : ((List.range pl.m).all fun i => match dstO ops i with | some d => Nat.blt d N | none => true) = true)
    (step:AllL (fun i => ∀ f' w' c',(∀ t,((List.range pl.m).map (dstO ops)).contains (some t)=false→f' t=f t)→St (PR.getD i []) w c w' c' →
      AllL (fun j=>(Φ.getD j trFF) f' w' c') (pl.need.getD i []) →
      ∀ o,ops[i]?=some o→OSG P ops o (msk D N f') w' fun v w'' => ∃ c'',St (pl.M.getD i []) w' c' w'' c''∧(Φ.getD i trFF) (upO f' (dstO ops i) v) w'' c'') (List.range pl.m))
    (stab:AllL (fun i => ∀ (f1 f2:Fr) w c I w' c',(Φ.getD i trFF) f1 w c→AllL (fun t=>f2 t=f1 t) (T.getD i [])→St I w c w' c'→(∀ x,x ∈ pl.K.getD i []→x ∉ I)→(Φ.getD i trFF) f2 w' c') (List.range pl.m))
    (fin:∀ f' w' c',(∀ t,((List.range pl.m).map (dstO ops)).contains (some t)=false→f' t=f t)→St pl.MM w c w' c' →
      AllL (fun j=>(Φ.getD j trFF) f' w' c') pl.fin→WR P ops N D Q (ops.drop pl.m) f' w') :
    WC P N D (.region id ops.toArray true) Q f w:=by
  intro a ha
  simp only [Plan.ok3,Bool.and_eq_true] at hok
  obtain ⟨⟨⟨⟨⟨⟨k1,k2⟩,k3⟩,k4⟩,k5⟩,k6⟩,k7⟩:=hok
  have hm:pl.m≤ops.length:=by simpa using k1
  have hs:∀ (i:Nat) (o:Oper),ops[i]?=some o→∀ e,e ∈ o.after→Region.binds .any e=true→e.on < i:=by
    intro i o ho e he hb
    have hmem:(o,i) ∈ ops.zipIdx:=by
      rw [List.mem_zipIdx_iff_getElem?];exact ho
    have:=(Array.all_eq_true_iff_forall_mem.1 ((List.all_eq_true.1 k2) _ hmem)) e he
    simpa [hb] using this
  have hed:∀ (i:Nat) (o:Oper),ops[i]?=some o→∀ k,k ∈ edges o→∃ e,e ∈ o.after∧Region.binds .any e=true∧e.on=k:=by
    intro i o _ k hk
    unfold edges at hk
    obtain ⟨e,he,rfl⟩:=List.mem_map.1 hk
    obtain ⟨h1,h2⟩:=List.mem_filter.1 he
    exact ⟨e,by simpa using h1,h2,rfl⟩
  have hA:∀ (j:Nat) (o:Oper),ops[j]?=some o→(ancs ops []).getD j []=(edges o).flatMap fun k=>k :: (ancs ops []).getD k []:=by
    intro j o ho
    have:=ancs_new ops [] j o ho (fun k hk=>by
      obtain ⟨e,h1,h2,rfl⟩:=hed j o ho k hk
      have:=hs j o ho e h1 h2;simpa using this)
    simpa using this
  let Closed (li:Array Bool):Prop:=∀ (i:Nat),li.getD i false=true→∀ (o:Oper),ops[i]?=some o→∀ e,e ∈ o.after→Region.binds .any e=true→li.getD e.on false=true
  have anc_dir:∀ (li:Array Bool),Closed li→∀ (j:Nat) (o:Oper),ops[j]?=some o→(∀ e,e ∈ o.after→Region.binds .any e=true→li.getD e.on false=true)→∀ i,i ∈ (ancs ops []).getD j []→li.getD i false=true:=by
    intro li hcl j
    induction j using Nat.strongRecOn with
    | _ j ih =>
      intro o ho hd i hi
      rw [hA j o ho] at hi
      obtain ⟨k,hk,hi⟩:=List.mem_flatMap.1 hi
      obtain ⟨e,h1,h2,rfl⟩:=hed j o ho k hk
      have hek:=hd e h1 h2
      rcases List.mem_cons.1 hi with rfl | hi
      · exact hek
      · have hlt:=hs j o ho e h1 h2
        have hjl:j < ops.length:=(List.getElem?_eq_some_iff.1 ho).1
        obtain ⟨o',ho'⟩ : ∃ o',ops[e.on]?=some o':=⟨ops[e.on]'(by omega),by simp⟩
        exact ih e.on hlt o' ho' (hcl _ hek o' ho') i hi
  have ht:∀ j,pl.m≤j→j < ops.length→∀ li:Array Bool,Closed li →
      (∀ (o:Oper),ops[j]?=some o→∀ e,e ∈ o.after→Region.binds .any e=true→li.getD e.on false=true)→∀ i,i < j→li.getD i false=true:=by
    intro j hj hjl li hcl hd i hi
    have h1:=(List.all_eq_true.1 k3) j (by simpa using hjl)
    have hnb:Nat.blt j pl.m=false:=by
      cases hb:Nat.blt j pl.m with
      | false=>rfl
      | true=>have:=(by simpa using hb:j < pl.m);omega
    rw [hnb,Bool.false_or] at h1
    have h2:=(List.all_eq_true.1 h1) i (by simpa using hi)
    obtain ⟨o,ho⟩ : ∃ o,ops[j]?=some o:=⟨ops[j],by simp [hjl]⟩
    exact anc_dir li hcl j o ho (hd o ho) i (by simpa using h2)
  have hdst:∀ (i:Nat),i < pl.m→∀ (o:Oper),ops[i]?=some o→o.dst=dstO ops i:=by
    intro i _ o ho
    unfold dstO;rw [ho];rfl
  have hdne:∀ (i j:Nat),i < pl.m→j < pl.m→i ≠ j→∀ t,dstO ops i=some t→dstO ops j ≠ some t:=by
    intro i j hi hj hij t e1 e2
    have h1:=(List.all_eq_true.1 ((List.all_eq_true.1 k6) i (by simpa using hi))) j (by simpa using hj)
    simp [e1,e2,hij] at h1
  let exM (li:Array Bool):List Nat:=(List.range pl.m).flatMap fun i'=>if li.getD i' false=true then pl.M.getD i' [] else []
  have exMM:∀ li,∀ x,x ∈ exM li→x ∈ pl.MM:=by
    intro li x hx
    obtain ⟨i',hi',h⟩:=List.mem_flatMap.1 hx
    split at h
    · have kk:=(List.all_eq_true.1 k4) i' hi'
      simp only [Bool.and_eq_true] at kk
      have:=(List.all_eq_true.1 kk.1.2) x h;simpa using this
    · cases h
  have exPR:∀ li,Closed li→∀ i,i < pl.m→li.getD i false=false→∀ x,x ∈ exM li→x ∈ PR.getD i []:=by
    intro li hcl i him hi0 x hx
    obtain ⟨i',hi',h⟩:=List.mem_flatMap.1 hx
    have hi'm:i' < pl.m:=by simpa using hi'
    split at h
    · rename_i hli
      have h1:=(List.all_eq_true.1 k7) i (by simpa using him)
      have h2:=(List.all_eq_true.1 h1) i' hi'
      simp only [Bool.or_eq_true,beq_iff_eq] at h2
      rcases h2 with (h2 | h2) | h2
      · subst h2;rw [hli] at hi0;cases hi0
      · have hkl:i' < ops.length:=by omega
        obtain ⟨ok,hok'⟩ : ∃ o,ops[i']?=some o:=⟨ops[i'],by simp [hkl]⟩
        have:=anc_dir li hcl i' ok hok' (hcl i' hli ok hok') i (by simpa using h2)
        rw [hi0] at this;cases this
      · have:=(List.all_eq_true.1 h2) x h;simpa using this
    · cases h
  -- the draw,then every order
  refine wpIn_region_any (P:=P) hmix ?_
  suffices key:∀ (fuel:Nat) (li:Array Bool) (a:Act) (f' : Fr) (w' : World) (c' : Col),fuel + cnt ops.length li=ops.length→li.size=ops.length→Closed li →
      (∀ j,pl.m≤j→li.getD j false=false)→At N D a f'→(∀ t,((List.range pl.m).map (dstO ops)).contains (some t)=false→f' t=f t)→St (exM li) w c w' c' →
      Held2 pl (ancs ops []) Φ li f' w' c'→wpAnyIn (FR D.rd) 0 P .any ops.toArray (lift N D Q) fuel li a w' by
    have h0:∀ i,(Array.replicate ops.toArray.size false).getD i false=false:=fun i=>by
      simp only [Array.getD_eq_getD_getElem?,Array.getElem?_replicate];split <;> rfl
    have hc0:cnt ops.length (Array.replicate ops.toArray.size false)=0:=by
      unfold cnt;simp only [h0];simp
    have:=key ops.length (Array.replicate ops.toArray.size false) a f { w with drawn:=w.drawn + 1 } c (by rw [hc0];rfl) (by simp) (fun i hi=>by rw [h0] at hi;cases hi)
      (fun j _=>h0 j) ha (fun _ _=>rfl) (St.drew.mono (by simp)) (fun j _ hj=>by rw [h0] at hj;cases hj)
    simpa using this
  intro fuel
  induction fuel with
  | zero =>
    intro li a f' w' c' hf hsz hcl htl hat hB hst hH
    have hall:=cnt_all (n:=ops.length) (li:=li) (by omega)
    have hmn:pl.m=ops.length:=by
      rcases Nat.lt_or_ge pl.m ops.length with h | h
      · have:=hall pl.m h;rw [htl pl.m (Nat.le_refl _)] at this;cases this
      · omega
    refine any_tail pl.m hs ht 0 ops.length li a w' (by omega) (by omega) hsz (fun i hi=>by rw [hall i hi];simp [hi]) ?_
    have:=fin f' w' c' hB (hst.mono (exMM li)) (AllL.of fun j hj=>?_)
    · rw [hmn] at this;exact this a hat
    · have h1:=(List.all_eq_true.1 k5) j hj
      simp only [Bool.and_eq_true] at h1
      have hjm:j < pl.m:=by simpa using h1.1
      refine hH j hjm (hall j (by omega)) fun i' hi' _=>?_
      have h2:=(List.all_eq_true.1 h1.2) i' (by simpa using hi')
      simp only [Bool.or_eq_true,beq_iff_eq,Bool.not_eq_true',List.contains_eq_mem,decide_eq_true_eq,decide_eq_false_iff_not,List.all_eq_true] at h2
      rcases h2 with ((h2 | h2) | h2) | h2
      · exact .inl h2
      · cases h2
      · exact .inr (.inl h2)
      · exact .inr (.inr h2)
  | succ fuel ih =>
    intro li a f' w' c' hf hsz hcl htl hat hB hst hH
    by_cases hall:∀ i,i < pl.m→li.getD i false=true
    · -- the tail
      have hli:∀ i,i < ops.length→li.getD i false=decide (i < pl.m):=by
        intro i hi
        by_cases h:i < pl.m
        · rw [hall i h];simp [h]
        · rw [htl i (by omega)];simp [h]
      have hfuel:pl.m + (fuel + 1)=ops.length:=by
        have hc:cnt ops.length li=pl.m:=by
          unfold cnt
          have:((List.range ops.length).filter fun i=>li.getD i false)=List.range pl.m:=by
            have h1:((List.range ops.length).filter fun i=>li.getD i false)=(List.range ops.length).filter fun i=>decide (i < pl.m) :=
              List.filter_congr fun i hi=>hli i (by simpa using hi)
            rw [h1]
            obtain ⟨d,hd⟩:=Nat.exists_eq_add_of_le hm
            rw [hd,List.range_add,List.filter_append]
            have e1:(List.range pl.m).filter (fun i=>decide (i < pl.m))=List.range pl.m:=List.filter_eq_self.2 fun i hi=>by simpa using hi
            have e2:((List.range d).map (pl.m + ·)).filter (fun i=>decide (i < pl.m))=[]:=List.filter_eq_nil_iff.2 fun i hi=>by
              obtain ⟨k,_,rfl⟩:=List.mem_map.1 hi;simp
            rw [e1,e2,List.append_nil]
          rw [this];simp
        omega
      refine any_tail pl.m hs ht (fuel + 1) pl.m li a w' (Nat.le_refl _) hfuel hsz hli ?_
      refine fin f' w' c' hB (hst.mono (exMM li)) (AllL.of fun j hj=>?_) a hat
      have h1:=(List.all_eq_true.1 k5) j hj
      simp only [Bool.and_eq_true] at h1
      have hjm:j < pl.m:=by simpa using h1.1
      refine hH j hjm (hall j hjm) fun i' hi' _=>?_
      have h2:=(List.all_eq_true.1 h1.2) i' (by simpa using hi')
      simp only [Bool.or_eq_true,beq_iff_eq,Bool.not_eq_true',List.contains_eq_mem,decide_eq_true_eq,decide_eq_false_iff_not,List.all_eq_true] at h2
      rcases h2 with ((h2 | h2) | h2) | h2
      · exact .inl h2
      · cases h2
      · exact .inr (.inl h2)
      · exact .inr (.inr h2)
    · -- one more of the first part
      have hlt:∀ i,i ∈ Region.ready .any ops.toArray li→i < pl.m∧li.getD i false=false∧li.getD i true=false ∧
          ∃ o,ops[i]?=some o∧∀ e,e ∈ o.after→Region.binds .any e=true→li.getD e.on false=true:=by
        intro i hi
        obtain ⟨o,ho,h1,h2⟩:=ready_spec hi
        have ho' : ops[i]?=some o:=by simpa using ho
        have hil:i < ops.length:=(List.getElem?_eq_some_iff.1 ho').1
        have h3:li.getD i false=false:=by
          simp only [Array.getD_eq_getD_getElem?] at h1 ⊢
          cases hx:li[i]? with
          | none=>rfl
          | some b=>rw [hx] at h1;simpa using h1
        refine ⟨?_,h3,h1,o,ho',h2⟩
        rcases Nat.lt_or_ge i pl.m with h | h
        · exact h
        · exact absurd (fun k hk=>ht i h hil li hcl (fun o3 ho3=>by rw [ho'] at ho3;cases ho3;exact h2) k (by omega)) hall
      refine ⟨fun he=>?_,fun i hi=>?_⟩
      · -- something is ready
        exfalso
        have:∃ i,i < pl.m∧li.getD i false=false∧∀ k,k < i→li.getD k false=true:=by
          have:∃ i,i < pl.m∧li.getD i false=false:=by
            apply Classical.byContradiction
            intro hn
            apply hall
            intro i hi
            cases h:li.getD i false with
            | true=>rfl
            | false=>exact absurd ⟨i,hi,h⟩ hn
          obtain ⟨i,hi,h⟩:=this
          induction i using Nat.strongRecOn with
          | _ i ih' =>
            by_cases hk:∀ k,k < i→li.getD k false=true
            · exact ⟨i,hi,h,hk⟩
            · have:∃ k,k < i∧li.getD k false=false:=by
                apply Classical.byContradiction
                intro hn
                apply hk
                intro k hki
                cases h:li.getD k false with
                | true=>rfl
                | false=>exact absurd ⟨k,hki,h⟩ hn
              obtain ⟨k,hki,hk⟩:=this
              exact ih' k hki (by omega) hk
        obtain ⟨i,hi,h,hmin⟩:=this
        have hil:i < ops.length:=by omega
        obtain ⟨o,ho⟩ : ∃ o,ops[i]?=some o:=⟨ops[i],by simp [hil]⟩
        have:i ∈ Region.ready .any ops.toArray li:=by
          unfold Region.ready
          rw [List.mem_filter]
          refine ⟨by simpa using hil,?_⟩
          have ho' : ops.toArray[i]?=some o:=by simpa using ho
          have h1:li.getD i true=false:=by
            simp only [Array.getD_eq_getD_getElem?] at h ⊢
            have hx:li[i]?=some li[i]:=by simp [hsz,hil]
            rw [hx] at h ⊢;simpa using h
          rw [h1,ho']
          simp only [Option.map_some,Option.getD_some,Bool.not_false,Bool.true_and]
          rw [Array.all_eq_true_iff_forall_mem]
          intro e he'
          cases hb:Region.binds .any e with
          | false=>rfl
          | true=>rw [hmin e.on (hs i o ho e he' hb)];rfl
        rw [he] at this;cases this
      · obtain ⟨him,h3,h1,o,ho,h2⟩:=hlt i hi
        have hil:i < ops.length:=by omega
        have hst':=AllL.mem step i (by simpa using him) f' w' c' hB (hst.mono (exPR li hcl i him h3)) (AllL.of fun j hj=>?_) o ho
        · -- the operation
          have hd:=hdst i him o ho
          have hN:=(List.all_eq_true.1 hNd) i (by simpa using him)
          have kk:=(List.all_eq_true.1 k4) i (by simpa using him)
          simp only [Bool.and_eq_true] at kk
          have next:∀ v w'' c'',St (pl.M.getD i []) w' c' w'' c''→(Φ.getD i trFF) (upO f' (dstO ops i) v) w'' c'' →
              wpAnyIn (FR D.rd) 0 P .any ops.toArray (lift N D Q) fuel (li.setIfInBounds i true) (a.put o.dst v) w'':=by
            intro v w'' c'' s2 hv
            have hget:∀ k,(li.setIfInBounds i true).getD k false=if k=i then true else li.getD k false:=fun k=>getD_set (by omega)
            have hup:∀ t,some t ≠ dstO ops i→upO f' (dstO ops i) v t=f' t:=fun t ht'=>by
              cases hx:dstO ops i with
              | none=>rfl
              | some d=>rw [hx] at ht';have:t ≠ d:=fun e=>ht' (by rw [e]);simp [upO,up,nbf this]
            refine ih _ _ (upO f' (dstO ops i) v) w'' c'' (by rw [cnt_set hsz hil h1];omega) (by simpa using hsz) (fun k hk o' ho' e he' hb=>?_) (fun k hk=>?_) ?_ (fun t ht'=>?_) ?_ (fun k hkm hk hfree=>?_)
            · rw [hget];split
              · rfl
              · rw [hget] at hk
                split at hk
                · rename_i hki;subst hki;rw [ho] at ho';cases ho';exact h2 e he' hb
                · exact hcl k hk o' ho' e he' hb
            · rw [hget,if_neg (by omega)];exact htl k hk
            · rw [hd]
              cases hx:dstO ops i with
              | none=>exact hat.put0 v
              | some d=>rw [hx] at hN;exact hat.put hN v
            · rw [hup t (fun e=>?_)]
              · exact hB t ht'
              · have:((List.range pl.m).map (dstO ops)).contains (some t)=true:=by
                  rw [List.contains_eq_mem];simp only [decide_eq_true_eq];exact List.mem_map.2 ⟨i,by simpa using him,e.symm⟩
                rw [this] at ht';cases ht'
            · refine (hst.t s2).mono fun k hk=>?_
              rcases List.mem_append.1 hk with h | h
              · obtain ⟨i',hi',h⟩:=List.mem_flatMap.1 h
                refine List.mem_flatMap.2 ⟨i',hi',?_⟩
                split at h
                · rename_i hli
                  rw [hget,if_pos (by split <;> first | rfl | exact hli)];exact h
                · cases h
              · refine List.mem_flatMap.2 ⟨i,by simpa using him,?_⟩
                rw [hget,if_pos (by rw [if_pos rfl])];exact h
            · by_cases hki:k=i
              · subst hki
                exact hv
              · rw [hget,if_neg hki] at hk
                have hold:=hH k hkm hk fun i' hi' hli'=>by
                  refine hfree i' hi' ?_
                  rw [hget];split
                  · rfl
                  · exact hli'
                have hkf:∀ x,x ∈ pl.K.getD k []→x ∉ pl.M.getD i []:=by
                  rcases hfree i him (by rw [hget,if_pos rfl]) with h | h | h
                  · exact absurd h.symm hki
                  · have hkl:k < ops.length:=by omega
                    obtain ⟨ok,hok'⟩ : ∃ o,ops[k]?=some o:=⟨ops[k],by simp [hkl]⟩
                    have:=anc_dir li hcl k ok hok' (hcl k hk ok hok') i h
                    rw [h3] at this;cases this
                  · exact h
                refine AllL.mem stab k (by simpa using hkm) _ _ _ _ _ _ _ hold (AllL.of fun t ht'=>hup t fun e=>?_) s2 hkf
                have k4k:=(List.all_eq_true.1 k4) k (by simpa using hkm)
                simp only [Bool.and_eq_true] at k4k
                have h5:=(List.all_eq_true.1 k4k.1.1) t ht'
                obtain ⟨j,hj,hj2⟩:=List.any_eq_true.1 h5
                simp only [Bool.and_eq_true,beq_iff_eq] at hj2
                have hjm:j < pl.m:=by simpa using hj2.1
                have hji:j ≠ i:=by
                  intro e2
                  subst e2
                  rcases List.mem_cons.1 hj with h | h
                  · exact hki h.symm
                  · have hkl:k < ops.length:=by omega
                    obtain ⟨ok,hok'⟩ : ∃ o,ops[k]?=some o:=⟨ops[k],by simp [hkl]⟩
                    have:=anc_dir li hcl k ok hok' (hcl k hk ok hok') j h
                    rw [h3] at this;cases this
                exact hdne i j him hjm (Ne.symm hji) t e.symm hj2.2
          have hos:∀ (q:World) ,OS P o (msk D N f') w' (fun v w'' => ∃ c'',St (pl.M.getD i []) w' c' w'' c''∧(Φ.getD i trFF) (upO f' (dstO ops i) v) w'' c'') →
              o.wpIn (FR D.rd) 0 P a w' (wpAnyIn (FR D.rd) 0 P .any ops.toArray (lift N D Q) fuel (li.setIfInBounds i true)) (lift N D Q):=fun _ h =>
            h _ a _ _ hat.eval fun v w'' ⟨c'',s2,hv⟩=>next v w'' c'' s2 hv
          unfold wpOpIn
          have ho' : ops.toArray[i]?=some o:=by simpa using ho
          rw [ho']
          simp only
          unfold OSG at hst'
          cases hg:o.guard with
          | none =>
            rw [hg] at hst'
            rw [if_pos (by simp [Region.wanted,hg])]
            exact hos w' hst'
          | some gb =>
            obtain ⟨g,b⟩:=gb
            rw [hg] at hst'
            obtain ⟨b',hb1,hb2,hb3,hb4⟩:=hst'
            have hy:yielded ops.toArray a.tmps g=some b':=yielded_of hb2 (by rw [hat.rd];exact hb1)
            by_cases hbb:b'=b
            · subst hbb
              rw [if_pos (by simp [Region.wanted,hg,hy])]
              exact hos w' (hb3 rfl)
            · have hbn:b'=!b:=by cases b' <;> cases b <;> first | rfl | exact absurd rfl hbb
              have hw:Region.wanted o (yielded ops.toArray a.tmps)=false:=by
                unfold Region.wanted;rw [hg];simp only [hy];simpa using hbb
              rw [if_neg (by rw [hw];exact Bool.false_ne_true)]
              obtain ⟨c'',s2,hv⟩:=hb4 hbn
              exact ⟨fun _ _=>trivial,next undef w' c'' s2 hv⟩
        · have hj1:=(List.all_eq_true.1 k4) i (by simpa using him)
          simp only [Bool.and_eq_true] at hj1
          have hj2:=(List.all_eq_true.1 hj1.2) j hj
          simp only [Bool.and_eq_true,List.contains_eq_mem,decide_eq_true_eq] at hj2
          obtain ⟨⟨hj3,hj4⟩,hj5⟩:=hj2
          have hjm:j < pl.m:=by simpa using hj3
          refine hH j hjm (anc_dir li hcl i o ho h2 j hj4) fun i' hi' hli'=>?_
          have h4:=(List.all_eq_true.1 hj5) i' (by simpa using hi')
          simp only [Bool.or_eq_true,beq_iff_eq,Bool.not_eq_true',decide_eq_true_eq,decide_eq_false_iff_not,List.all_eq_true] at h4
          rcases h4 with (((h4 | h4) | h4) | h4) | h4
          · exact .inl h4
          · subst h4;rw [h3] at hli';cases hli'
          · exact .inr (.inl h4)
          · have hkl:i' < ops.length:=by omega
            obtain ⟨ok,hok'⟩ : ∃ o,ops[i']?=some o:=⟨ops[i'],by simp [hkl]⟩
            have:=anc_dir li hcl i' ok hok' (hcl i' hli' ok hok') i h4
            rw [h3] at this;cases this
          · exact .inr (.inr h4)
end
end Go.Proofs.YtgmgahphjiiceaaGreat.L
