/-
  What comes in,opened: slices of structs that hold a slice each;how much all of it may weigh. No program in sight.
-/
import Derived.Test.YtjgbakieogadfabGreatDoorLib26
namespace Go.Proofs.YtjgbakieogadfabGreatDoor.L
open Go Go.ChangeShapes Go.WideShapes Go.ChangeAt Go.RowKit
open Go.Deep (open_slice choose_lt)
section
variable {P:Program} {W:World} {H:Type} {enc:TypeId×Value→H} {base:Nat} {held:Bool} {fuel:Nat} {cs:List Value} {x:DataW H×List MemPlace} {t e:TypeId}
abbrev wOk (P:Program) (t:TypeId) (d:DataW H):Prop:=(d.weights P t).all (·≤reachBytes)=true
theorem wEach_at:∀ {ts:List TypeId} {ds:List (DataW H)} {j:Nat} {t:TypeId} {d:DataW H},(DataW.weightsEach P ts ds).all (·≤reachBytes)=true→ts[j]?=some t→ds[j]?=some d→wOk P t d
  | [],_,_,_,_,_,h,_=>by simp at h
  | _ :: _,[],_,_,_,_,_,h=>by simp at h
  | t :: ts,d :: ds,0,_,_,hw,h1,h2=>by
    simp only [List.getElem?_cons_zero,Option.some.injEq] at h1 h2;subst h1;subst h2
    rw [DataW.weightsEach,List.all_append,Bool.and_eq_true] at hw;exact hw.1
  | t :: ts,d :: ds,j+1,_,_,hw,h1,h2=>by
    rw [DataW.weightsEach,List.all_append,Bool.and_eq_true] at hw
    exact wEach_at hw.2 (by simpa using h1) (by simpa using h2)
theorem wAll_mem:∀ {ds:List (DataW H)} {d:DataW H},(DataW.weightsAll P e ds).all (·≤reachBytes)=true→d ∈ ds→wOk P e d
  | [],_,_,h=>by cases h
  | d' :: ds,d,hw,h=>by
    rw [DataW.weightsAll,List.all_append,Bool.and_eq_true] at hw
    rcases List.mem_cons.1 h with rfl | h
    · exact hw.1
    · exact wAll_mem hw.2 h
theorem Rd.bool {sp:Nat→Bool} (ht:P.underlying t=some .bool):Rd enc P W base sp held t (fun b=>[vB b]) (fun _:Bool=>True):=by
  intro fuel cs x h
  cases fuel with
  | zero=>simp [DataW.trod] at h
  | succ n =>
    unfold DataW.trod at h;rw [ht] at h
    split at h <;> simp_all
theorem rdW_str {sp:Nat→Bool} (ht:P.underlying t=some .string) (h:DataW.trod enc P W base sp held fuel t cs=some x) (hw:wOk P t x.1):∃ s:List UInt8,cs=[vS s]∧s.length≤140737488351232:=by
  cases fuel with
  | zero=>simp [DataW.trod] at h
  | succ n =>
    unfold DataW.trod at h;rw [ht] at h
    split at h <;> simp_all
    rename_i s
    refine ⟨s.data.toList,?_,?_⟩
    · cases s;simp
    · obtain ⟨_,rfl⟩:=h
      have h2:s.data.toList.length≤reachBytes:=by simpa [DataW.weights] using hw
      unfold reachBytes at h2
      omega
theorem trod_stW {sp:Nat→Bool} {fs:Array Field} (ht:P.underlying t=some (.struct fs)) (h:DataW.trod enc P W base sp held fuel t cs=some x) (hw:wOk P t x.1) :
    cs.length=P.cellsOf t∧∀ f ∈ fs.toList,∃ n y,DataW.trod enc P W base sp held n f.type ((cs.drop f.offset).take (P.cellsOf f.type))=some y∧wOk P f.type y.1:=by
  cases fuel with
  | zero=>simp [DataW.trod] at h
  | succ n =>
    unfold DataW.trod at h;rw [ht] at h
    simp only at h
    split at h
    · rename_i hl
      refine ⟨hl,fun f hf=>?_⟩
      rw [Option.map_eq_some_iff] at h
      obtain ⟨xs,hx,hx2⟩:=h
      subst hx2
      have hw':(DataW.weightsEach P (fs.toList.map (·.type)) (xs.map (·.1))).all (·≤reachBytes)=true:=by
        have:=hw
        unfold wOk at this
        simp only [DataW.weights,ht] at this
        exact this
      have key:∀ (l:List Field) (ys:List (DataW H×List MemPlace)),l.mapM (fun f=>DataW.trod enc P W base sp held n f.type ((cs.drop f.offset).take (P.cellsOf f.type)))=some ys →
          (DataW.weightsEach P (l.map (·.type)) (ys.map (·.1))).all (·≤reachBytes)=true→∀ f ∈ l,∃ y,DataW.trod enc P W base sp held n f.type ((cs.drop f.offset).take (P.cellsOf f.type))=some y∧wOk P f.type y.1:=by
        intro l
        induction l with
        | nil=>intro ys _ _ f hf;cases hf
        | cons g l ih =>
          intro ys hy hw f hf
          rw [List.mapM_cons] at hy
          obtain ⟨y,h1,h2⟩:=Option.bind_eq_some_iff.1 hy
          obtain ⟨zs,h3,h4⟩:=Option.bind_eq_some_iff.1 h2
          cases h4
          rw [List.map_cons,List.map_cons,DataW.weightsEach,List.all_append,Bool.and_eq_true] at hw
          rcases List.mem_cons.1 hf with rfl | hf
          · exact ⟨y,h1,hw.1⟩
          · exact ih _ h3 hw.2 f hf
      obtain ⟨y,hy,hy2⟩:=key _ _ hx hw' f hf
      exact ⟨n,y,hy,hy2⟩
    · cases h
theorem cell_inv {a:Addr} {u:Value} (h:W.cell? a=some u):a.spot=none∧∃ cs T fz,W.heap[a.block]?=some (.cells cs T fz):=by
  unfold World.cell? at h
  split at h
  · rename_i cs T fz ho
    refine ⟨?_,cs,T,fz,ho⟩
    cases hs:a.spot with
    | none=>rfl
    | some s=>simp [hs] at h
  · cases h
theorem open_any {β:Type} [Inhabited β] {E:Enc β} {ok:β→Prop} (ht:P.underlying t=some (.slice E.ty)) (hc:P.cellsOf E.ty=E.sz)
    (fr:∀ fuel cs x,DataW.trod enc P W base (fun _=>true) held fuel E.ty cs=some x→wOk P E.ty x.1→∃ a,cs=E.e a∧ok a) {c:Col} (hcol:∀ b,c b=1)
    (h:DataW.trod enc P W base (fun _=>true) held fuel t cs=some x) (hw:wOk P t x.1) :
    ∃ (sl:Sl) (xs:List β),cs=[sl.val]∧Vw E 1 W c sl.val xs∧(∀ a ∈ xs,ok a)∧xs.length*P.bytesOf E.ty≤reachBytes:=by
  rcases open_slice ht h with ⟨h1,_⟩ | ⟨a,len,cap,m,n,D,Pl,h1,_,hl,hm,hmm,hx1,hx⟩
  · exact ⟨⟨none,0,0⟩,[],h1,.inl ⟨.inl rfl,rfl⟩,(fun _ h=>by cases h),(by rw [List.length_nil,Nat.zero_mul];exact Nat.zero_le _)⟩
  · simp only [if_true] at hmm
    subst hmm
    have hw2:=hw
    unfold wOk at hw2
    rw [hx1] at hw2
    simp only [DataW.weights,ht,List.all_cons,Bool.and_eq_true,List.length_map,List.length_range,List.all_append,decide_eq_true_eq] at hw2
    obtain ⟨hw3,hw4,_⟩:=hw2
    rw [hc] at hx
    by_cases h0:len=0
    · subst h0
      exact ⟨⟨some a,0,m⟩,[],h1,.inl ⟨.inr ⟨a,m,rfl⟩,rfl⟩,(fun _ h=>by cases h),(by rw [List.length_nil,Nat.zero_mul];exact Nat.zero_le _)⟩
    · obtain ⟨b,off,spot⟩:=a
      have hp:=E.pos
      obtain ⟨V,hV⟩:=choose_lt (α:=β) (n:=len) (p:=fun i a=>W.cells? base ((⟨b,off,spot⟩:Addr).add (i*E.sz)) E.sz=some (E.e a)∧ok a) (fun i hi=>by
        obtain ⟨cs',h1,h2⟩:=hx i (by omega)
        obtain ⟨a,rfl,ha⟩:=fr _ _ _ h2 (wAll_mem hw4 (List.mem_map.2 ⟨i,by simpa using hi,rfl⟩))
        exact ⟨a,h1,ha⟩)
      obtain ⟨hsp,cs0,T,fz,hb⟩:spot=none∧∃ cs T fz,W.heap[b]?=some (.cells cs T fz):=by
        obtain ⟨_,hlen,hcell⟩:=World.cells?_some (hV 0 (by omega)).1
        have h3:=hcell 0 hp
        rw [List.getElem?_eq_getElem (by omega)] at h3
        have ea:((⟨b,off,spot⟩:Addr).add (0*E.sz)).add 0=⟨b,off,spot⟩:=by simp [Addr.add]
        rw [ea] at h3
        exact cell_inv h3
      subst hsp
      refine ⟨⟨some ⟨b,off,none⟩,len,m⟩,(List.range len).map V,h1,.inr ⟨b,off,m,cs0,T,fz,by simp [Sl.val],by simpa using hl,hcol b,hb,fun j u hu=>?_⟩,fun a ha=>?_,?_⟩
      · have hjl:j<len*E.sz:=by
          rcases Nat.lt_or_ge j (len*E.sz) with h | h
          · exact h
          · rw [List.getElem?_eq_none (by rw [fl_length];simpa using h)] at hu;cases hu
        rw [fl_getK E _ j (by simpa using hjl)] at hu
        have hq:j / E.sz<len:=(Nat.div_lt_iff_lt_mul hp).2 hjl
        have hr:j % E.sz<E.sz:=Nat.mod_lt _ hp
        simp only [List.getElem?_map,List.getElem?_range hq,Option.map_some,Option.bind_some] at hu
        obtain ⟨_,_,hcell⟩:=World.cells?_some (hV _ hq).1
        have h3:=hcell _ hr
        rw [hu] at h3
        rw [Addr.add_lit,Addr.add_lit,cell_of_row W b _ cs0 T fz hb] at h3
        have e:off+j / E.sz*E.sz+j % E.sz=off+j:=by
          have:=Nat.div_add_mod j E.sz
          rw [Nat.mul_comm] at this;omega
        rw [e] at h3;exact h3
      · obtain ⟨i,hi,rfl⟩:=List.mem_map.1 ha
        exact (hV i (by simpa using hi)).2
      · rw [List.length_map,List.length_range]
        refine Nat.le_trans (Nat.mul_le_mul_right _ ?_) hw3
        omega
theorem open_deep {α σ:Type} [Inhabited σ] {E:Enc (σ×Sl)} {E':Enc α} {g:σ→List α} {ok:σ→Prop} {c:Col} (ht:P.underlying t=some (.slice E.ty)) (hc:P.cellsOf E.ty=E.sz) (hcol:∀ b,c b=1)
    (fr:∀ fuel cs x,DataW.trod enc P W base (fun _=>true) held fuel E.ty cs=some x→wOk P E.ty x.1→∃ p:σ×Sl,cs=E.e p∧Vw E' 1 W c p.2.val (g p.1)∧ok p.1)
    (h:DataW.trod enc P W base (fun _=>true) held fuel t cs=some x) (hw:wOk P t x.1) :
    ∃ (sl:Sl) (xs:List σ),cs=[sl.val]∧VwD E E' g 1 W c sl.val xs∧(∀ a ∈ xs,ok a)∧xs.length*P.bytesOf E.ty≤reachBytes:=by
  obtain ⟨sl,ps,h1,h2,h3,h4⟩:=open_any (ok:=fun p:σ×Sl=>Vw E' 1 W c p.2.val (g p.1)∧ok p.1) ht hc fr hcol h hw
  refine ⟨sl,ps.map Prod.fst,h1,⟨ps,h2,rfl,fun q hq=>(h3 q hq).1⟩,fun a ha=>?_,by simpa using h4⟩
  obtain ⟨p,hp,rfl⟩:=List.mem_map.1 ha
  exact (h3 p hp).2
end
end Go.Proofs.YtjgbakieogadfabGreatDoor.L
