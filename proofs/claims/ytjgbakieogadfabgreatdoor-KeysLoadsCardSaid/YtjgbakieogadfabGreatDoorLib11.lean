/-
  Bytes and texts;an array value's element. No program in sight.
-/
import Derived.Test.YtjgbakieogadfabGreatDoorLib10
import Derived.Laws.IdiomStrings
namespace Go.Proofs.YtjgbakieogadfabGreatDoor.L
open Go
section
variable {P:Program} {f:Fr} {w:World} {c:Col} {o:Oper} {R:Value→World→Prop} {x y:Operand} {v u p q:Value}
theorem fl_get1 {α:Type} {E:Enc α} {xs:List α} {k:Nat} {a:α} (h1:E.sz=1) (h:xs[k]?=some a) (he:E.e a=[u]):(fl E xs)[k]?=some u:=by
  have:=fl_get (E:=E) xs k a h 0 u (by simp [he])
  rwa [h1,Nat.mul_one,Nat.add_zero] at this
theorem OS.indexArr {α:Type} {E:Enc α} {xs:List α} {t e:TypeId} {n:Nat} {j:Int} {k:IntKind} {a:α} (ho:o.op = .index t x y) (ht:∀ w,(underlying t).run P w = .ok (.array n e) w) (hs:∀ w,(sizeOf e).run P w = .ok 1 w) (hg:∀ w,(isAgg e).run P w = .ok false w)
    (hE:E.sz=1) (hx:ev f x = .agg (fl E xs).toArray) (hl:xs.length=n) (hy:ev f y = .int k j) (h0:0≤j) (hq:xs[j.toNat]?=some a) (he:E.e a=[u]) (h:R u w):OS P o f w R:=by
  refine OS.val (v:=u) (w':=w) ?_ h
  have h1:j<n:=by
    have:=(List.getElem?_eq_some_iff.1 hq).1
    omega
  have h2:(fl E xs).toArray[j.toNat]?=some u:=by simpa using fl_get1 hE hq he
  unfold execOp;rw [ho]
  simp only [hx,hy,Instr.index,asIntOf,Sem.run_bind,Sem.run_pure,Result.andThen_ok,ht]
  rw [if_pos ⟨h0,h1⟩]
  simp only [Sem.run_bind,hs,Result.andThen_ok,Nat.mul_one,part,hg,Bool.false_eq_true,if_false,h2,Sem.run_pure]
theorem OS.convSame {E:Enc UInt8} {i:Nat} {xs:List UInt8} {t:TypeId} (ho:o.op = .convert t t x) (ht:P.underlying t=some (.slice E.ty)) (he:P.underlying E.ty=some (.int .u8)) (hx:ev f x=v)
    (hv:Ow E i w c v xs) (hn:xs ≠ []) (h:∀ w',Vw E i w' c v xs→St [i] w c w' c→R v w'):OS P o f w R:=by
  obtain ⟨⟨h1,h2⟩,h3⟩:=hv
  rcases h2 with ⟨h2,h4⟩ | ⟨g,cap,cur,hv,hg,hh,hnc,hm,hs,htk⟩
  · exact absurd (List.length_eq_zero_iff.1 h4) hn
  have hcg:=h3 g (by rw [hv];rfl)
  have hlt:=blk_lt hh
  obtain ⟨w',hw'⟩:∃ w',w.freeze { block:=g,off:=cur.size } 1=w':=⟨_,rfl⟩
  have hb:w'.heap[g]?=some (.cells cur E.ty (cur.size,cur.size+1)):=by
    rw [← hw'];unfold World.freeze;rw [if_neg (by decide)]
    obtain ⟨h5,h6⟩:=Array.getElem?_eq_some_iff.1 hh
    show (w.heap.modify g _)[g]?=_
    rw [Array.getElem?_eq_getElem (by rw [Array.size_modify];exact h5),Array.getElem_modify_self,h6]
    rfl
  have ho':∀ k,k ≠ g→w'.heap[k]?=w.heap[k]?:=fun k hk=>by
    rw [← hw'];unfold World.freeze;rw [if_neg (by decide)]
    show (w.heap.modify g _)[k]?=_
    by_cases hk':k<w.heap.size
    · rw [Array.getElem?_eq_getElem (by rw [Array.size_modify];exact hk'),Array.getElem_modify_of_ne (Ne.symm hk),Array.getElem?_eq_getElem hk']
    · rw [Array.getElem?_eq_none (by rw [Array.size_modify];omega),Array.getElem?_eq_none (by omega)]
  refine OS.val (v:=v) (w':=w') ?_ (h w' ?_ ⟨by rw [← hw'];rfl,by rw [← hw'];rfl,by rw [← hw'];rfl,?_,fun _ _ _=>rfl,fun b _ hn=>ho' b fun e=>hn (by simp [e,hcg])⟩)
  · have hsh:w.shape? g=some (E.ty,cur.size):=by unfold World.shape?;rw [hh]
    unfold execOp;rw [ho]
    simp [hx,hv,convert,run_underlying ht,run_underlying he,markStringish,hsh,hw']
  · refine .inr ⟨g,0,cap,cur,E.ty,_,hv,hnc,hcg,hb,fun j u hu=>?_⟩
    rw [← htk,List.getElem?_take] at hu
    split at hu
    · rw [Nat.zero_add];simpa using hu
    · cases hu
  · rw [← hw'];unfold World.freeze;rw [if_neg (by decide)];simp
theorem OS.bytesToStr {i:Nat} {xs:List UInt8} {s t e:TypeId} (ho:o.op = .convert s t x) (hs:P.underlying s=some (.slice e)) (he:P.underlying e=some (.int .u8)) (ht:P.underlying t=some .string) (hx:ev f x=v)
    (hv:Vw (eU8 e) i w c v xs) (h:R (vS xs) w):OS P o f w R:=by
  refine OS.val (v:=vS xs) (w':=w) ?_ h
  unfold execOp;rw [ho]
  rcases hv with ⟨rfl | ⟨a0,q0,rfl⟩,rfl⟩ | ⟨b,off,cap,cs,T,fz,h1,h2,h3,h4,h5⟩
  · have hr:(convert s t (.slice none 0 0)).run P w = .ok (vS []) w:=by
      rw [run_convert_bytes_string w s t e none 0 0 hs he ht];simp [Conv.bytesToString];rfl
    simp [hx,hr]
  · have hr:=run_convert_bytes_back (P:=P) w s t e a0 q0 [] hs he ht (fun j hj=>by simp at hj)
    simp only [List.length_nil] at hr
    simp [hx,hr]
  · have hr:=run_convert_bytes_back (P:=P) w s t e ⟨b,off,none⟩ cap xs hs he ht (fun j hj=>by
      rw [Addr.add_lit,cell_of_row w b _ cs T fz h4]
      exact h5 j _ (fl_get1 rfl (List.getElem?_eq_getElem hj) rfl))
    simp [hx,h1,hr]
theorem OS.strToBytes {xs:List UInt8} {s t e:TypeId} (i:Nat) (ho:o.op = .convert s t x) (hs:P.underlying s=some .string) (ht:P.underlying t=some (.slice e)) (he:P.underlying e=some (.int .u8)) (hx:ev f x=vS xs)
    (h:∀ v w' c',Vw (eU8 e) i w' c' v xs→St [] w c w' c'→R v w'):OS P o f w R:=by
  have hr:=run_bytes_of_string (P:=P) w s t e ⟨xs.toArray⟩ hs ht he
  refine OS.val (by unfold execOp;rw [ho];simp only [hx,Sem.run_bind,hr,Result.andThen_ok];rfl) (h _ _ (pc c w.heap.size i) (.inr ⟨w.heap.size,0,_,_,_,_,rfl,?_,pc_same,heap_alloc_new w.drew _,fun j u hu=>?_⟩) (((St.drew (w:=w) (c:=c)).t (St.alloc _ i)).mono (by simp)))
  · have:=grownCap_ge w xs.length 0 e;exact this
  · have hj:j<xs.length:=by
      rcases Nat.lt_or_ge j xs.length with h | h
      · exact h
      · rw [List.getElem?_eq_none (by rw [fl_length];show xs.length*1≤j;omega)] at hu;cases hu
    have h1:=fl_get1 (E:=eU8 e) (u:=vU8 xs[j]) rfl (List.getElem?_eq_getElem hj) rfl
    rw [h1] at hu;cases hu
    rw [Nat.zero_add]
    unfold bytesRow
    rw [Array.getElem?_append_left (by simpa using hj)]
    simp [hj]
theorem Vw.recol {α:Type} {E:Enc α} {i:Nat} {xs:List α} (h:Vw E i w c v xs) (j:Nat):∃ c',St [i] w c w c'∧Vw E j w c' v xs:=by
  rcases h with h | ⟨b,off,cap,cs,T,fz,h1,h2,h3,h4,h5⟩
  · exact ⟨c,St.refl.mono (by simp),.inl h⟩
  · have hs:=St.recol (w:=w) (c:=c) b j
    rw [h3] at hs
    exact ⟨_,hs,.inr ⟨b,off,cap,cs,T,fz,h1,h2,pc_same,h4,h5⟩⟩
def LdC (i:Nat) (w:World) (c:Col) (p:Value) (us:List Value):Prop :=
  ∃ b o cs T fz,p = .pointer (some ⟨b,o,none⟩)∧c b=i∧w.heap[b]?=some (.cells cs T fz)∧∀ (j:Nat) (u:Value),us[j]?=some u→cs[o+j]?=some u
theorem LdC.keep {i:Nat} {I:List Nat} {w':World} {c':Col} {us:List Value} (h:LdC i w c p us) (s:St I w c w' c') (hi:i ∉ I:=by decide):LdC i w' c' p us:=by
  obtain ⟨b,o,cs,T,fz,h1,h2,h3,h4⟩:=h
  have hn:c b ∉ I:=by rw [h2];exact hi
  exact ⟨b,o,cs,T,fz,h1,by rw [s.col b (blk_lt h3) hn,h2],by rw [s.blk b (blk_lt h3) hn,h3],h4⟩
theorem LdC.ld {i:Nat} {us:List Value} (h:LdC i w c p us):Ld w p us:=by
  obtain ⟨b,o,cs,T,fz,h1,h2,h3,h4⟩:=h
  exact ⟨b,o,h1,fun j u hu=>by rw [cell_of_row w b _ cs T fz h3];exact h4 j u hu⟩
theorem OS.s2aC {α:Type} {E:Enc α} {i n:Nat} {xs:List α} {t e:TypeId} (ho:o.op = .sliceToArrayPointer t x) (ht:P.underlying t=some (.array n e)) (hx:ev f x=v) (hv:Vw E i w c v xs) (hn:n≤xs.length) (h0:0<n)
    (hk:∀ p',LdC i w c p' (fl E (xs.take n))→R p' w):OS P o f w R:=by
  rcases hv with ⟨e,e'⟩ | ⟨b',off,cap,cs,T,fz,h1,h2,h3,h4,h5⟩
  · subst e';simp at hn;omega
  · refine OS.val (v := .pointer (some ⟨b',off,none⟩)) (w':=w) ?_ (hk _ ⟨b',off,cs,T,fz,rfl,h3,h4,fun j u hu=>?_⟩)
    · unfold execOp;rw [ho]
      have : ¬ xs.length<n:=by omega
      simp [hx,h1,Instr.arrayAt,run_underlying ht,this]
    · refine h5 j u ?_
      rw [← fl_take,List.getElem?_take] at hu
      split at hu
      · exact hu
      · cases hu
theorem cells_sl {n:Nat} (h:IsSl v n):v.cells=[v].toArray:=by rcases h with ⟨rfl | ⟨a,q,rfl⟩,_⟩ | ⟨b,o,cap,rfl⟩ <;> rfl
theorem one_sl {n:Nat} (h:IsSl v n):∀ u ∈ [v],u.oneCell'=true:=by
  intro u hu;simp at hu;subst hu
  rcases h with ⟨rfl | ⟨a,q,rfl⟩,_⟩ | ⟨b,o,cap,rfl⟩ <;> rfl
theorem fnQ.lsN {fn:Func} {Rr:Ending→World→Prop} (hr:fn.results = #[]) (h:Rr (.returned (.tuple #[])) w):fnQ P fn Rr .normal f w:=fnQ.ls (rs:=[]) (vs:=[]) (f:=f) hr trivial h (by simp)
end
end Go.Proofs.YtjgbakieogadfabGreatDoor.L
