/-
  Bytes and texts;an array value's element. No program in sight.
-/
import Derived.Test.YtgmgahphjiiceaaGreatLib10
import Derived.Laws.IdiomStrings
namespace Go.Proofs.YtgmgahphjiiceaaGreat.L
open Go
section
variable {P : Program} {f : Fr} {w : World} {c : Col} {o : Oper} {R : Value → World → Prop} {x y : Operand} {v u p q : Value}
theorem fl_get1 {α : Type} {E : Enc α} {xs : List α} {k : Nat} {a : α} (h1 : E.sz = 1) (h : xs[k]? = some a) (he : E.e a = [u]) : (fl E xs)[k]? = some u := by
  have:=fl_get (E:=E) xs k a h 0 u (by simp [he])
  rwa [h1,Nat.mul_one,Nat.add_zero] at this
theorem OS.convSame {E : Enc UInt8} {i : Nat} {xs : List UInt8} {t : TypeId} (ho : o.op = .convert t t x) (ht : P.underlying t = some (.slice E.ty)) (he : P.underlying E.ty = some (.int .u8)) (hx : ev f x = v)
    (hv:Ow E i w c v xs) (hn:xs ≠ []) (h:∀ w',Vw E i w' c v xs→St [i] w c w' c→R v w'):OS P o f w R:=by
  obtain ⟨⟨h1,h2⟩,h3⟩:=hv
  rcases h2 with ⟨h2,h4⟩ | ⟨g,cap,cur,hv,hg,hh,hnc,hm,hs,htk⟩
  · exact absurd (List.length_eq_zero_iff.1 h4) hn
  have hcg:=h3 g (by rw [hv];rfl)
  have hlt:=blk_lt hh
  obtain ⟨w',hw'⟩ : ∃ w',w.freeze { block:=g,off:=cur.size } 1=w':=⟨_,rfl⟩
  have hb:w'.heap[g]?=some (.cells cur E.ty (cur.size,cur.size + 1)):=by
    rw [← hw'];unfold World.freeze;rw [if_neg (by decide)]
    obtain ⟨h5,h6⟩:=Array.getElem?_eq_some_iff.1 hh
    show (w.heap.modify g _)[g]?=_
    rw [Array.getElem?_eq_getElem (by rw [Array.size_modify];exact h5),Array.getElem_modify_self,h6]
    rfl
  have ho' : ∀ k,k ≠ g→w'.heap[k]?=w.heap[k]?:=fun k hk=>by
    rw [← hw'];unfold World.freeze;rw [if_neg (by decide)]
    show (w.heap.modify g _)[k]?=_
    by_cases hk' : k < w.heap.size
    · rw [Array.getElem?_eq_getElem (by rw [Array.size_modify];exact hk'),Array.getElem_modify_of_ne (Ne.symm hk),Array.getElem?_eq_getElem hk']
    · rw [Array.getElem?_eq_none (by rw [Array.size_modify];omega),Array.getElem?_eq_none (by omega)]
  refine OS.val (v:=v) (w':=w') ?_ (h w' ?_ ⟨by rw [← hw'];rfl,by rw [← hw'];rfl,by rw [← hw'];rfl,?_,fun _ _ _=>rfl,fun b _ hn=>ho' b fun e=>hn (by simp [e,hcg])⟩)
  · have hsh:w.shape? g=some (E.ty,cur.size):=by unfold World.shape?;rw [hh]
    unfold execOp;rw [ho]
    simp [hx,hv,convert,run_underlying ht,run_underlying he,markStringish,hsh,hw']
  · refine .inr ⟨g,0,cap,cur,E.ty,_,hv,hnc,hcg,hb,fun j u hu=>?_⟩
    rw [← htk,List.getElem?_take] at hu
    split at hu
    · rw [Nat.zero_add];simpa using hu
    · cases hu
  · rw [← hw'];unfold World.freeze;rw [if_neg (by decide)];simp
theorem OS.bytesToStr {i : Nat} {xs : List UInt8} {s t e : TypeId} (ho : o.op = .convert s t x) (hs : P.underlying s = some (.slice e)) (he : P.underlying e = some (.int .u8)) (ht : P.underlying t = some .string) (hx : ev f x = v)
    (hv:Vw (eU8 e) i w c v xs) (h:R (vS xs) w):OS P o f w R:=by
  refine OS.val (v:=vS xs) (w':=w) ?_ h
  unfold execOp;rw [ho]
  rcases hv with ⟨rfl | ⟨a0,q0,rfl⟩,rfl⟩ | ⟨b,off,cap,cs,T,fz,h1,h2,h3,h4,h5⟩
  · have hr:(convert s t (.slice none 0 0)).run P w = .ok (vS []) w:=by
      rw [run_convert_bytes_string w s t e none 0 0 hs he ht];simp [Conv.bytesToString];rfl
    simp [hx,hr]
  · have hr:=run_convert_bytes_back (P:=P) w s t e a0 q0 [] hs he ht (fun j hj=>by simp at hj)
    simp only [List.length_nil] at hr
    simp [hx,hr]
  · have hr:=run_convert_bytes_back (P:=P) w s t e ⟨b,off,none⟩ cap xs hs he ht (fun j hj=>by
      rw [Addr.add_lit,cell_of_row w b _ cs T fz h4]
      exact h5 j _ (fl_get1 rfl (List.getElem?_eq_getElem hj) rfl))
    simp [hx,h1,hr]
theorem cells_sl {n : Nat} (h : IsSl v n) : v.cells = [v].toArray := by rcases h with ⟨rfl | ⟨a, q, rfl⟩, _⟩ | ⟨b, o, cap, rfl⟩ <;> rfl
theorem one_sl {n : Nat} (h : IsSl v n) : ∀ u ∈ [v], u.oneCell' = true := by
  intro u hu;simp at hu;subst hu
  rcases h with ⟨rfl | ⟨a,q,rfl⟩,_⟩ | ⟨b,o,cap,rfl⟩ <;> rfl
theorem fnQ.lsN {fn : Func} {Rr : Ending → World → Prop} (hr : fn.results = #[]) (h : Rr (.returned (.tuple #[])) w) : fnQ P fn Rr .normal f w := fnQ.ls (rs := []) (vs := []) (f := f) hr trivial h (by simp)
end
end Go.Proofs.YtgmgahphjiiceaaGreat.L
