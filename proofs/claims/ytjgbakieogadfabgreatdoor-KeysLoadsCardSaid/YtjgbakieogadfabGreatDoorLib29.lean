/-
  Shorter names for the walks' commonest steps. No program in sight.
-/
import Derived.Test.YtjgbakieogadfabGreatDoorLib28
namespace Go.Proofs.YtjgbakieogadfabGreatDoor.L
open Go
section
variable {P:Program} {N:Nat} {D:Cx} {f:Fr} {w:World} {c:Col} {ops rest:List Oper} {o:Oper} {Q:Exit→Fr→World→Prop}
theorem kt {d dj j:Nat} {b b':Bool} (h:(o.guard,(ops[j]?).bind (·.dst),o.dst,Nat.blt d N)=(some (j,b'),some dj,some d,true)) (hb:msk D N f dj = .bool b) (hg:b=b')
    (k:OS P o (msk D N f) w fun v w'=>WR P ops N D Q rest (up f d v) w'):WR P ops N D Q (o :: rest) f w:=by
  simp only [Prod.mk.injEq] at h;exact WR.kT h.1 h.2.1 (by rw [hb,hg]) h.2.2.1 h.2.2.2 k
theorem gf {d dj j:Nat} {b b':Bool} (h:(o.guard,(ops[j]?).bind (·.dst),o.dst,Nat.blt d N)=(some (j,b'),some dj,some d,true)) (hb:msk D N f dj = .bool b) (hg:b=!b')
    (k:WR P ops N D Q rest (up f d undef) w):WR P ops N D Q (o :: rest) f w:=by
  simp only [Prod.mk.injEq] at h;exact WR.gF h.1 h.2.1 (by rw [hb,hg]) h.2.2.1 h.2.2.2 k
theorem tq {K:Fr→World→Prop} (h:Q .ret f w):thenQ K Q .ret f w:=h
theorem bq {id:Nat} (h:Q .ret f w):blkQ id Q .ret f w:=h
theorem St.mg {d:Col} {w w':World} (n:Nat) (h:St [] w c0 w' d):∃ c',St [] w c w' c':=⟨_,h.merge (fun x=>x+n)⟩
theorem ua {C:Nat→Bool} {f g:Fr} {v:Value} (h:∀ t,C t=false→g t=f t) (t:Nat) (hx:f t=v) (hc:C t=false:=by kernel_rfl):g t=v:=(h t hc).trans hx
end
/-! what is told of slots stays told,where the slots are as they were -/
section
variable {s t n a b:Nat} {X p:Value} {L:List Nat} (y1 y2:Fr) (w:World) (c:Col) (I:List Nat) (w':World) (c':Col)
theorem se (h:y1 t=X) (e:AllL (fun t=>y2 t=y1 t) [t]) (_:St I w c w' c') (_:∀ x,x ∈ L→x ∉ I):y2 t=X:=e.1.trans h
theorem se2 (h:y1 s=y1 t) (e:AllL (fun t=>y2 t=y1 t) [s,t]) (_:St I w c w' c') (_:∀ x,x ∈ L→x ∉ I):y2 s=y2 t:=e.1.trans (h.trans e.2.1.symm)
theorem sp (h:y1 t=prj n (y1 s)) (e:AllL (fun t=>y2 t=y1 t) [s,t]) (_:St I w c w' c') (_:∀ x,x ∈ L→x ∉ I):y2 t=prj n (y2 s):=by rw [e.1,e.2.1]; exact h
theorem sa (h:AdrP p a b (y1 t)) (e:AllL (fun t=>y2 t=y1 t) [t]) (_:St I w c w' c') (_:∀ x,x ∈ L→x ∉ I):AdrP p a b (y2 t):=by rw [e.1]; exact h
end
/-! a return passes what waits behind it -/
class RetQ (Q:Exit→Fr→World→Prop) (Q':outParam (Exit→Fr→World→Prop)):Prop where
  ret:∀ f w,Q' .ret f w→Q .ret f w
instance retI {Q:Exit→Fr→World→Prop} : RetQ Q Q:=⟨fun _ _ h=>h⟩
instance retT {K:Fr→World→Prop} {Q Q':Exit→Fr→World→Prop} [h:RetQ Q Q']:RetQ (thenQ K Q) Q':=⟨fun f w x=>thenQ_ret (h.ret f w x)⟩
instance retB {id:Nat} {Q Q':Exit→Fr→World→Prop} [h:RetQ Q Q']:RetQ (blkQ id Q) Q':=⟨fun f w x=>blkQ_ret (h.ret f w x)⟩
theorem rt {Q Q':Exit→Fr→World→Prop} {f:Fr} {w:World} [h:RetQ Q Q'] (x:Q' .ret f w):Q .ret f w:=h.ret f w x
section
variable {P:Program} {f:Fr} {w:World} {v:Value} {fn:Func} {Rr:Ending→World→Prop}
theorem f1 {r:ResultVar} (hr:fn.results = #[r]) (h:Rr (.returned v) w) (h1:R1 P f w r v:=by exact .inl ⟨_,rfl,rfl⟩):fnQ P fn Rr .ret f w:=fnQ.l1 hr h1 h
theorem fq {rs:List ResultVar} {vs:List Value} (hr:fn.results=rs.toArray) (h:Rr (.returned (.tuple vs.toArray)) w) (h1:R1s P f w rs vs:=by repeat' first | exact .inl ⟨_,rfl,rfl⟩ | exact trivial | refine ⟨?_, ?_⟩) (hn:vs.length ≠ 1:=by simp):fnQ P fn Rr .ret f w:=fnQ.ls hr h1 h hn
end
theorem tf (b:Bool):b=true ∨ b=false:=Bool.eq_false_or_eq_true b
theorem bgt {α β:Type} {xs:List α} {i:Int} {g:α→Option β} {r:β} (h:(gt xs i).bind g=some r):∃ a,(0≤i∧i<xs.length∧xs[i.toNat]?=some a)∧g a=some r:=by
  obtain ⟨a,h1,h2⟩:=bind_some h
  exact ⟨a,gt_some h1,h2⟩
abbrev fs (t:Nat) (X:Value):FactF:=fun f _ _=>f t=X
abbrev fv (X:Value):Fact:=fun v _ _=>v=X
theorem xr {I:List Nat} {w:World} {c:Col} {v:Value} : ∃ c',St I w c w c'∧v=v:=⟨_,St.refl.mono (fun _ h=>nomatch h),rfl⟩
theorem sh {F:Value→Prop} {L:List Nat} (v:Value) (w:World) (c:Col) (I:List Nat) (w':World) (c':Col) (h:F v) (_:St I w c w' c') (_:∀ x,x ∈ L→x ∉ I):F v:=h
theorem xh {A:Value→Prop} {I:List Nat} {w:World} {c:Col} : ∀ p,A p→∃ c',St I w c w c'∧A p:=fun _ h=>⟨_,St.refl.mono (fun _ h=>nomatch h),h⟩
theorem dm {P:Program} {N:Nat} {D:Cx} {ops:List Oper} {i s:Nat} {C:Nat→Bool} {f:Fr} {X:Value} {S:World→Col→Prop} {A:Fr→World→Col→Prop} {R:Fr→World→Col→Value→World→Prop}
    (ho:(ops[i]?).map (fun o=>(o.op,o.guard))=some (.move (.tmp s),none)) (hx:f s=X) (hc:C s=false:=by kernel_rfl) (hm:∀ g:Fr,ev (msk D N g) (.tmp s)=g s:=by exact fun _=>rfl)
    (hR:∀ f' w' c',R f' w' c' X w':=by exact fun _ _ _=>xr) :
    ∀ f' w' c',(∀ t,C t=false→f' t=f t)→S w' c'→A f' w' c'→∀ o,ops[i]?=some o→OSG P ops o (msk D N f') w' (R f' w' c'):=by
  intro f' w' c' hB _ _ o h
  rw [h] at ho
  simp only [Option.map_some,Option.some.injEq,Prod.mk.injEq] at ho
  unfold OSG;rw [ho.2]
  exact OS.move ho.1 ((hm f').trans ((hB s hc).trans hx)) (hR f' w' c')
end Go.Proofs.YtjgbakieogadfabGreatDoor.L
