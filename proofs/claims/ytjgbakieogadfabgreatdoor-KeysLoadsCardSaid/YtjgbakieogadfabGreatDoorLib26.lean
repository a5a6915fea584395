/-
  What comes in,opened: package tables. No program in sight.
-/
import Derived.Test.YtjgbakieogadfabGreatDoorLib23
import Derived.Test.YtjgbakieogadfabGreatDoorLib25
import Derived.Lib.LaidTab
namespace Go.Proofs.YtjgbakieogadfabGreatDoor.L
open Go Go.ChangeShapes Go.WideShapes Go.ChangeAt Go.RowKit
theorem laidVars_at {P:Program} {w:World} : ∀ {l:List (String×DataW Unit)} {ps:List MemPlace},DataW.LaidVars P w l ps→∀ n d,(n,d) ∈ l →
    ∃ g t cs fuel p,P.globalNamed n=some g∧(P.globals[g]?).map (·.type)=some t∧w.var? P n=some cs∧DataW.trod (fun _=>()) P w 0 (fun _=>true) false fuel t cs.toList=some (d,p)∧∀ x,x ∈ MemPlace.row ⟨g,0,none⟩ cs.size→x ∈ ps
  | [],_,_,_,_,hm=>by cases hm
  | (n',d') :: r,ps,h,n,d,hm=>by
    obtain ⟨g,t,cs,fuel,p,q,h1,h2,h3,h4,h5,h6⟩:=h
    rcases List.mem_cons.1 hm with e | e
    · cases e
      exact ⟨g,t,cs,fuel,p,h1,h2,h3,h4,fun x hx=>by rw [h6];simp [hx]⟩
    · obtain ⟨g',t',cs',fuel',p',k1,k2,k3,k4,k5⟩:=laidVars_at h5 n d e
      exact ⟨g',t',cs',fuel',p',k1,k2,k3,k4,fun x hx=>by rw [h6];simp [k5 x hx]⟩
theorem tab_arr {P:Program} {W:World} {l:List (String×DataW Unit)} {α:Type} {E:Enc α} {c:Col} {xs:List α} {name:String} {d:DataW Unit} {g:Nat} {t e:TypeId} {n:Nat} {k:IntKind} {zs:List Int}
    (h:laidMet P l W) (hm:(name,d) ∈ l) (hd:d=Lib.tabData k zs) (hg:P.globalNamed name=some g) (hty:(P.globals[g]?).map (·.type)=some t) (ht:P.underlying t=some (.array n e)) (he:P.underlying e=some (.int k))
    (hce:P.cellsOf e=1) (hct:P.cellsOf t=n) (hn:zs.length ≠ 0) (hfl:fl E xs=zs.map fun z=>Value.int k z) (hc:c g=0):Arr E 0 W c (.pointer (some ⟨g,0,none⟩)) xs:=by
  obtain ⟨ps,hv,_,hp⟩:=h
  obtain ⟨g',t',cs,fuel,p,h1,h2,h3,h4,h5⟩:=laidVars_at hv name d hm
  obtain rfl:=Option.some.inj (hg.symm.trans h1)
  obtain rfl:=Option.some.inj (hty.symm.trans h2)
  subst hd
  have hcs:=Lib.cells_of_tab ht he hce hct h4
  have hsz:cs.size ≠ 0:=by
    have:=congrArg List.length hcs
    simp at this;omega
  obtain ⟨⟨c',T,hh⟩,_⟩:=hp g 0 (h5 _ (by simp only [MemPlace.row,List.mem_map,List.mem_range];exact ⟨0,by omega,rfl⟩))
  unfold World.var? at h3
  rw [hg] at h3
  simp only [Option.bind_some,hh,Option.some.injEq] at h3
  subst h3
  refine ⟨g,T,rfl,hc,?_⟩
  rw [hh,hfl,← hcs]
end Go.Proofs.YtjgbakieogadfabGreatDoor.L
