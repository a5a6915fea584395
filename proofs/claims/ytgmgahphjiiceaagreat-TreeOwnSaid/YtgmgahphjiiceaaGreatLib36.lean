/-
  Two slices of bytes are compared. No program in sight.
-/
import Derived.Test.YtgmgahphjiiceaaGreatLib35
import Derived.Lib.Bytealg
import Derived.Lib.BytesEntry
namespace Go.Proofs.YtgmgahphjiiceaaGreat.L
open Go
section
variable {P : Program} {f : Fr} {w : World} {c : Col} {o : Oper} {R : Value → World → Prop} {x y : Operand} {u v : Value} {i j : Nat} {t : TypeId} {xs ys : List UInt8}
theorem run_bytesOf (h : Vw (eU8 t) i w c v xs) : ∃ b : ByteArray, (Extern.Bytes.bytesOf v).run P w = .ok b w ∧ b.data.toList = xs := by
  rcases h with ⟨h1,h2⟩ | ⟨b,off,cap,cs,T,fz,h1,h2,h3,h4,h5⟩
  · subst h2
    rcases h1 with rfl | ⟨a,cap,rfl⟩
    · exact ⟨.empty,rfl,rfl⟩
    · exact ⟨.empty,rfl,rfl⟩
  · subst h1
    have:=Lib.run_loadBytesX (P:=P) w (xs.map fun x=>(x.toNat:Int)) ⟨b,off,none⟩ .empty fun j x hx=>by
      rw [List.getElem?_map,Option.map_eq_some_iff] at hx
      obtain ⟨y,hy,rfl⟩:=hx
      rw [Addr.add_lit,cell_of_row w b _ cs T fz h4]
      refine h5 j _ ?_
      rw [fl_u8,List.getElem?_map,hy];rfl
    rw [List.length_map] at this
    refine ⟨_,this,?_⟩
    simp only [Lib.bytesOf,List.map_map]
    have e:((fun x:Int=>x.toNat.toUInt8) ∘ fun x:UInt8=>(x.toNat:Int))=id:=by funext x;simp
    simp [e]
theorem OS.cmpB {g : FuncId} {fn : Func} {ts : Array TypeId} (ho : o.op = .call { callee := .value (.func g), args := #[x, y], argTypes := ts }) (hx : ev f x = u) (hy : ev f y = v)
    (hf:P.funcs[g]?=some fn) (hname:(fn.name == "runtime.NumGoroutine")=false) (hb:fn.body.isNone=true) (hn:Extern.findNext fn=none) (he:Extern.find fn=some Extern.BytealgCompare.compare)
    (h1:Vw (eU8 t) i w c u xs) (h2:Vw (eU8 t) j w c v ys) (h:R (vI (Lib.compareBytes xs ys)) w):OS P o f w R:=by
  obtain ⟨a,ha,rfl⟩:=run_bytesOf (P:=P) h1
  obtain ⟨b,hb',rfl⟩:=run_bytesOf (P:=P) h2
  have hr:(callFunc g #[u,v]).run P w = .ok (.value (vI (Lib.compareBytes a.data.toList b.data.toList))) w:=by
    rw [run_callFunc_extern hf hname hb hn he]
    change ((Sem.run P (do pure (goInt (Extern.BytealgCompare.cmp (← Extern.Bytes.bytesOf u) (← Extern.Bytes.bytesOf v)))) w).andThen _)=_
    simp only [Sem.run_bind,ha,hb',Result.andThen_ok,Sem.run_pure,Lib.cmp_eq]
    rfl
  refine OS.val (v:=vI (Lib.compareBytes a.data.toList b.data.toList)) (w':=w) ?_ h
  unfold execOp;rw [ho]
  have e1:(#[x,y].map (ev f)) = #[u,v]:=by simp [hx,hy]
  simp only [resolve,e1,Sem.run_bind,ev,Deferred.ofValue,Sem.run_pure,Result.andThen_ok,invoke]
  simp [hr]
end
end Go.Proofs.YtgmgahphjiiceaaGreat.L
