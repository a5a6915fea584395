/-
  What comes in,opened: plain structs,slices of plain structs,texts,small numbers. No program in sight.
-/
import Derived.Test.YtjgbakieogadfaaGreatDoorLib22
import Derived.Test.YtjgbakieogadfaaGreatDoorLib12
import Derived.OpenShut
import Derived.Deep.Slices
namespace Go.Proofs.YtjgbakieogadfaaGreatDoor.L
open Go Go.ChangeShapes Go.WideShapes Go.ChangeAt Go.RowKit
open Go.Deep (open_slice choose_lt)
section
variable {P : Program} {W : World} {base : Nat} {t e : TypeId} {v : Value} {H : Type} {enc : TypeId × Value → H} {base' : Nat} {spare : Nat → Bool} {held : Bool} {fuel : Nat} {cs : List Value} {x : DataW H × List MemPlace}
def Rd {α : Type} (enc : TypeId × Value → H) (P : Program) (W : World) (base' : Nat) (spare : Nat → Bool) (held : Bool) (t : TypeId) (f : α → List Value) (ok : α → Prop) : Prop :=
  ∀ fuel cs x,DataW.trod enc P W base' spare held fuel t cs=some x→∃ a,cs=f a∧ok a
theorem Rd.str (ht : P.underlying t = some .string) : Rd enc P W base' spare held t (fun s => [vS s]) (fun s : List UInt8 => s.length ≤ 9223372036854775807) := by
  intro fuel cs x h
  cases fuel with
  | zero=>simp [DataW.trod] at h
  | succ n =>
    unfold DataW.trod at h;rw [ht] at h
    split at h <;> simp_all
    rename_i s
    refine ⟨s.data.toList,?_,?_⟩
    · cases s;simp
    · have h1:s.data.size≤maxLen:=h.1
      unfold maxLen at h1
      rw [Array.length_toList];omega
theorem trod_int {k : IntKind} (ht : P.underlying t = some (.int k)) (h : DataW.trod enc P W base' spare held fuel t cs = some x) : ∃ n : Int, cs = [.int k n] ∧ k.has n := by
  cases fuel with
  | zero=>simp [DataW.trod] at h
  | succ m =>
    match cs,h with
    | [],h=>unfold DataW.trod at h;rw [ht] at h;simp at h
    | v :: u :: l,h=>unfold DataW.trod at h;rw [ht] at h;cases v <;> simp at h
    | [v],h =>
      unfold DataW.trod at h;rw [ht] at h
      cases v with
      | int k' n =>
        simp only at h
        split at h
        · rename_i hk
          obtain ⟨rfl,hw⟩:=hk
          exact ⟨n,rfl,by simpa [Lit.wf,IntKind.has] using hw⟩
        · cases h
      | _=>simp at h
theorem Rd.i64 (ht : P.underlying t = some (.int .i64)) : Rd enc P W base' spare held t (fun n => [vI n]) (fun n : Int => -9223372036854775808 ≤ n ∧ n ≤ 9223372036854775807) := by
  intro fuel cs x h
  obtain ⟨n,rfl,h1,h2⟩:=trod_int ht h
  exact ⟨n,rfl,h1,h2⟩
theorem Rd.u8 (ht : P.underlying t = some (.int .u8)) : Rd enc P W base' spare held t (fun n => [vU8 n]) (fun _ : UInt8 => True) := by
  intro fuel cs x h
  obtain ⟨n,rfl,hw⟩:=trod_int ht h
  exact ⟨_,by rw [hu8_of hw],trivial⟩
theorem trod_st {fs : Array Field} (ht : P.underlying t = some (.struct fs)) (h : DataW.trod enc P W base' spare held fuel t cs = some x) :
    cs.length=P.cellsOf t∧∀ f ∈ fs.toList,∃ n y,DataW.trod enc P W base' spare held n f.type ((cs.drop f.offset).take (P.cellsOf f.type))=some y:=by
  cases fuel with
  | zero=>simp [DataW.trod] at h
  | succ n =>
    unfold DataW.trod at h;rw [ht] at h
    simp only at h
    split at h
    · rename_i hl
      refine ⟨hl,fun f hf=>?_⟩
      rw [Option.map_eq_some_iff] at h
      obtain ⟨xs,hx,_⟩:=h
      have key:∀ (l:List Field) (ys:List (DataW H × List MemPlace)),l.mapM (fun f=>DataW.trod enc P W base' spare held n f.type ((cs.drop f.offset).take (P.cellsOf f.type)))=some ys→∀ f ∈ l,∃ y,DataW.trod enc P W base' spare held n f.type ((cs.drop f.offset).take (P.cellsOf f.type))=some y:=by
        intro l
        induction l with
        | nil=>intro ys _ f hf;cases hf
        | cons g l ih =>
          intro ys hy f hf
          rw [List.mapM_cons] at hy
          obtain ⟨y,h1,h2⟩:=Option.bind_eq_some_iff.1 hy
          obtain ⟨zs,h3,_⟩:=Option.bind_eq_some_iff.1 h2
          rcases List.mem_cons.1 hf with rfl | hf
          · exact ⟨y,h1⟩
          · exact ih zs h3 f hf
      obtain ⟨y,hy⟩:=key _ _ hx f hf
      exact ⟨n,y,hy⟩
    · cases h
theorem open_flat {α : Type} [Inhabited α] {E : Enc α} {ok : α → Prop} (ht : P.underlying t = some (.slice E.ty)) (hc : P.cellsOf E.ty = E.sz) (fr : Rd enc P W base' spare held E.ty E.e ok) (hv : Cell.okWide P W .any base t v)
    (h:DataW.trod enc P W base' spare held fuel t [v]=some x) (c:Col) (hcol:∀ b,c b=0):∃ xs,Vw E 0 W c v xs∧∀ a ∈ xs,ok a:=by
  rcases open_slice ht h with ⟨h1,_⟩ | ⟨a,len,cap,m,n,D,Pl,h1,_,hl,hm,hmm,_,hx⟩
  · cases h1;exact ⟨[],.inl ⟨.inl rfl,rfl⟩,fun _ h=>by cases h⟩
  · cases h1
    simp only [Cell.okWide,ht,Cell.ok] at hv
    obtain ⟨_,_,_,hsp,row,cells,hsh,_⟩:=hv
    obtain ⟨b,off,spot⟩:=a
    simp only at hsp;subst hsp
    obtain ⟨cs,T,fz,hb⟩ : ∃ cs T fz,W.heap[b]?=some (.cells cs T fz):=by
      unfold World.shape? at hsh
      cases ho:W.heap[b]? with
      | none=>simp [ho] at hsh
      | some o=>cases o <;> simp [ho] at hsh;exact ⟨_,_,_,rfl⟩
    have hlm:len≤m:=by rw [hmm];split <;> omega
    rw [hc] at hx
    obtain ⟨V,hV⟩:=choose_lt (α:=α) (n:=len) (p:=fun i a=>W.cells? base' ((⟨b,off,none⟩ : Addr).add (i * E.sz)) E.sz=some (E.e a)∧ok a) (fun i hi=>by
      obtain ⟨cs',h1,h2⟩:=hx i (by omega)
      obtain ⟨a,rfl,ha⟩:=fr _ _ _ h2
      exact ⟨a,h1,ha⟩)
    refine ⟨(List.range len).map V,.inr ⟨b,off,cap,cs,T,fz,by simp,by simpa using hl,hcol b,hb,fun j u hu=>?_⟩,fun a ha=>?_⟩
    · have hp:=E.pos
      have hjl:j < len * E.sz:=by
        rcases Nat.lt_or_ge j (len * E.sz) with h | h
        · exact h
        · rw [List.getElem?_eq_none (by rw [fl_length];simpa using h)] at hu;cases hu
      rw [fl_getK E _ j (by simpa using hjl)] at hu
      have hq:j / E.sz < len:=(Nat.div_lt_iff_lt_mul hp).2 hjl
      have hr:j % E.sz < E.sz:=Nat.mod_lt _ hp
      simp only [List.getElem?_map,List.getElem?_range hq,Option.map_some,Option.bind_some] at hu
      obtain ⟨_,_,hcell⟩:=World.cells?_some (hV _ hq).1
      have h3:=hcell _ hr
      rw [hu] at h3
      rw [Addr.add_lit,Addr.add_lit,cell_of_row W b _ cs T fz hb] at h3
      have e:off + j / E.sz * E.sz + j % E.sz=off + j:=by
        have:=Nat.div_add_mod j E.sz
        rw [Nat.mul_comm] at this;omega
      rw [e] at h3;exact h3
    · obtain ⟨i,hi,rfl⟩:=List.mem_map.1 ha
      exact (hV i (by simpa using hi)).2
end
end Go.Proofs.YtjgbakieogadfaaGreatDoor.L
