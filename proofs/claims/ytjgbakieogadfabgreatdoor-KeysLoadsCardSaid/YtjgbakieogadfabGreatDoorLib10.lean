/-
  Smaller things: 16 bits,slices as elements,boxes read by parts,a slice held against nil. No program in sight.
-/
import Derived.Test.YtjgbakieogadfabGreatDoorLib9
import Derived.Laws.Cover3
namespace Go.Proofs.YtjgbakieogadfabGreatDoor.L
open Go
structure Sl where
  a:Option Addr
  n:Nat
  cap:Nat
def Sl.val (s:Sl):Value := .slice s.a s.n s.cap
def toSl:Value→Sl
  | .slice a n c=>⟨a,n,c⟩
  | _=>⟨none,0,0⟩
abbrev eL (t:TypeId):Enc Sl:=Enc.of1 t (fun s=>s.val) fun _=>rfl
theorem toSl_val {v:Value} {n:Nat} (h:IsSl v n):(toSl v).val=v:=by
  rcases h with ⟨rfl | ⟨a,q,rfl⟩,_⟩ | ⟨b,o,cap,rfl⟩ <;> rfl
section
variable {P:Program} {f:Fr} {w:World} {c:Col} {o:Oper} {R:Value→World→Prop} {x y:Operand} {v u p q:Value}
theorem Bx.ptr {i:Nat} {us:List Value} (h:Bx i w c p us):∃ b,p = .pointer (some ⟨b,0,none⟩):=let ⟨b,_,h,_⟩:=h; ⟨b,h⟩
def isNil:Value→Bool
  | .slice a _ _=>a.isNone
  | _=>false
theorem OS.eqNil {t t' e:TypeId} {n:Nat} (ho:o.op = .binOp .eql t x y t') (ht:P.underlying t=some (.slice e)) (hx:ev f x=v) (hv:IsSl v n) (hy:ev f y = .slice none 0 0) (h:R (.bool (isNil v)) w):OS P o f w R:=by
  refine OS.val (v := .bool (isNil v)) (w':=w) ?_ h
  unfold execOp;rw [ho]
  have hv':∃ a n cap,v = .slice a n cap:=by rcases hv with ⟨rfl | ⟨a,q,rfl⟩,_⟩ | ⟨b,o,cap,rfl⟩ <;> exact ⟨_,_,_,rfl⟩
  obtain ⟨a,n,cap,rfl⟩:=hv'
  have hg:∀ w,(eqGuard .eql t x y (.slice a n cap) (.slice none 0 0)).run P w = .ok () w:=by intro w;unfold eqGuard;simp
  simp [hx,hy,hg,binOp,run_equal_slice_nil w t e a n cap ht,isNil]
theorem Vw.nil_of {α:Type} {E:Enc α} {i:Nat} {xs:List α} (h:Vw E i w c v xs) (hn:isNil v=true):v = .slice none 0 0∧xs=[]:=by
  rcases h with ⟨h | ⟨a,q,h⟩,h'⟩ | ⟨b,off,cap,cs,T,fz,h1,_⟩
  · exact ⟨h,h'⟩
  · rw [h] at hn;cases hn
  · rw [h1] at hn;cases hn
end
theorem Bx.recol {i:Nat} {us:List Value} {w:World} {c:Col} {p:Value} (h:Bx i w c p us) (j:Nat):∃ c',St [i] w c w c'∧Bx j w c' p us:=by
  obtain ⟨b,T,h1,h2,h3⟩:=h
  have hs:=St.recol (w:=w) (c:=c) b j
  rw [h2] at hs
  exact ⟨_,hs,b,T,h1,pc_same,h3⟩
theorem St.entry1 {I:List Nat} {w w':World} {c c':Col} (h:St I w c w' c') (hc:∀ b,c b=0 ∨ c b=1) (h0:0 ∉ I:=by decide):St [1] w c w' c' :=
  h.less fun b _ hi=>by rcases hc b with e | e <;> rw [e] at hi ⊢ <;> first | exact absurd hi h0 | simp
theorem Taken.of {P:Program} {f:Fr} {n:Nat} {v:Value} {w w':World} (h:f n=v) (t:Taken P (dec v) w w'):Taken P (dec (f n)) w w':=by rw [h]; exact t
theorem Bx.merge {i:Nat} {us:List Value} {w w':World} {c d:Col} {p:Value} (r:Nat→Nat) (s:St [] w c0 w' d) (h:Bx i w' d p us) (h0:i ≠ 0):Bx (r i) w' (mg w c r d) p us:=by
  obtain ⟨b,T,h1,h2,h3⟩:=h
  exact ⟨b,T,h1,by rw [mg_new (s.new h2 h0),h2],h3⟩
def L3 {α:Type} (E':Enc α) (w:World) (c:Col):List Nat→List Sl→List (List α)→Prop
  | k :: ks,s :: ss,x :: xs=>Vw E' k w c s.val x∧L3 E' w c ks ss xs
  | [],[],[]=>True
  | _,_,_=>False
def L2 {α:Type} (E':Enc α) (j:Nat) (w:World) (c:Col):List Sl→List (List α)→Prop
  | s :: ss,x :: xs=>Vw E' j w c s.val x∧L2 E' j w c ss xs
  | [],[]=>True
  | _,_=>False
def Dw {α:Type} (E:Enc Sl) (E':Enc α) (i:Nat) (ks:List Nat) (w:World) (c:Col) (v:Value) (xss:List (List α)):Prop:=∃ ss,Ow E i w c v ss∧L3 E' w c ks ss xss
def Dv {α:Type} (E:Enc Sl) (E':Enc α) (i j:Nat) (w:World) (c:Col) (v:Value) (xss:List (List α)):Prop:=∃ ss,Vw E i w c v ss∧L2 E' j w c ss xss
section
variable {α:Type} {E:Enc Sl} {E':Enc α} {w w':World} {c c':Col} {v:Value} {xss:List (List α)} {i j:Nat} {ks I:List Nat}
theorem L3.keep (s:St I w c w' c'):∀ {ks:List Nat} {ss:List Sl} {xss:List (List α)},L3 E' w c ks ss xss→(∀ k,k ∈ ks→k ∉ I)→L3 E' w' c' ks ss xss
  | _ :: _,_ :: _,_ :: _,⟨h1,h2⟩,hk=>⟨h1.keep s (hk _ (by simp)),L3.keep s h2 fun k h=>hk k (by simp [h])⟩
  | [],[],[],_,_=>trivial
theorem L2.keep (s:St I w c w' c') (hj:j ∉ I):∀ {ss:List Sl} {xss:List (List α)},L2 E' j w c ss xss→L2 E' j w' c' ss xss
  | _ :: _,_ :: _,⟨h1,h2⟩=>⟨h1.keep s hj,L2.keep s hj h2⟩
  | [],[],_=>trivial
theorem L3.forget:∀ {ks:List Nat} {ss:List Sl} {xss:List (List α)},L3 E' w c ks ss xss→L2 E' 0 w c0 ss xss
  | _ :: _,_ :: _,_ :: _,⟨h1,h2⟩=>⟨h1.forget,L3.forget h2⟩
  | [],[],[],_=>trivial
theorem L2.len:∀ {ss:List Sl} {xss:List (List α)},L2 E' j w c ss xss→ss.length=xss.length
  | _ :: _,_ :: _,⟨_,h2⟩=>by simp [L2.len h2]
  | [],[],_=>rfl
theorem L2.get:∀ {ss:List Sl} {xss:List (List α)} {k:Nat} {x:List α},L2 E' j w c ss xss→xss[k]?=some x→∃ s,ss[k]?=some s∧Vw E' j w c s.val x
  | s :: _,_ :: _,0,_,⟨h1,_⟩,h=>by simp at h;subst h;exact ⟨s,by simp,h1⟩
  | _ :: _,_ :: _,k+1,_,⟨_,h2⟩,h=>by simpa using L2.get (k:=k) h2 (by simpa using h)
  | [],[],_,_,_,h=>by simp at h
theorem Dw.keep (h:Dw E E' i ks w c v xss) (s:St I w c w' c') (hk:∀ k,k ∈ i :: ks→k ∉ I:=by decide):Dw E E' i ks w' c' v xss:=by
  obtain ⟨ss,h1,h2⟩:=h;exact ⟨ss,h1.keep s (hk _ (by simp)),h2.keep s fun k h=>hk k (by simp [h])⟩
theorem Dv.keep (h:Dv E E' i j w c v xss) (s:St I w c w' c') (hk:∀ k,k ∈ [i,j]→k ∉ I:=by decide):Dv E E' i j w' c' v xss:=by
  obtain ⟨ss,h1,h2⟩:=h;exact ⟨ss,h1.keep s (hk _ (by simp)),h2.keep s (hk _ (by simp))⟩
theorem Dw.forget (h:Dw E E' i ks w c v xss):Dv E E' 0 0 w c0 v xss:=by obtain ⟨ss,h1,h2⟩:=h; exact ⟨ss,h1.vw.forget,h2.forget⟩
theorem Dv.isSl (h:Dv E E' i j w c v xss):IsSl v xss.length:=by obtain ⟨ss,h1,h2⟩:=h; rw [← h2.len]; exact h1.isSl
theorem Dv.ldD (h:Dv E E' i j w c v xss) (hE:∀ s,E.e s=[s.val]) {k:Nat} {q:Value} {x:List α} (ha:Adr v k E.sz q) (hk:xss[k]?=some x):∃ s:Sl,Ld w q [s.val]∧Vw E' j w c s.val x:=by
  obtain ⟨ss,h1,h2⟩:=h
  obtain ⟨s,h3,h4⟩:=h2.get hk
  refine ⟨s,?_,h4⟩
  have:=h1.ld ha h3;rwa [hE] at this
theorem Vw.toSl {i:Nat} {xs:List α} (h:Vw E' i w c v xs):Vw E' i w c (L.toSl v).val xs:=by rw [toSl_val h.isSl]; exact h
theorem OS.bsliceD {P:Program} {f:Fr} {o:Oper} {R:Value→World→Prop} {t:TypeId} {n:Nat} {ps:List (Nat×Operand)} (i:Nat) (ks:List Nat) (xss:List (List α)) (ss:List Sl) (vs:List (Nat×Value)) (ho:o.op = .buildSlice t n ps.toArray) (hp:PV f ps vs)
    (hr:∀ w,(Instr.buildSlice t n vs.toArray).run P w = .ok (.slice (some ⟨w.heap.size,0,none⟩) n n) { w with heap:=w.heap.push (.cells (fl E ss).toArray E.ty) })
    (hn:ss.length=n) (hm:n≤maxLen) (hl:L3 E' w c ks ss xss) (h:∀ v w' c',Dw E E' i ks w' c' v xss→St [] w c w' c'→R v w'):OS P o f w R :=
  OS.bslice i ss vs ho hp hr hn hm fun v w' c' h1 h2=>h v w' c' ⟨ss,h1,h2' h2⟩ h2
where h2' {w':World} {c':Col} (s:St [] w c w' c'):L3 E' w' c' ks ss xss:=hl.keep s (by simp)
end
theorem OS.capNil {P:Program} {f:Fr} {w:World} {o:Oper} {R:Value→World→Prop} {x:Operand} {t e:TypeId} (ho:o.op = .call { callee := .builtin .cap,args := #[x],argTypes := #[t] }) (ht:∀ w,(underlying t).run P w = .ok (.slice e) w)
    (hx:ev f x = .slice none 0 0) (h:R (vI 0) w):OS P o f w R:=by
  refine OS.val (v:=vI 0) (w':=w) ?_ h
  unfold execOp;rw [ho]
  simp [resolve,invoke,builtin,Builtin.cap_,hx,ht,goInt]
def jm {β:Type} (j:Option Nat) (a:Option β) (b:Nat→Option β):Option β :=
  match j with
  | none=>a
  | some i=>b i
end Go.Proofs.YtjgbakieogadfabGreatDoor.L
