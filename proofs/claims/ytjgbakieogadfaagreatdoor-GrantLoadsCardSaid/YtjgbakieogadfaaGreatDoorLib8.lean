/-
  A range over a function. No program in sight.
-/
import Derived.Test.YtjgbakieogadfaaGreatDoorLib7
namespace Go.Proofs.YtjgbakieogadfaaGreatDoor.L
open Go

def nm (U : List Nat) (c : Col) : Col := fun b => cond (U.contains (c b)) (c b) 10
def dv (M : List Nat) (c : Col) : Col := fun b => cond (M.contains (c b)) 1 0
theorem nm_in {U : List Nat} {c : Col} {b i : Nat} (h : c b = i) (hi : i ∈ U) : nm U c b = i := by
  subst h;unfold nm
  have:U.contains (c b)=true:=by simpa using hi
  rw [this];rfl
theorem dv_out {M : List Nat} {c : Col} {b i : Nat} (h : c b = i) (hi : i ∉ M) : dv M c b = 0 := by
  subst h;unfold dv
  have:M.contains (c b)=false:=by simpa using hi
  rw [this];rfl
section
variable {α : Type} {E : Enc α} {w w' : World} {c c' d : Col} {v p : Value} {xs ys : List α} {i j : Nat} {U M : List Nat}
theorem Vw.tr (h : Vw E i w c v xs) (hc : ∀ b, c b = i → d b = j) : Vw E j w d v xs := by
  rcases h with h | ⟨b,off,cap,cs,T,fz,h1,h2,h3,h4,h5⟩
  · exact .inl h
  · exact .inr ⟨b,off,cap,cs,T,fz,h1,h2,hc b h3,h4,h5⟩
theorem Ow.tr (h : Ow E i w c v xs) (hc : ∀ b, c b = i → d b = j) : Ow E j w d v xs := ⟨h.1, fun g hg => hc g (h.2 g hg)⟩
theorem Arr.tr (h : Arr E i w c v xs) (hc : ∀ b, c b = i → d b = j) : Arr E j w d v xs := by
  obtain ⟨b,T,h1,h2,h3⟩:=h;exact ⟨b,T,h1,hc b h2,h3⟩
theorem Bx.tr {us : List Value} (h : Bx i w c v us) (hc : ∀ b, c b = i → d b = j) : Bx j w d v us := by
  obtain ⟨b,T,h1,h2,h3⟩:=h;exact ⟨b,T,h1,hc b h2,h3⟩
theorem Vw.nm (h : Vw E i w c v xs) (hi : i ∈ U) : Vw E i w (nm U c) v xs := h.tr fun _ h => nm_in h hi
theorem Ow.nm (h : Ow E i w c v xs) (hi : i ∈ U) : Ow E i w (L.nm U c) v xs := h.tr fun _ h => nm_in h hi
theorem Arr.nm (h : Arr E i w c v xs) (hi : i ∈ U) : Arr E i w (L.nm U c) v xs := h.tr fun _ h => nm_in h hi
theorem Bx.nm {us : List Value} (h : Bx i w c v us) (hi : i ∈ U) : Bx i w (L.nm U c) v us := h.tr fun _ h => nm_in h hi
theorem Vw.dv (h : Vw E i w c v xs) (hi : i ∉ M) : Vw E 0 w (L.dv M c) v xs := h.tr fun _ h => dv_out h hi
theorem Arr.dv (h : Arr E i w c v xs) (hi : i ∉ M) : Arr E 0 w (L.dv M c) v xs := h.tr fun _ h => dv_out h hi
theorem Bx.dv {us : List Value} (h : Bx i w c v us) (hi : i ∉ M) : Bx 0 w (L.dv M c) v us := h.tr fun _ h => dv_out h hi
theorem St.nm {I : List Nat} (h : St I w c w' c') (hc : ∀ b, b < w.heap.size → c b ∈ U ∨ c b = 10) : St I w c w' (L.nm U c') :=
  ⟨h.os,h.tape,h.output,h.size,fun b hb hn=>by
    have h1:=h.col b hb hn
    unfold L.nm
    rw [h1]
    rcases hc b hb with hu | hu
    · rw [show U.contains (c b)=true by simpa using hu];rfl
    · rw [hu];cases U.contains 10 <;> rfl,h.blk⟩
theorem St.putObj {r : Nat} {o : Obj} : St [c r] w c (w.putObj r o) c :=
  ⟨rfl,rfl,rfl,by simp,fun _ _ _=>rfl,fun b _ hn=>World.putObj_heap_other fun e=>hn (by simp [e])⟩
end

def Mk (k : Nat) (w : World) (c : Col) (r : Nat) : Prop := c r = k ∧ w.heap[r]? = some (.deferred (some []))
theorem Mk.keep {I : List Nat} {k r : Nat} {w w' : World} {c c' : Col} (h : Mk k w c r) (s : St I w c w' c') (hi : k ∉ I := by decide) : Mk k w' c' r := by
  have hb:=blk_lt h.2
  exact ⟨by rw [s.col r hb (by rw [h.1];exact hi),h.1],by rw [s.blk r hb (by rw [h.1];exact hi),h.2]⟩
theorem Mk.nm {k r : Nat} {w : World} {c : Col} {U : List Nat} (h : Mk k w c r) (hi : k ∈ U) : Mk k w (L.nm U c) r := ⟨nm_in h.1 hi, h.2⟩
theorem Mk.take {P : Program} {k r : Nat} {w : World} {c : Col} (h : Mk k w c r) : (Instr.takeDeferred r).run P w = .ok [] (w.putObj r (.deferred none)) ∧ St [k] w c (w.putObj r (.deferred none)) c :=
  ⟨run_takeDeferred h.2,by rw [← h.1];exact St.putObj⟩

structure Inv (σ : Type) where
  J:σ→World→Col→Prop
  keep:∀ s I w c w' c',J s w c→St I w c w' c'→0 ∉ I→1 ∉ I→J s w' c'
def IvA {σ : Type} (Iv : Inv σ) (s : σ) (w : World) (c : Col) : Prop := Iv.J s w c
theorem IvA.keep {σ : Type} {Iv : Inv σ} {s : σ} {I : List Nat} {w w' : World} {c c' : Col} (h : IvA Iv s w c) (st : St I w c w' c') (hi : 0 ∉ I ∧ 1 ∉ I) : IvA Iv s w' c' := Iv.keep _ _ _ _ _ _ h st hi.1 hi.2

section
variable {P : Program} {N : Nat} {f : Fr} {w : World} {o : Oper} {Q : Exit → Fr → World → Prop}
theorem OS.makeFunc {k : FuncId} {cs : List Operand} {vs : List Value} {R : Value → World → Prop} (ho : o.op = .makeFunc (.func k) #[] cs.toArray) (hp : PA f cs vs) (h : R (.func (.func k) #[] vs.toArray) w) : OS P o f w R :=
  OS.val (v := .func (.func k) #[] vs.toArray) (w':=w) (by
    unfold execOp;rw [ho]
    have:(cs.toArray.map (ev f))=vs.toArray:=by rw [List.map_toArray,hp.map]
    simp [this,Instr.makeFunc]) h
theorem fnQM.l1 {fn : Func} {Rr : Ending → World → Prop} {r : ResultVar} {v : Value} {w' : World} (hr : fn.results = #[r]) (ht : Taken P (dec (f fn.ntmps)) w w') (h1 : R1 P (msk Cx.marked fn.ntmps f) w' r v) (h : Rr (.returned v) w') : fnQM P fn Rr .ret f w :=
  ⟨v,w',ht,fun tmps ht=>by rw [results_eq,hr];simp [h1.run tmps ht],h⟩
theorem fnQM.ls {fn : Func} {Rr : Ending → World → Prop} {rs : List ResultVar} {vs : List Value} {w' : World} (hr : fn.results = rs.toArray) (ht : Taken P (dec (f fn.ntmps)) w w') (h1 : R1s P (msk Cx.marked fn.ntmps f) w' rs vs) (h : Rr (.returned (.tuple vs.toArray)) w') (hn : vs.length ≠ 1 := by decide) : fnQM P fn Rr .ret f w :=
  ⟨.tuple vs.toArray,w',ht,fun tmps ht=>by
    rw [results_eq,hr]
    have hm:=h1.run tmps ht
    simp [hm,hn],h⟩

section
variable {α : Type} {E : Enc α} {w w' : World} {c c' : Col} {v : Value} {xs : List α} {i : Nat} {M : List Nat}
end

structure RJ {σ : Type} (Facts : σ → World → Col → Prop) (M U : List Nat) (k l : Nat) (rec : Option Nat → Loop) (w1 : World) (c1 : Col) (s : σ × Option Nat) (w : World) (d : Col) (c' : Col) : Prop where
  facts:Facts s.1 w c'
  st:St (9 :: M) w1 c1 w c'
  d1:∀ b,b < w.heap.size→c' b ∈ 9 :: M→d b=1
  d0:∀ b,b < w1.heap.size→c1 b ∉ 9 :: M→d b=0
  rg:∀ b,c' b ∈ 9 :: k :: 10 :: U
  cl:c' l=9
  rl:w.heap[l]?=some (.loop (rec s.2))

variable {P : Program} {N : Nat} {f : Fr} {w : World} {c : Col} {Q : Exit → Fr → World → Prop} {σ α : Type}
end
end Go.Proofs.YtjgbakieogadfaaGreatDoor.L
