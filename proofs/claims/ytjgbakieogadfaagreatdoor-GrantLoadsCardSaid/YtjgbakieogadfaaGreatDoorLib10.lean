/-
  Smaller things: 16 bits,slices as elements,boxes read by parts,a slice held against nil. No program in sight.
-/
import Derived.Test.YtjgbakieogadfaaGreatDoorLib9
import Derived.Laws.Cover3
namespace Go.Proofs.YtjgbakieogadfaaGreatDoor.L
open Go
structure Sl where
  a:Option Addr
  n:Nat
  cap:Nat
def Sl.val (s : Sl) : Value := .slice s.a s.n s.cap
def toSl : Value → Sl
  | .slice a n c=>⟨a,n,c⟩
  | _=>⟨none,0,0⟩
theorem toSl_val {v : Value} {n : Nat} (h : IsSl v n) : (toSl v).val = v := by
  rcases h with ⟨rfl | ⟨a,q,rfl⟩,_⟩ | ⟨b,o,cap,rfl⟩ <;> rfl
section
variable {P : Program} {f : Fr} {w : World} {c : Col} {o : Oper} {R : Value → World → Prop} {x y : Operand} {v u p q : Value}
theorem Bx.ptr {i : Nat} {us : List Value} (h : Bx i w c p us) : ∃ b, p = .pointer (some ⟨b, 0, none⟩) := let ⟨b, _, h, _⟩ := h; ⟨b, h⟩
end
theorem Bx.recol {i : Nat} {us : List Value} {w : World} {c : Col} {p : Value} (h : Bx i w c p us) (j : Nat) : ∃ c', St [i] w c w c' ∧ Bx j w c' p us := by
  obtain ⟨b,T,h1,h2,h3⟩:=h
  have hs:=St.recol (w:=w) (c:=c) b j
  rw [h2] at hs
  exact ⟨_,hs,b,T,h1,pc_same,h3⟩
theorem Taken.of {P : Program} {f : Fr} {n : Nat} {v : Value} {w w' : World} (h : f n = v) (t : Taken P (dec v) w w') : Taken P (dec (f n)) w w' := by rw [h]; exact t
theorem Bx.merge {i : Nat} {us : List Value} {w w' : World} {c d : Col} {p : Value} (r : Nat → Nat) (s : St [] w c0 w' d) (h : Bx i w' d p us) (h0 : i ≠ 0) : Bx (r i) w' (mg w c r d) p us := by
  obtain ⟨b,T,h1,h2,h3⟩:=h
  exact ⟨b,T,h1,by rw [mg_new (s.new h2 h0),h2],h3⟩
theorem Bx.forget {i : Nat} {us : List Value} {w : World} {c : Col} {p : Value} (h : Bx i w c p us) : Bx 0 w c0 p us := by
  obtain ⟨b,T,h1,_,h3⟩:=h
  exact ⟨b,T,h1,rfl,h3⟩
def L3 {α : Type} (E' : Enc α) (w : World) (c : Col) : List Nat → List Sl → List (List α) → Prop
  | k :: ks,s :: ss,x :: xs=>Vw E' k w c s.val x∧L3 E' w c ks ss xs
  | [],[],[]=>True
  | _,_,_=>False
def L2 {α : Type} (E' : Enc α) (j : Nat) (w : World) (c : Col) : List Sl → List (List α) → Prop
  | s :: ss,x :: xs=>Vw E' j w c s.val x∧L2 E' j w c ss xs
  | [],[]=>True
  | _,_=>False
def Dw {α : Type} (E : Enc Sl) (E' : Enc α) (i : Nat) (ks : List Nat) (w : World) (c : Col) (v : Value) (xss : List (List α)) : Prop := ∃ ss, Ow E i w c v ss ∧ L3 E' w c ks ss xss
def Dv {α : Type} (E : Enc Sl) (E' : Enc α) (i j : Nat) (w : World) (c : Col) (v : Value) (xss : List (List α)) : Prop := ∃ ss, Vw E i w c v ss ∧ L2 E' j w c ss xss
section
variable {α : Type} {E : Enc Sl} {E' : Enc α} {w w' : World} {c c' : Col} {v : Value} {xss : List (List α)} {i j : Nat} {ks I : List Nat}
theorem L3.keep (s : St I w c w' c') : ∀ {ks : List Nat} {ss : List Sl} {xss : List (List α)}, L3 E' w c ks ss xss → (∀ k, k ∈ ks → k ∉ I) → L3 E' w' c' ks ss xss
  | _ :: _,_ :: _,_ :: _,⟨h1,h2⟩,hk=>⟨h1.keep s (hk _ (by simp)),L3.keep s h2 fun k h=>hk k (by simp [h])⟩
  | [],[],[],_,_=>trivial
theorem L2.keep (s : St I w c w' c') (hj : j ∉ I) : ∀ {ss : List Sl} {xss : List (List α)}, L2 E' j w c ss xss → L2 E' j w' c' ss xss
  | _ :: _,_ :: _,⟨h1,h2⟩=>⟨h1.keep s hj,L2.keep s hj h2⟩
  | [],[],_=>trivial
theorem L3.forget : ∀ {ks : List Nat} {ss : List Sl} {xss : List (List α)}, L3 E' w c ks ss xss → L2 E' 0 w c0 ss xss
  | _ :: _,_ :: _,_ :: _,⟨h1,h2⟩=>⟨h1.forget,L3.forget h2⟩
  | [],[],[],_=>trivial
theorem L2.forget : ∀ {ss : List Sl} {xss : List (List α)}, L2 E' j w c ss xss → L2 E' 0 w c0 ss xss
  | _ :: _,_ :: _,⟨h1,h2⟩=>⟨h1.forget,L2.forget h2⟩
  | [],[],_=>trivial
theorem L2.len : ∀ {ss : List Sl} {xss : List (List α)}, L2 E' j w c ss xss → ss.length = xss.length
  | _ :: _,_ :: _,⟨_,h2⟩=>by simp [L2.len h2]
  | [],[],_=>rfl
theorem L3.len : ∀ {ks : List Nat} {ss : List Sl} {xss : List (List α)}, L3 E' w c ks ss xss → ss.length = xss.length
  | _ :: _,_ :: _,_ :: _,⟨_,h2⟩=>by simp [L3.len h2]
  | [],[],[],_=>rfl
theorem L2.get : ∀ {ss : List Sl} {xss : List (List α)} {k : Nat} {x : List α}, L2 E' j w c ss xss → xss[k]? = some x → ∃ s, ss[k]? = some s ∧ Vw E' j w c s.val x
  | s :: _,_ :: _,0,_,⟨h1,_⟩,h=>by simp at h;subst h;exact ⟨s,by simp,h1⟩
  | _ :: _,_ :: _,k + 1,_,⟨_,h2⟩,h=>by simpa using L2.get (k:=k) h2 (by simpa using h)
  | [],[],_,_,_,h=>by simp at h
theorem Dw.keep (h : Dw E E' i ks w c v xss) (s : St I w c w' c') (hk : ∀ k, k ∈ i :: ks → k ∉ I) : Dw E E' i ks w' c' v xss := by
  obtain ⟨ss,h1,h2⟩:=h;exact ⟨ss,h1.keep s (hk _ (by simp)),h2.keep s fun k h=>hk k (by simp [h])⟩
theorem Dv.keep (h : Dv E E' i j w c v xss) (s : St I w c w' c') (hk : ∀ k, k ∈ [i, j] → k ∉ I) : Dv E E' i j w' c' v xss := by
  obtain ⟨ss,h1,h2⟩:=h;exact ⟨ss,h1.keep s (hk _ (by simp)),h2.keep s (hk _ (by simp))⟩
theorem Dw.forget (h : Dw E E' i ks w c v xss) : Dv E E' 0 0 w c0 v xss := by obtain ⟨ss, h1, h2⟩ := h; exact ⟨ss, h1.vw.forget, h2.forget⟩
theorem Dv.forget (h : Dv E E' i j w c v xss) : Dv E E' 0 0 w c0 v xss := by obtain ⟨ss, h1, h2⟩ := h; exact ⟨ss, h1.forget, h2.forget⟩
theorem Dw.isSl (h : Dw E E' i ks w c v xss) : IsSl v xss.length := by obtain ⟨ss, h1, h2⟩ := h; rw [← h2.len]; exact h1.isSl
theorem Dv.isSl (h : Dv E E' i j w c v xss) : IsSl v xss.length := by obtain ⟨ss, h1, h2⟩ := h; rw [← h2.len]; exact h1.isSl
theorem Dv.nil : Dv E E' i j w c (.slice none 0 0) [] := ⟨[], Vw.nil, trivial⟩
theorem Vw.toSl {i : Nat} {xs : List α} (h : Vw E' i w c v xs) : Vw E' i w c (L.toSl v).val xs := by rw [toSl_val h.isSl]; exact h
end
def jm {β : Type} (j : Option Nat) (a : Option β) (b : Nat → Option β) : Option β :=
  match j with
  | none=>a
  | some i=>b i
end Go.Proofs.YtjgbakieogadfaaGreatDoor.L
