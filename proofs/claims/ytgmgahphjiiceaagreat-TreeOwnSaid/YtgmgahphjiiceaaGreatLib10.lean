/-
  Smaller things: 16 bits,slices as elements,boxes read by parts,a slice held against nil. No program in sight.
-/
import Derived.Test.YtgmgahphjiiceaaGreatLib9
import Derived.Laws.Cover3
namespace Go.Proofs.YtgmgahphjiiceaaGreat.L
open Go
structure Sl where
  a:Option Addr
  n:Nat
  cap:Nat
def Sl.val (s : Sl) : Value := .slice s.a s.n s.cap
def toSl : Value → Sl
  | .slice a n c=>⟨a,n,c⟩
  | _=>⟨none,0,0⟩
theorem toSl_val {v : Value} {n : Nat} (h : IsSl v n) : (toSl v).val = v := by
  rcases h with ⟨rfl | ⟨a,q,rfl⟩,_⟩ | ⟨b,o,cap,rfl⟩ <;> rfl
section
variable {P : Program} {f : Fr} {w : World} {c : Col} {o : Oper} {R : Value → World → Prop} {x y : Operand} {v u p q : Value}
theorem Bx.ptr {i : Nat} {us : List Value} (h : Bx i w c p us) : ∃ b, p = .pointer (some ⟨b, 0, none⟩) := let ⟨b, _, h, _⟩ := h; ⟨b, h⟩
def isNil : Value → Bool
  | .slice a _ _=>a.isNone
  | _=>false
theorem OS.eqNil {t t' e : TypeId} {n : Nat} (ho : o.op = .binOp .eql t x y t') (ht : P.underlying t = some (.slice e)) (hx : ev f x = v) (hv : IsSl v n) (hy : ev f y = .slice none 0 0) (h : R (.bool (isNil v)) w) : OS P o f w R := by
  refine OS.val (v := .bool (isNil v)) (w':=w) ?_ h
  unfold execOp;rw [ho]
  have hv' : ∃ a n cap,v = .slice a n cap:=by rcases hv with ⟨rfl | ⟨a,q,rfl⟩,_⟩ | ⟨b,o,cap,rfl⟩ <;> exact ⟨_,_,_,rfl⟩
  obtain ⟨a,n,cap,rfl⟩:=hv'
  have hg:∀ w,(eqGuard .eql t x y (.slice a n cap) (.slice none 0 0)).run P w = .ok () w:=by intro w;unfold eqGuard;simp
  simp [hx,hy,hg,binOp,run_equal_slice_nil w t e a n cap ht,isNil]
theorem Vw.nil_of {α : Type} {E : Enc α} {i : Nat} {xs : List α} (h : Vw E i w c v xs) (hn : isNil v = true) : v = .slice none 0 0 ∧ xs = [] := by
  rcases h with ⟨h | ⟨a,q,h⟩,h'⟩ | ⟨b,off,cap,cs,T,fz,h1,_⟩
  · exact ⟨h,h'⟩
  · rw [h] at hn;cases hn
  · rw [h1] at hn;cases hn
end
theorem Bx.recol {i : Nat} {us : List Value} {w : World} {c : Col} {p : Value} (h : Bx i w c p us) (j : Nat) : ∃ c', St [i] w c w c' ∧ Bx j w c' p us := by
  obtain ⟨b,T,h1,h2,h3⟩:=h
  have hs:=St.recol (w:=w) (c:=c) b j
  rw [h2] at hs
  exact ⟨_,hs,b,T,h1,pc_same,h3⟩
theorem Taken.of {P : Program} {f : Fr} {n : Nat} {v : Value} {w w' : World} (h : f n = v) (t : Taken P (dec v) w w') : Taken P (dec (f n)) w w' := by rw [h]; exact t
section
variable {α : Type} {E : Enc Sl} {E' : Enc α} {w w' : World} {c c' : Col} {v : Value} {xss : List (List α)} {i j : Nat} {ks I : List Nat}
end
def jm {β : Type} (j : Option Nat) (a : Option β) (b : Nat → Option β) : Option β :=
  match j with
  | none=>a
  | some i=>b i
end Go.Proofs.YtgmgahphjiiceaaGreat.L
