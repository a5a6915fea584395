/-
  A loop whose first round is walked by itself;a slice and nil. No program in sight.
-/
import Derived.Test.YtgmgahphjiiceaaGreatLib39
namespace Go.Proofs.YtgmgahphjiiceaaGreat.L
open Go
section
variable {P : Program} {N : Nat} {D : Cx} {f : Fr} {w : World} {Q : Exit → Fr → World → Prop} {c : Code}
def LI (P : Program) (N : Nat) (D : Cx) (c : Code) (Q : Exit → Fr → World → Prop) (f : Fr) (w : World) : Prop :=
  ∀ a,At N D a f→∀ (b:Frame) (k:List Item) (cs:List Frame),b.roundOf=(FR D.rd).round→(FR D.rd).fn b.fn→(FR D.rd).room (cs.length + 1 + 0) →
    ∃ e a' w',lift N D Q e a' w'∧ArrivesIn (Machine.fenced P (FR D.rd)) P (lone (b.atR a (.code c :: .inLoop c :: k)) cs w) b k cs e a' w'
theorem LI.of (I : Nat → Fr → World → Prop) (n : Nat) (h0 : I n f w)
    (round:∀ n f w,I n f w→WC P N D c (thenQ (fun f' w' => ∃ m,m < n∧I m f' w') Q) f w):LI P N D c Q f w:=by
  intro a ha b k cs hro hb hr
  suffices key:∀ n a f w,At N D a f→I n f w→∃ e a' w',lift N D Q e a' w'∧ArrivesIn (Machine.fenced P (FR D.rd)) P (lone (b.atR a (.code c :: .inLoop c :: k)) cs w) b k cs e a' w' from key n a f w ha h0
  intro n
  induction n using Nat.strongRecOn with
  | _ n ih =>
    intro a f w ha hI
    obtain ⟨e,a₁,w₁,hq,harr⟩:=round n f w hI a ha b (.inLoop c :: k) cs hro hb hr
    obtain ⟨f₁,hf₁,hq⟩:=hq
    cases e with
    | normal =>
      obtain ⟨m,hlt,hI₁⟩:=hq
      obtain ⟨e₂,a₂,w₂,hq₂,harr₂⟩:=ih m hlt a₁ f₁ w₁ hf₁ hI₁
      exact ⟨e₂,a₂,w₂,hq₂,.of_steps (StepsIn.trans harr (.one (fenced_calm hb hr rfl) stepR_inLoop)) harr₂⟩
    | exit id=>exact ⟨_,a₁,w₁,⟨f₁,hf₁,hq⟩,.pass (x := .inLoop c) rfl (fun _ _ => .inl (by simp)) harr⟩
    | goto l=>exact ⟨_,a₁,w₁,⟨f₁,hf₁,hq⟩,.pass (x := .inLoop c) rfl (fun _ _ => .inl (by simp)) harr⟩
    | ret=>exact ⟨_,a₁,w₁,⟨f₁,hf₁,hq⟩,.pass (x := .inLoop c) rfl (fun _ _ => .inl (by simp)) harr⟩
    | panic ch=>exact ⟨_,a₁,w₁,⟨f₁,hf₁,hq⟩,.pass (x := .inLoop c) rfl (fun _ _ => .inl (by simp)) harr⟩
    | outgrown=>exact ⟨_,a₁,w₁,⟨f₁,hf₁,hq⟩,.pass (x := .inLoop c) rfl (fun _ _ => .inl (by simp)) harr⟩
theorem WC.loopPeel (h : WC P N D c (thenQ (LI P N D c Q) Q) f w) : WC P N D (.loop c) Q f w := by
  intro a ha b k cs hro hb hr
  obtain ⟨e,a₁,w₁,hq,harr⟩:=h a ha b (.inLoop c :: k) cs hro hb hr
  obtain ⟨f₁,hf₁,hq⟩:=hq
  suffices key:∃ e a' w',lift N D Q e a' w'∧ArrivesIn (Machine.fenced P (FR D.rd)) P (lone (b.atR a (.code c :: .inLoop c :: k)) cs w) b k cs e a' w' by
    obtain ⟨e,a',w',hq,harr⟩:=key
    exact ⟨e,a',w',hq,.of_steps (.one (fenced_calm hb hr rfl) stepR_loop) harr⟩
  cases e with
  | normal =>
    obtain ⟨e₂,a₂,w₂,hq₂,harr₂⟩:=hq a₁ hf₁ b k cs hro hb hr
    exact ⟨e₂,a₂,w₂,hq₂,.of_steps (StepsIn.trans harr (.one (fenced_calm hb hr rfl) stepR_inLoop)) harr₂⟩
  | exit id=>exact ⟨_,a₁,w₁,⟨f₁,hf₁,hq⟩,.pass (x := .inLoop c) rfl (fun _ _ => .inl (by simp)) harr⟩
  | goto l=>exact ⟨_,a₁,w₁,⟨f₁,hf₁,hq⟩,.pass (x := .inLoop c) rfl (fun _ _ => .inl (by simp)) harr⟩
  | ret=>exact ⟨_,a₁,w₁,⟨f₁,hf₁,hq⟩,.pass (x := .inLoop c) rfl (fun _ _ => .inl (by simp)) harr⟩
  | panic ch=>exact ⟨_,a₁,w₁,⟨f₁,hf₁,hq⟩,.pass (x := .inLoop c) rfl (fun _ _ => .inl (by simp)) harr⟩
  | outgrown=>exact ⟨_,a₁,w₁,⟨f₁,hf₁,hq⟩,.pass (x := .inLoop c) rfl (fun _ _ => .inl (by simp)) harr⟩
theorem LI.mono {Q' : Exit → Fr → World → Prop} (h : LI P N D c Q' f w) (hq : ∀ e f w, Q' e f w → Q e f w) : LI P N D c Q f w := fun a ha b k cs hro hb hr =>
  let ⟨e,a',w',⟨f',hf',hQ⟩,r⟩:=h a ha b k cs hro hb hr;⟨e,a',w',⟨f',hf',hq _ _ _ hQ⟩,r⟩
theorem LI.J2 {id : Nat} (J : Fr → World → Prop) (h : LI P N D c (blkQ id (thenQ J Q)) f w) (hk : ∀ f w, J f w → Q .normal f w) : LI P N D c (blkQ id Q) f w :=
  h.mono fun e f w h=>by
    cases e with
    | exit j =>
      by_cases hj:j=id
      · subst hj;simp only [blkQ,thenQ] at h ⊢;have hb:Nat.beq j j=true:=by simp
        rw [hb] at h ⊢;exact hk _ _ h
      · have hb:Nat.beq j id=false:=nbf hj
        simp only [blkQ,hb,thenQ] at h ⊢;exact h
    | normal=>exact hk _ _ h
    | _=>exact h
end
section
variable {P : Program} {f : Fr} {w : World} {o : Oper} {R : Value → World → Prop} {x y : Operand} {v : Value}
theorem OS.neqNilV {t t' e : TypeId} {n : Nat} (ho : o.op = .binOp .neq t x y t') (ht : P.underlying t = some (.slice e)) (hx : ev f x = v) (hv : IsSl v n) (hy : ev f y = .slice none 0 0) (h : R (.bool (!isNil v)) w) : OS P o f w R := by
  refine OS.val (v := .bool (!isNil v)) (w':=w) ?_ h
  unfold execOp;rw [ho]
  have hv' : ∃ a n cap,v = .slice a n cap:=by rcases hv with ⟨rfl | ⟨a,q,rfl⟩,_⟩ | ⟨b,o,cap,rfl⟩ <;> exact ⟨_,_,_,rfl⟩
  obtain ⟨a,n,cap,rfl⟩:=hv'
  have hg:∀ w,(eqGuard .neq t x y (.slice a n cap) (.slice none 0 0)).run P w = .ok () w:=by intro w;unfold eqGuard;simp
  simp [hx,hy,hg,binOp,run_equal_slice_nil w t e a n cap ht,isNil]
theorem OS.callIM {k : FuncId} {xs : List Operand} {vs : List Value} {ts : Array TypeId} (ho : o.op = .call { callee := .value (.func k), args := xs.toArray, argTypes := ts }) (hp : PA f xs vs)
    (hk:∀ args w,(callFunc k args).run P w = .ok (.enter k args) w) {fn:Func} {c:Code} {N:Nat} (hf:P.funcs[k]?=some fn) (hb:fn.body=some c) (hn:fn.ntmps=N) (hl:Nat.ble vs.length N=true)
    (h:WC P N Cx.marked c (fnQM P fn fun e w'' => ∃ v,e = .returned v∧R v w'') (fr0 vs) w):OS P o f w R :=
  OS.callF ho hp hk (calls_introM hf hb hn hl h)
theorem notNil {n : Nat} (hv : IsSl v n) (hn : n ≠ 0) : isNil v = false := by
  rcases hv with ⟨_,h⟩ | ⟨b,o,cap,rfl⟩
  · exact absurd h hn
  · rfl
theorem OS.neqNilT {α : Type} {xs : List α} {t t' e : TypeId} (ho : o.op = .binOp .neq t x y t') (ht : P.underlying t = some (.slice e)) (hx : ev f x = v) (hv : IsSl v xs.length) (hn : xs ≠ []) (hy : ev f y = .slice none 0 0) (h : R (.bool true) w) : OS P o f w R :=
  OS.neqNilV ho ht hx hv hy (by rw [notNil hv (fun h0=>hn (List.length_eq_zero_iff.1 h0))];exact h)
theorem OS.neqNilF {t t' e : TypeId} (ho : o.op = .binOp .neq t x y t') (ht : P.underlying t = some (.slice e)) (hx : ev f x = .slice none 0 0) (hy : ev f y = .slice none 0 0) (h : R (.bool false) w) : OS P o f w R :=
  OS.neqNilV ho ht hx (n:=0) (.inl ⟨.inl rfl,rfl⟩) hy h
end
end Go.Proofs.YtgmgahphjiiceaaGreat.L
