/-
  A small calculus over the walk: a frame as a function of its slots,code and operations as predicate transformers over it. No program in sight.
-/
import Derived.WalkKit
import Derived.KernelRfl
import Derived.OrdersIn
import Derived.TacticsIn
import Derived.RangeFuncOwn
namespace Go.Proofs.YtgmgahphjiiceaaGreat.L
open Go

abbrev Fr := Nat → Value
def up (f : Fr) (d : Nat) (v : Value) : Fr := fun t => cond (Nat.beq t d) v (f t)
def ev (f : Fr) : Operand → Value
  | .tmp t=>f t
  | .const v=>v
  | .global g => .pointer (some ⟨g,0,none⟩)
  | .func k => .func (.func k) #[] #[]

structure Cx where
  rd:Option Nat
  ms:Bool
abbrev Cx.top : Cx := ⟨none, false⟩
abbrev Cx.marked : Cx := ⟨none, true⟩
def FR (r : Option Nat) : Fence := { Fence.wide with round := r }
def dec : Value → List Deferred
  | .tuple l=>l.toList.filterMap fun
    | .pointer (some a)=>some { target := .collected a.block,args:=#[] }
    | .func g _ caps=>some { target := .fn g caps,args:=#[] }
    | _=>none
  | _=>[]
def mark (r : Nat) : Value → Value
  | .tuple l => .tuple (#[.pointer (some ⟨r,0,none⟩)]++l)
  | _ => .tuple #[.pointer (some ⟨r,0,none⟩)]
theorem dec_mark (r : Nat) (v : Value) : dec (mark r v) = { target := .collected r, args := #[] } :: dec v := by
  cases v <;> simp [mark,dec]

def msk (D : Cx) (N : Nat) (f : Fr) : Fr := cond D.ms (fun t => cond (Nat.beq t N) undef (f t)) f
structure At (N : Nat) (D : Cx) (a : Act) (f : Fr) : Prop where
  nd:a.defers=cond D.ms (dec (f N)) []
  sz:a.tmps.size=N
  rd:∀ t,a.tmps.getD t undef=msk D N f t

theorem nbf {t d : Nat} (h : t ≠ d) : Nat.beq t d = false := by
  cases hb:Nat.beq t d with
  | false=>rfl
  | true=>exact absurd (Nat.eq_of_beq_eq_true hb) h

variable {P : Program} {N : Nat} {D : Cx} {a : Act} {f : Fr} {w : World} {ops rest : List Oper} {o : Oper} {Q : Exit → Fr → World → Prop}

theorem At.eval (h : At N D a f) : a.eval = ev (msk D N f) := by
  funext x;cases x <;> simp [Act.eval,ev]
  exact (by simpa using h.rd _)

theorem msk_up {d : Nat} {v : Value} (hd : d < N) : msk D N (up f d v) = up (msk D N f) d v := by
  obtain ⟨r,m⟩:=D
  cases m with
  | false=>rfl
  | true =>
    funext t
    show (cond (Nat.beq t N) undef (cond (Nat.beq t d) v (f t)))=(cond (Nat.beq t d) v (cond (Nat.beq t N) undef (f t)))
    cases h1:Nat.beq t N <;> cases h2:Nat.beq t d <;> first | rfl | (exfalso;simp at h1 h2;omega)
theorem msk_lt {t : Nat} (h : Nat.beq t N = false) : msk D N f t = f t := by
  obtain ⟨r,m⟩:=D
  cases m with
  | false=>rfl
  | true=>show cond (Nat.beq t N) undef (f t)=f t;rw [h];rfl
theorem At.put (h : At N D a f) {d : Nat} (hd : Nat.blt d N = true) (v : Value) : At N D (a.put (some d) v) (up f d v) := by
  have hd' : d < N:=by simpa using hd
  refine ⟨?_,by simpa [Act.put] using h.sz,fun t=>?_⟩
  · have hb:Nat.beq N d=false:=nbf (by omega)
    have:up f d v N=f N:=by simp [up,hb]
    rw [this];exact h.nd
  have hr:=h.rd t
  rw [msk_up hd']
  simp only [Act.put,Array.getD_eq_getD_getElem?,up] at hr ⊢
  by_cases ht:t=d
  · subst ht;simp [h.sz,hd']
  · have hb:Nat.beq t d=false:=nbf ht
    rw [Array.getElem?_setIfInBounds_ne (fun e=>ht e.symm),hb];exact hr

theorem At.put0 (h : At N D a f) (v : Value) : At N D (a.put none v) f := h

def lift (N : Nat) (D : Cx) (Q : Exit → Fr → World → Prop) : Exit → Act → World → Prop := fun e a w => ∃ f, At N D a f ∧ Q e f w
def thenQ (K : Fr → World → Prop) (Q : Exit → Fr → World → Prop) : Exit → Fr → World → Prop
  | .normal,f,w=>K f w
  | e,f,w=>Q e f w
def blkQ (id : Nat) (Q : Exit → Fr → World → Prop) : Exit → Fr → World → Prop
  | .exit j,f,w=>cond (Nat.beq j id) (Q .normal f w) (Q (.exit j) f w)
  | e,f,w=>Q e f w

def WC (P : Program) (N : Nat) (D : Cx) (c : Code) (Q : Exit → Fr → World → Prop) (f : Fr) (w : World) : Prop :=
  ∀ a,At N D a f→c.wpIn (FR D.rd) 0 P (lift N D Q) a w
def WR (P : Program) (ops : List Oper) (N : Nat) (D : Cx) (Q : Exit → Fr → World → Prop) (l : List Oper) (f : Fr) (w : World) : Prop :=
  ∀ a,At N D a f→wpListIn (FR D.rd) 0 P ops.toArray (lift N D Q) l a w
def OS (P : Program) (o : Oper) (f : Fr) (w : World) (R : Value → World → Prop) : Prop :=
  ∀ (r:Option Nat) (a:Act) (K:Act→World→Prop) (Q:Exit→Act→World→Prop),a.eval=ev f→(∀ v w',R v w'→K (a.put o.dst v) w')→o.wpIn (FR r) 0 P a w K Q

theorem WC.region {id : Nat} (h : WR P ops N D Q ops f w) : WC P N D (.region id ops.toArray false) Q f w :=
  fun a ha=>wpIn_region_lit (h a ha)
theorem WC.skip (h : Q .normal f w) : WC P N D .skip Q f w := fun _a ha => wpIn_skip ⟨f, ha, h⟩
theorem WC.ret (h : Q .ret f w) : WC P N D .ret Q f w := fun _a ha => wpIn_ret ⟨f, ha, h⟩
theorem WC.exit {id : Nat} (h : Q (.exit id) f w) : WC P N D (.exit id) Q f w := fun _a ha => wpIn_exit ⟨f, ha, h⟩
theorem WC.seq {x y : Code} (h : WC P N D x (thenQ (WC P N D y Q) Q) f w) : WC P N D (.seq x y) Q f w := fun a ha =>
  wpIn_seq (wpIn_mono (h a ha) fun e a w hq=>by
    obtain ⟨f',hf',hq⟩:=hq
    cases e <;> first | exact hq a hf' | exact ⟨f',hf',hq⟩)
theorem WC.block {id : Nat} {c : Code} (h : WC P N D c (blkQ id Q) f w) : WC P N D (.block id c) Q f w := fun a ha =>
  wpIn_block (wpIn_mono (h a ha) fun e a w hq=>by
    obtain ⟨f',hf',hq⟩:=hq
    cases e with
    | exit j =>
      simp only [Exit.inBlock]
      by_cases hj:j=id
      · subst hj;rw [if_pos rfl];exact ⟨f',hf',by simpa [blkQ] using hq⟩
      · rw [if_neg hj];have hb:Nat.beq j id=false:=nbf hj
        exact ⟨f',hf',by simpa [blkQ,hb] using hq⟩
    | _=>exact ⟨f',hf',hq⟩)
theorem WC.cond {c : Operand} {x y : Code} (b : Bool) (hc : ev (msk D N f) c = .bool b) (ht : b = true → WC P N D x Q f w) (hf : b = false → WC P N D y Q f w) :
    WC P N D (.cond c x y) Q f w:=fun a ha=>by
  refine wpIn_cond_split (t:=b) (by rw [ha.eval];exact hc) (fun h=>ht h a ha) (fun h=>hf h a ha)
theorem WC.condT {c : Operand} {x y : Code} (hc : ev (msk D N f) c = .bool true) (h : WC P N D x Q f w) : WC P N D (.cond c x y) Q f w :=
  WC.cond true hc (fun _=>h) (fun h=>by cases h)
theorem WC.condF {c : Operand} {x y : Code} (hc : ev (msk D N f) c = .bool false) (h : WC P N D y Q f w) : WC P N D (.cond c x y) Q f w :=
  WC.cond false hc (fun h=>by cases h) (fun _=>h)
theorem WC.mono {c : Code} {Q' : Exit → Fr → World → Prop} (h : WC P N D c Q' f w) (hq : ∀ e f w, Q' e f w → Q e f w) : WC P N D c Q f w :=
  fun a ha=>wpIn_mono (h a ha) fun _e _a _w ⟨f',hf',hQ⟩=>⟨f',hf',hq _ _ _ hQ⟩
theorem WC.blockJ {id : Nat} {c : Code} (J : Fr → World → Prop) (hk : ∀ f w, J f w → Q .normal f w) (h : WC P N D c (blkQ id (thenQ J Q)) f w) : WC P N D (.block id c) Q f w :=
  WC.block (h.mono fun e f w h=>by
    cases e with
    | exit j =>
      by_cases hj:j=id
      · subst hj;simp only [blkQ,thenQ] at h ⊢;have hb:Nat.beq j j=true:=by simp
        rw [hb] at h ⊢;exact hk _ _ h
      · have hb:Nat.beq j id=false:=nbf hj
        simp only [blkQ,hb,thenQ] at h ⊢;exact h
    | normal=>exact hk _ _ h
    | _=>exact h)
theorem WC.loop {c : Code} (I : Nat → Fr → World → Prop) (n : Nat) (h0 : I n f w)
    (round:∀ n f w,I n f w→WC P N D c (thenQ (fun f' w' => ∃ m,m < n∧I m f' w') Q) f w):WC P N D (.loop c) Q f w:=by
  intro a ha b k cs hro hb hr
  suffices key:∀ n a f w,At N D a f→I n f w→∃ e a' w',lift N D Q e a' w'∧ArrivesIn (Machine.fenced P (FR D.rd)) P (lone (b.atR a (.code c :: .inLoop c :: k)) cs w) b k cs e a' w' by
    obtain ⟨e,a',w',hq,harr⟩:=key n a f w ha h0
    exact ⟨e,a',w',hq,.of_steps (.one (fenced_calm hb hr rfl) stepR_loop) harr⟩
  intro n
  induction n using Nat.strongRecOn with
  | _ n ih =>
    intro a f w ha hI
    obtain ⟨e,a₁,w₁,hq,harr⟩:=round n f w hI a ha b (.inLoop c :: k) cs hro hb hr
    obtain ⟨f₁,hf₁,hq⟩:=hq
    cases e with
    | normal =>
      obtain ⟨m,hlt,hI₁⟩:=hq
      obtain ⟨e₂,a₂,w₂,hq₂,harr₂⟩:=ih m hlt a₁ f₁ w₁ hf₁ hI₁
      exact ⟨e₂,a₂,w₂,hq₂,.of_steps (StepsIn.trans harr (.one (fenced_calm hb hr rfl) stepR_inLoop)) harr₂⟩
    | exit id=>exact ⟨_,a₁,w₁,⟨f₁,hf₁,hq⟩,.pass (x := .inLoop c) rfl (fun _ _ => .inl (by simp)) harr⟩
    | goto l=>exact ⟨_,a₁,w₁,⟨f₁,hf₁,hq⟩,.pass (x := .inLoop c) rfl (fun _ _ => .inl (by simp)) harr⟩
    | ret=>exact ⟨_,a₁,w₁,⟨f₁,hf₁,hq⟩,.pass (x := .inLoop c) rfl (fun _ _ => .inl (by simp)) harr⟩
    | panic ch=>exact ⟨_,a₁,w₁,⟨f₁,hf₁,hq⟩,.pass (x := .inLoop c) rfl (fun _ _ => .inl (by simp)) harr⟩
    | outgrown=>exact ⟨_,a₁,w₁,⟨f₁,hf₁,hq⟩,.pass (x := .inLoop c) rfl (fun _ _ => .inl (by simp)) harr⟩

theorem semAt_of {ρ : Operand → Value} {o : Oper} {w w' : World} {x : Next} (hx : ∀ d, x ≠ .defer d) (h : (execOp ρ o).run P w = .ok x w') (r : Option Nat) :
    (o.semAt r ρ).run P w = .ok x w':=by
  cases r with
  | none=>rw [Oper.semAt_none];exact h
  | some l =>
    rw [Oper.semAt_some l ρ o fun c hc=>?_]
    · exact h
    · simp only [execOp,hc,Sem.run_bind] at h
      cases hr:(resolve ρ c o.type).run P w with
      | ok d w1=>rw [hr] at h;simp only [Result.andThen,Sem.run_pure,Result.ok.injEq] at h;exact hx d h.1.symm
      | halt e w1=>rw [hr] at h;simp [Result.andThen] at h
theorem wpIn_of {a : Act} {K : Act → World → Prop} {q : Exit → Act → World → Prop} {w' : World} {x : Next} {r : Option Nat} (ha : a.eval = ev f) (hx : ∀ d, x ≠ .defer d) (hr : (execOp (ev f) o).run P w = .ok x w')
    (h:o.uponIn (FR r) 0 P a K q (.ok x w')):o.wpIn (FR r) 0 P a w K q :=
  ⟨fun _ _=>trivial,by rw [ha,semAt_of hx hr (FR r).round];exact h⟩
theorem WR.nil (h : Q .normal f w) : WR P ops N D Q [] f w := fun _ ha => ⟨f, ha, h⟩
theorem WR.os {d : Nat} {R : Value → World → Prop} (hg : o.guard = none) (hd : o.dst = some d) (hN : Nat.blt d N = true) (h : OS P o (msk D N f) w R)
    (k:∀ v w',R v w'→WR P ops N D Q rest (up f d v) w'):WR P ops N D Q (o :: rest) f w:=fun a ha =>
  wpListIn_plain hg fun K hK=>h _ a K _ ha.eval fun v w' hr=>hK _ _ (k v w' hr _ (by rw [hd];exact ha.put hN v))
theorem WR.os0 {R : Value → World → Prop} (hg : o.guard = none) (hd : o.dst = none) (h : OS P o (msk D N f) w R)
    (k:∀ v w',R v w'→WR P ops N D Q rest f w'):WR P ops N D Q (o :: rest) f w:=fun a ha =>
  wpListIn_plain hg fun K hK=>h _ a K _ ha.eval fun v w' hr=>hK _ _ (k v w' hr _ (by rw [hd];exact ha.put0 v))
theorem OS.val {v : Value} {w' : World} {R : Value → World → Prop} (hr : (execOp (ev f) o).run P w = .ok (.value v) w') (h : R v w') : OS P o f w R :=
  fun r a K Q ha hK=>wpIn_of ha (by intro d hd;cases hd) hr (hK _ _ h)
theorem OS.skip {w' : World} {R : Value → World → Prop} (hr : (execOp (ev f) o).run P w = .ok .skip w') (h : R undef w') : OS P o f w R :=
  fun r a K Q ha hK=>wpIn_of ha (by intro d hd;cases hd) hr (hK _ _ h)
theorem OS.call {k : FuncId} {args : Array Value} {w' : World} {R : Value → World → Prop} (hr : (execOp (ev f) o).run P w = .ok (.enter k args) w')
    (h:Calls P k args w' fun e w'' => ∃ v,e = .returned v∧R v w''):OS P o f w R :=
  fun r a K Q ha hK=>by
    refine wpIn_of ha (by intro d hd;cases hd) hr ⟨fun h=>by simp [FR,Fence.wide] at h,?_⟩
    have h1:CallsIn (FR r) (0 - 1) P k args w' fun e w'' => ∃ v,e = .returned v∧R v w'':=callsIn_wide.2 h
    exact h1.mono fun e w'' ⟨v,he,hR⟩=>by subst he;exact hK _ _ hR
theorem yielded_of {tmps : Array Value} {j dj : Nat} {b : Bool} (hj : (ops[j]?).bind (·.dst) = some dj) (h1 : tmps.getD dj undef = .bool b) :
    yielded ops.toArray tmps j=some b:=by
  have h2:ops.toArray[j]?=ops[j]?:=by simp
  unfold yielded
  rw [h2,hj]
  simp only [Option.bind_some]
  cases hx:tmps[dj]? with
  | none=>simp [Array.getD_eq_getD_getElem?,hx,undef] at h1
  | some v=>simp [Array.getD_eq_getD_getElem?,hx] at h1;subst h1;rfl
theorem WR.gT {d dj j : Nat} {b : Bool} {R : Value → World → Prop} (hg : o.guard = some (j, b)) (hj : (ops[j]?).bind (·.dst) = some dj) (hb : msk D N f dj = .bool b)
    (hd:o.dst=some d) (hN:Nat.blt d N=true) (h:OS P o (msk D N f) w R)
    (k:∀ v w',R v w'→WR P ops N D Q rest (up f d v) w'):WR P ops N D Q (o :: rest) f w:=fun a ha =>
  wpListIn_step fun K hK=>by
    have hy:yielded ops.toArray a.tmps j=some b:=by
      have h1:=ha.rd dj
      rw [hb] at h1
      exact yielded_of hj h1
    rw [if_pos (by simp [Region.wanted,hg,hy])]
    exact h _ a K _ ha.eval fun v w' hr=>hK _ _ (k v w' hr _ (by rw [hd];exact ha.put hN v))
theorem WR.gF {d dj j : Nat} {b : Bool} (hg : o.guard = some (j, b)) (hj : (ops[j]?).bind (·.dst) = some dj) (hb : msk D N f dj = .bool (!b))
    (hd:o.dst=some d) (hN:Nat.blt d N=true)
    (k:WR P ops N D Q rest (up f d undef) w):WR P ops N D Q (o :: rest) f w:=fun a ha =>
  wpListIn_step fun K hK=>by
    have hy:yielded ops.toArray a.tmps j=some (!b):=by
      have h1:=ha.rd dj
      rw [hb] at h1
      exact yielded_of hj h1
    rw [if_neg (by simp [Region.wanted,hg,hy])]
    exact ⟨fun _ _=>trivial,hK _ _ (k _ (by rw [hd];exact ha.put hN undef))⟩
theorem uponIn_mono {F : Fence} {n : Nat} {a : Act} {K K' : Act → World → Prop} {q q' : Exit → Act → World → Prop} {r : Result Next} (hk : ∀ a w, K a w → K' a w) (hq : ∀ e a w, q e a w → q' e a w)
    (h:o.uponIn F n P a K q r):o.uponIn F n P a K' q' r:=by
  cases r with
  | ok x w' =>
    cases x <;> simp only [Oper.uponIn] at h ⊢ <;> first
      | exact hk _ _ h
      | exact h
      | exact ⟨h.1,CallsIn.mono h.2 (fun e w'' he=>by
          cases e with
          | returned v=>exact hk _ _ he
          | panicked c=>exact hq _ _ _ he
          | outgrown=>obtain ⟨a1,w1,h1⟩:=he;exact ⟨a1,w1,hq _ _ _ h1⟩)⟩
      | exact ⟨h.1,RowsIn.mono h.2 (fun _ _ he=>hk _ _ he)⟩
      | exact ⟨h.1,RoundIn.mono h.2 (fun e w'' he=>by
          cases e with
          | returned v=>exact hk _ _ he
          | panicked c=>exact hq _ _ _ he
          | outgrown=>obtain ⟨a1,w1,h1⟩:=he;exact ⟨a1,w1,hq _ _ _ h1⟩)⟩
  | halt x w'=>cases x <;> simp only [Oper.uponIn] at h ⊢ <;> first | exact hq _ _ _ h | exact h
theorem wpListIn_mono {F : Fence} {n : Nat} {os : Array Oper} {q q' : Exit → Act → World → Prop} (hq : ∀ e a w, q e a w → q' e a w) :
    ∀ (l:List Oper) (a:Act) (w:World),wpListIn F n P os q l a w→wpListIn F n P os q' l a w
  | [],_,_,h=>hq _ _ _ h
  | o :: l,a,w,h=>by
    unfold wpListIn at h ⊢
    split
    · rename_i hw
      rw [if_pos hw] at h
      exact ⟨h.1,uponIn_mono (fun a w=>wpListIn_mono hq l a w) hq h.2⟩
    · rename_i hw
      rw [if_neg hw] at h
      exact ⟨h.1,wpListIn_mono hq l _ _ h.2⟩
theorem wpListIn_append {F : Fence} {n : Nat} {os : Array Oper} {q : Exit → Act → World → Prop} (l2 : List Oper) : ∀ (l1 : List Oper) (a : Act) (w : World),
    wpListIn F n P os (Exit.then (fun a w=>wpListIn F n P os q l2 a w) q) l1 a w→wpListIn F n P os q (l1++l2) a w
  | [],_,_,h=>h
  | o :: l,a,w,h=>by
    rw [List.cons_append]
    unfold wpListIn at h ⊢
    split
    · rename_i hw
      rw [if_pos hw] at h
      refine ⟨h.1,?_⟩
      have hp:∀ {r:Result Next},o.uponIn F n P a (wpListIn F n P os (Exit.then (fun a w=>wpListIn F n P os q l2 a w) q) l) (Exit.then (fun a w=>wpListIn F n P os q l2 a w) q) r →
          o.uponIn F n P a (wpListIn F n P os q (l++l2)) q r:=by
        intro r hr
        cases r with
        | ok x w' =>
          cases x <;> simp only [Oper.uponIn] at hr ⊢ <;> first
            | exact wpListIn_append l2 l _ _ hr
            | exact hr
            | exact ⟨hr.1,CallsIn.mono hr.2 (fun e w'' he=>by
                cases e with
                | returned v=>exact wpListIn_append l2 l _ _ he
                | panicked c=>exact he
                | outgrown=>exact he)⟩
            | exact ⟨hr.1,RowsIn.mono hr.2 (fun _ _ he=>wpListIn_append l2 l _ _ he)⟩
            | exact ⟨hr.1,RoundIn.mono hr.2 (fun e w'' he=>by
                cases e with
                | returned v=>exact wpListIn_append l2 l _ _ he
                | panicked c=>exact he
                | outgrown=>exact he)⟩
        | halt x w'=>cases x <;> simp only [Oper.uponIn] at hr ⊢ <;> exact hr
      exact hp h.2
    · rename_i hw
      rw [if_neg hw] at h
      exact ⟨h.1,wpListIn_append l2 l _ _ h.2⟩
theorem WR.cut (n : Nat) (J : Fr → World → Prop) {l : List Oper} (hk : ∀ f w, J f w → WR P ops N D Q (l.drop n) f w)
    (h:WR P ops N D (thenQ J Q) (l.take n) f w):WR P ops N D Q l f w:=fun a ha=>by
  rw [← List.take_append_drop n l]
  refine wpListIn_append _ _ _ _ (wpListIn_mono (fun e a w hq=>?_) _ _ _ (h a ha))
  obtain ⟨f',hf',hq⟩:=hq
  cases e <;> first | exact hk _ _ hq a hf' | exact ⟨f',hf',hq⟩

def fr0 (args : List Value) : Fr := fun t => args.getD t undef
def fnQ (P : Program) (fn : Func) (R : Ending → World → Prop) : Exit → Fr → World → Prop
  | .normal,f,w | .ret,f,w => ∃ v,(∀ tmps:Array Value,(∀ t,tmps.getD t undef=f t)→(results fn tmps).run P w = .ok v w)∧R (.returned v) w
  | .panic ch,_,w=>R (.panicked ch) w
  | _,_,_=>False
theorem At.enter {args : List Value} (hl : Nat.ble args.length N = true) : At N D { tmps := args.toArray ++ Array.replicate (N - args.toArray.size) undef, defers := [] } (fr0 args) := by
  have hl' : args.length≤N:=by simpa using hl
  refine ⟨?_,?_,fun t=>?_⟩
  · have:fr0 args N=undef:=by simp [fr0,List.getD_eq_getElem?_getD,List.getElem?_eq_none hl']
    rw [this];cases D.ms <;> rfl
  · simp;omega
  · have hm:msk D N (fr0 args) t=fr0 args t:=by
      cases hb:Nat.beq t N with
      | false=>exact msk_lt hb
      | true =>
        have ht:t=N:=by simpa using hb
        subst ht
        have h1:fr0 args t=undef:=by simp [fr0,List.getD_eq_getElem?_getD,List.getElem?_eq_none hl']
        obtain ⟨r,m⟩:=D
        cases m with
        | false=>rfl
        | true=>show cond (Nat.beq t t) undef (fr0 args t)=_;rw [hb,h1];rfl
    rw [hm]
    simp only [Array.getD_eq_getD_getElem?,fr0,List.getD_eq_getElem?_getD]
    rw [Array.getElem?_append]
    simp only [List.size_toArray,List.getElem?_toArray,Array.getElem?_replicate]
    split
    · rfl
    · rename_i hx
      rw [List.getElem?_eq_none (by omega)]
      split <;> rfl
theorem calls_intro {k : FuncId} {fn : Func} {c : Code} {args : List Value} {R : Ending → World → Prop} (hf : P.funcs[k]? = some fn) (hb : fn.body = some c) (hn : fn.ntmps = N)
    (hl:Nat.ble args.length N=true) (h:WC P N Cx.top c (fnQ P fn R) (fr0 args) w):Calls P k args.toArray w R:=by
  subst hn
  refine callsIn_wide.1 (callsIn_of_wp (n:=0) (F:=Fence.wide) hf hb trivial (wpIn_mono (h _ (At.enter hl)) fun e a w hq=>?_))
  obtain ⟨f',hf',hq⟩:=hq
  cases e with
  | normal=>obtain ⟨v,h1,h2⟩:=hq;exact ⟨hf'.nd,v,h1 _ hf'.rd,h2⟩
  | ret=>obtain ⟨v,h1,h2⟩:=hq;exact ⟨hf'.nd,v,h1 _ hf'.rd,h2⟩
  | panic ch=>exact ⟨hf'.nd,hq⟩
  | _=>exact hq.elim
def Taken (P : Program) : List Deferred → World → World → Prop
  | [],w,w'=>w'=w
  | d :: ds,w,w' => ∃ r w1,d.target = .collected r∧(Instr.takeDeferred r).run P w = .ok [] w1∧Taken P ds w1 w'
def fnQM (P : Program) (fn : Func) (R : Ending → World → Prop) : Exit → Fr → World → Prop
  | .normal,f,w | .ret,f,w => ∃ v w',Taken P (dec (f fn.ntmps)) w w'∧(∀ tmps:Array Value,(∀ t,tmps.getD t undef=msk Cx.marked fn.ntmps f t)→(results fn tmps).run P w' = .ok v w')∧R (.returned v) w'
  | _,_,_=>False
theorem leavesM_of {F : Fence} {n : Nat} {fn : Func} {tmps : Array Value} {R : Ending → World → Prop} {w' : World} {v : Value} (hr : (results fn tmps).run P w' = .ok v w') (hR : R (.returned v) w') :
    ∀ (ds:List Deferred) (w:World),Taken P ds w w'→LeavesInM F n P fn tmps R ds .returning w
  | [],w,h=>by
    have:w'=w:=h
    subst this
    exact ⟨v,hr,hR⟩
  | d :: ds,w,⟨r,w1,h1,h2,h3⟩=>⟨by simp,.inl ⟨r,w1,h1,h2,leavesM_of hr hR ds w1 h3⟩⟩
theorem calls_introM {k : FuncId} {fn : Func} {c : Code} {args : List Value} {R : Ending → World → Prop} (hf : P.funcs[k]? = some fn) (hb : fn.body = some c) (hn : fn.ntmps = N)
    (hl:Nat.ble args.length N=true) (h:WC P N Cx.marked c (fnQM P fn R) (fr0 args) w):Calls P k args.toArray w R:=by
  subst hn
  refine callsIn_wide.1 (callsIn_of_wp_marks (n:=0) (F:=Fence.wide) hf hb trivial (wpIn_mono (h _ (At.enter hl)) fun e a w hq=>?_))
  obtain ⟨f',hf',hq⟩:=hq
  cases e with
  | normal=>obtain ⟨v,w',h1,h2,h3⟩:=hq;show LeavesInM _ _ _ _ _ _ _ _ _;rw [hf'.nd];exact leavesM_of (h2 _ hf'.rd) h3 _ _ h1
  | ret=>obtain ⟨v,w',h1,h2,h3⟩:=hq;show LeavesInM _ _ _ _ _ _ _ _ _;rw [hf'.nd];exact leavesM_of (h2 _ hf'.rd) h3 _ _ h1
  | _=>exact hq.elim
end Go.Proofs.YtgmgahphjiiceaaGreat.L
