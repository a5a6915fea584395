/-
  Slices of slices,copy,texts out of bytes;calls. No program in sight.
-/
import Derived.Test.YtgmgahphjiiceaaGreatLib4
namespace Go.Proofs.YtgmgahphjiiceaaGreat.L
open Go

section
variable {P : Program} {f : Fr} {w : World} {o : Oper} {R : Value → World → Prop} {x y z : Operand} {a b v u p : Value} {c : Col}

def Bd (f : Fr) (x : Option Operand) (d n : Nat) : Prop := (x = none ∧ n = d) ∨ ∃ y k j, x = some y ∧ ev f y = .int k j ∧ 0 ≤ j ∧ n = j.toNat
theorem Bd.none {d : Nat} : Bd f none d d := .inl ⟨rfl, rfl⟩
theorem Bd.some {d : Nat} {k : IntKind} {j : Int} (h : ev f y = .int k j) (h0 : 0 ≤ j) : Bd f (some y) d j.toNat := .inr ⟨y, k, j, rfl, h, h0, rfl⟩
theorem run_bounds {lo hi mx : Option Operand} {isS : Bool} {n cap l h m : Nat} (hl : Bd f lo 0 l) (hh : Bd f hi n h) (hm : Bd f mx cap m) (h1 : l ≤ h) (h2 : h ≤ m) (h3 : m ≤ cap)
    (hx:mx = .none ∨ hi ≠ .none):(Instr.sliceBounds isS n cap (lo.map (ev f)) (hi.map (ev f)) (mx.map (ev f))).run P w = .ok (l,h,m) w:=by
  rcases hl with ⟨rfl,rfl⟩ | ⟨yl,kl,jl,rfl,e1,p1,rfl⟩ <;> rcases hh with ⟨rfl,rfl⟩ | ⟨yh,kh,jh,rfl,e2,p2,rfl⟩ <;> rcases hm with ⟨rfl,rfl⟩ | ⟨ym,km,jm,rfl,e3,p3,rfl⟩
  all_goals first
    | (simp at hx;done)
    | (simp only [Instr.sliceBounds,Option.map_some,Option.map_none,Instr.sliceBound,asIntOf, *]
       repeat (first | rw [Sem.run_bind] | rw [Sem.run_pure] | rw [Result.andThen_ok] | (rw [Sem.run_ite,if_pos (by omega)]) | (rw [if_pos (by omega)]))
       try rfl)
    | (simp [Instr.sliceBounds];done)
theorem OS.sliceV {α : Type} {E : Enc α} {i : Nat} {xs : List α} {t l h : Nat} {lo hi mx : Option Operand} (ho : o.op = .slice t x lo hi mx) (ht : P.underlying t = some (.slice E.ty)) (hs : ∀ w, (sizeOf E.ty).run P w = .ok E.sz w)
    (hx:ev f x=v) (hv:Vw E i w c v xs) (hl:Bd f lo 0 l) (hh:Bd f hi xs.length h) (hm:mx = .none) (h1:l≤h) (h2:h≤xs.length)
    (hk:∀ v',Vw E i w c v' ((xs.take h).drop l)→R v' w):OS P o f w R:=by
  subst hm
  have hcap:∃ ad cap,v = .slice ad xs.length cap∧xs.length≤cap:=by
    rcases hv with ⟨e,e'⟩ | ⟨b,off,cap,cs,T,fz,e1,e2,_⟩
    · subst e'
      rcases e with e | ⟨a0,q0,e⟩
      · exact ⟨none,0,e,Nat.le_refl _⟩
      · exact ⟨some a0,q0,e,Nat.zero_le _⟩
    · exact ⟨_,cap,e1,e2⟩
  obtain ⟨ad,cap,e1,e2⟩:=hcap
  refine OS.val (w':=w) ?_ (hk _ (Vw.sub hv h1 h2 ad _ cap e1 cap (by omega) (Nat.le_refl _)))
  unfold execOp;rw [ho]
  have hb:=run_bounds (P:=P) (w:=w) (isS:=true) (n:=xs.length) hl hh (Bd.none (d:=cap)) h1 (by omega) (Nat.le_refl _) (.inl rfl)
  simp only [Option.map_none] at hb
  simp only [hx,e1,Instr.sliceAt,Instr.slice,Sem.run_bind,run_underlying ht,Result.andThen_ok,Option.map_none,hb,hs,Sem.run_pure]
theorem OS.sliceV3 {α : Type} {E : Enc α} {i : Nat} {xs : List α} {t l h m : Nat} {lo : Option Operand} {hi mx : Operand} (ho : o.op = .slice t x lo (some hi) (some mx)) (ht : P.underlying t = some (.slice E.ty)) (hs : ∀ w, (sizeOf E.ty).run P w = .ok E.sz w)
    (hx:ev f x=v) (hv:Vw E i w c v xs) (hl:Bd f lo 0 l) (hh:Bd f (some hi) xs.length h) (hm:Bd f (some mx) 0 m) (h1:l≤h) (h2:h≤m) (h3:m≤xs.length)
    (hk:∀ v',Vw E i w c v' ((xs.take h).drop l)→R v' w):OS P o f w R:=by
  have hcap:∃ ad cap,v = .slice ad xs.length cap∧xs.length≤cap:=by
    rcases hv with ⟨e,e'⟩ | ⟨b,off,cap,cs,T,fz,e1,e2,_⟩
    · subst e'
      rcases e with e | ⟨a0,q0,e⟩
      · exact ⟨none,0,e,Nat.le_refl _⟩
      · exact ⟨some a0,q0,e,Nat.zero_le _⟩
    · exact ⟨_,cap,e1,e2⟩
  obtain ⟨ad,cap,e1,e2⟩:=hcap
  refine OS.val (w':=w) ?_ (hk _ (Vw.sub hv h1 (by omega) ad _ cap e1 m h2 (by omega)))
  unfold execOp;rw [ho]
  have hm' : Bd f (some mx) cap m:=by
    rcases hm with ⟨e,_⟩ | e
    · cases e
    · exact .inr e
  have hb:=run_bounds (P:=P) (w:=w) (isS:=true) (n:=xs.length) hl hh hm' h1 h2 (by omega) (.inr (by simp))
  simp only [Option.map_some] at hb
  simp only [hx,e1,Instr.sliceAt,Instr.slice,Sem.run_bind,run_underlying ht,Result.andThen_ok,Option.map_some,hb,hs,Sem.run_pure]
theorem OS.sliceOwn {α : Type} {E : Enc α} {i : Nat} {xs : List α} {t h : Nat} {hi : Option Operand} (ho : o.op = .slice t x none hi none) (ht : P.underlying t = some (.slice E.ty)) (hs : ∀ w, (sizeOf E.ty).run P w = .ok E.sz w)
    (hx:ev f x=v) (hv:Ow E i w c v xs) (hh:Bd f hi xs.length h) (h2:h≤xs.length) (hk:∀ v',Ow E i w c v' (xs.take h)→R v' w):OS P o f w R:=by
  obtain ⟨⟨hl,h3⟩,h4⟩:=hv
  have hlen:(xs.take h).length=h:=by simp;omega
  have run:∀ ad cap,v = .slice ad xs.length cap→xs.length≤cap→(execOp (ev f) o).run P w = .ok (.value (.slice ad h cap)) w:=by
    intro ad cap e1 e2
    unfold execOp;rw [ho]
    have hb:=run_bounds (P:=P) (w:=w) (isS:=true) (n:=xs.length) Bd.none hh (Bd.none (d:=cap)) (Nat.zero_le _) (by omega) (Nat.le_refl _) (.inl rfl)
    simp only [Option.map_none] at hb
    simp only [hx,e1,Instr.sliceAt,Instr.slice,Sem.run_bind,run_underlying ht,Result.andThen_ok,Option.map_none,hb,hs,Sem.run_pure]
    congr 3
    rw [Nat.zero_mul]
    cases ad with
    | none=>simp
    | some ad=>simp [Addr.add]
  rcases h3 with ⟨e,e'⟩ | ⟨g,cap,cur,e1,hg0,hg,hn,hm,hcs,ht'⟩
  · have hxs:xs=[]:=List.length_eq_zero_iff.1 e'
    subst hxs
    have:h=0:=by simpa using h2
    subst this
    exact OS.val (run none 0 (by simpa using e) (Nat.le_refl _)) (hk _ (by simpa using Ow.nil))
  · refine OS.val (run _ cap e1 hn) (hk _ ⟨⟨fl_length _,.inr ⟨g,cap,cur,by rw [hlen],hg0,hg,by omega,hm,hcs,?_⟩⟩,fun g' hg'=>h4 g' (by rw [e1];exact hg')⟩)
    rw [hlen,← fl_take,← ht',List.take_take,Nat.min_eq_left (Nat.mul_le_mul_right _ h2)]
theorem fl_u8 {t : TypeId} (l : List UInt8) : fl (eU8 t) l = l.map fun b => Value.int .u8 (b.toNat : Int) := by
  induction l with
  | nil=>rfl
  | cons a l ih=>simp only [fl,List.flatMap_cons,List.map_cons] at ih ⊢;rw [ih];rfl
end
section
variable {P : Program} {N : Nat} {D : Cx} {f : Fr} {w : World} {ops rest : List Oper} {o : Oper} {Q : Exit → Fr → World → Prop}
theorem WR.k {d : Nat} (hg : o.guard = none) (hd : o.dst = some d) (hN : Nat.blt d N = true) (h : OS P o (msk D N f) w fun v w' => WR P ops N D Q rest (up f d v) w') : WR P ops N D Q (o :: rest) f w :=
  WR.os hg hd hN h fun _ _ h=>h
theorem WR.cut2 (n : Nat) (J : Fr → World → Prop) {l : List Oper} (h : WR P ops N D (thenQ J Q) (l.take n) f w) (hk : ∀ f w, J f w → WR P ops N D Q (l.drop n) f w) : WR P ops N D Q l f w :=
  WR.cut n J hk h
theorem thenQ_ret {K : Fr → World → Prop} (h : Q .ret f w) : thenQ K Q .ret f w := h
theorem blkQ_ret {id : Nat} (h : Q .ret f w) : blkQ id Q .ret f w := h
theorem WC.endJ {x : Code} (J : Fr → World → Prop) (h : WC P N D x (thenQ J Q) f w) (hk : ∀ f w, J f w → Q .normal f w) : WC P N D x Q f w :=
  h.mono fun e f w h=>by cases e <;> first | exact hk f w h | exact h
theorem WC.blockJ2 {id : Nat} {c : Code} (J : Fr → World → Prop) (h : WC P N D c (blkQ id (thenQ J Q)) f w) (hk : ∀ f w, J f w → Q .normal f w) : WC P N D (.block id c) Q f w := WC.blockJ J hk h
theorem WR.kT {d dj j : Nat} {b : Bool} (hg : o.guard = some (j, b)) (hj : (ops[j]?).bind (·.dst) = some dj) (hb : msk D N f dj = .bool b)
    (hd:o.dst=some d) (hN:Nat.blt d N=true) (h:OS P o (msk D N f) w fun v w'=>WR P ops N D Q rest (up f d v) w'):WR P ops N D Q (o :: rest) f w :=
  WR.gT hg hj hb hd hN h fun _ _ h=>h
theorem WR.k0 (hg : o.guard = none) (hd : o.dst = none) (h : OS P o (msk D N f) w fun _ w' => WR P ops N D Q rest f w') : WR P ops N D Q (o :: rest) f w :=
  WR.os0 hg hd h fun _ _ h=>h
end
/- the plain functions' steps -/
section
variable {α β : Type}
def gt (xs : List α) (i : Int) : Option α := if 0 ≤ i then xs[i.toNat]? else none
def st (xs : List α) (i : Int) (v : α) : Option (List α) := if 0 ≤ i ∧ i < xs.length then some (xs.set i.toNat v) else none
def sub (xs : List α) (l h : Int) : Option (List α) := if 0 ≤ l ∧ l ≤ h ∧ h ≤ xs.length then some ((xs.take h.toNat).drop l.toNat) else none
def app (n : Nat) (xs ys : List α) : Option (List α) := if xs.length + ys.length ≤ n then some (xs ++ ys) else none
def mks (n : Nat) (z : α) (k : Int) : Option (List α) := if 0 ≤ k ∧ k ≤ n then some (List.replicate k.toNat z) else none
def req (p : Prop) [Decidable p] : Option Unit := if p then some () else none
theorem nt {b : Bool} (h : b = false) : ¬ b = true := by rw [h]; exact Bool.false_ne_true
theorem vb_t {b : Bool} {v : Value} (h : v = .bool b) (hb : b = true) : v = .bool true := by rw [h, hb]
theorem vb_f {b : Bool} {v : Value} (h : v = .bool b) (hb : b = false) : v = .bool false := by rw [h, hb]
theorem and_t {a b : Bool} (h : a = true) : Value.bool b = .bool (a && b) := by rw [h, Bool.true_and]
theorem and_f {a b : Bool} (h : a = false) : Value.bool false = .bool (a && b) := by rw [h, Bool.false_and]
theorem or_t {a b : Bool} (h : a = true) : Value.bool true = .bool (a || b) := by rw [h, Bool.true_or]
theorem or_f {a b : Bool} (h : a = false) : Value.bool b = .bool (a || b) := by rw [h, Bool.false_or]
inductive Lr (α β : Type) where
  | ret (a:α)
  | go (b:β)
def lrc {α β γ : Type} (p : Lr α β) (g : α → γ) (h : β → γ) : γ := match p with
  | .ret a=>g a
  | .go b=>h b
theorem bind_some {x : Option α} {g : α → Option β} {r : β} (h : x.bind g = some r) : ∃ a, x = some a ∧ g a = some r := Option.bind_eq_some_iff.1 h
theorem gt_some {xs : List α} {i : Int} {v : α} (h : gt xs i = some v) : 0 ≤ i ∧ i < xs.length ∧ xs[i.toNat]? = some v := by
  unfold gt at h
  split at h
  · rename_i h0
    have:=(List.getElem?_eq_some_iff.1 h).1
    exact ⟨h0,by omega,h⟩
  · cases h
theorem sub_some {xs ys : List α} {l r : Int} (h : sub xs l r = some ys) : 0 ≤ l ∧ l ≤ r ∧ r ≤ xs.length ∧ ys = (xs.take r.toNat).drop l.toNat := by
  unfold sub at h
  split at h
  · rename_i h0;cases h;exact ⟨h0.1,h0.2.1,h0.2.2,rfl⟩
  · cases h
theorem app_some {n : Nat} {xs ys zs : List α} (h : app n xs ys = some zs) : xs.length + ys.length ≤ n ∧ zs = xs ++ ys := by
  unfold app at h
  split at h
  · rename_i h0;cases h;exact ⟨h0,rfl⟩
  · cases h
theorem mks_some {n : Nat} {z : α} {k : Int} {xs : List α} (h : mks n z k = some xs) : 0 ≤ k ∧ k ≤ n ∧ xs = List.replicate k.toNat z := by
  unfold mks at h
  split at h
  · rename_i h0;cases h;exact ⟨h0.1,h0.2,rfl⟩
  · cases h
theorem req_some {p : Prop} [Decidable p] {u : Unit} (h : req p = some u) : p := by
  unfold req at h
  split at h
  · rename_i h0;exact h0
  · cases h
end
end Go.Proofs.YtgmgahphjiiceaaGreat.L
