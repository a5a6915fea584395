/-
  What memory holds,as Lean lists;blocks bear colours,so that what is written and what is only read are kept apart. No program in sight.
-/
import Derived.Test.YtgmgahphjiiceaaGreatLib2
namespace Go.Proofs.YtgmgahphjiiceaaGreat.L
open Go

abbrev Col := Nat → Nat
def c0 : Col := fun _ => 0
def pc (c : Col) (b k : Nat) : Col := fun x => cond (Nat.beq x b) k (c x)
theorem pc_same {c : Col} {b k : Nat} : pc c b k b = k := by simp [pc]
theorem pc_ne {c : Col} {b k x : Nat} (h : x ≠ b) : pc c b k x = c x := by simp [pc, nbf h]

structure St (I : List Nat) (w : World) (c : Col) (w' : World) (c' : Col) : Prop where
  os:w'.os=w.os
  tape:w'.tape=w.tape
  output:w'.output=w.output
  size:w.heap.size≤w'.heap.size
  col:∀ b,b < w.heap.size→c b ∉ I→c' b=c b
  blk:∀ b,b < w.heap.size→c b ∉ I→w'.heap[b]?=w.heap[b]?

theorem St.refl {w : World} {c : Col} : St [] w c w c := ⟨rfl, rfl, rfl, Nat.le_refl _, fun _ _ _ => rfl, fun _ _ _ => rfl⟩
theorem St.t {I J : List Nat} {w w1 w2 : World} {c d e : Col} (h : St I w c w1 d) (k : St J w1 d w2 e) : St (I ++ J) w c w2 e := by
  refine ⟨k.os.trans h.os,k.tape.trans h.tape,k.output.trans h.output,Nat.le_trans h.size k.size,fun b hb hn=>?_,fun b hb hn=>?_⟩
  · have h1:c b ∉ I:=fun hh=>hn (by simp [hh])
    have h2:=h.col b hb h1
    rw [k.col b (Nat.lt_of_lt_of_le hb h.size) (by rw [h2];exact fun hh=>hn (by simp [hh])),h2]
  · have h1:c b ∉ I:=fun hh=>hn (by simp [hh])
    have h2:=h.col b hb h1
    rw [k.blk b (Nat.lt_of_lt_of_le hb h.size) (by rw [h2];exact fun hh=>hn (by simp [hh])),h.blk b hb h1]
theorem St.mono {I J : List Nat} {w w' : World} {c c' : Col} (h : St I w c w' c') (hs : ∀ x, x ∈ I → x ∈ J := by decide) : St J w c w' c' :=
  ⟨h.os,h.tape,h.output,h.size,fun b hb hn=>h.col b hb fun hh=>hn (hs _ hh),fun b hb hn=>h.blk b hb fun hh=>hn (hs _ hh)⟩
theorem St.drew {w : World} {c : Col} : St [] w c w.drew c := ⟨rfl, rfl, rfl, Nat.le_refl _, fun _ _ _ => rfl, fun _ _ _ => rfl⟩
theorem St.alloc {w : World} {c : Col} (o : Obj) (k : Nat) : St [] w c (w.alloc o) (pc c w.heap.size k) :=
  ⟨rfl,rfl,rfl,by simp,fun b hb _=>pc_ne (by omega),fun b hb _=>RowKit.Below.heap_alloc w o b hb⟩
theorem St.recol {w : World} {c : Col} (b k : Nat) : St [c b] w c w (pc c b k) :=
  ⟨rfl,rfl,rfl,Nat.le_refl _,fun x _ hn=>pc_ne (fun e=>hn (by simp [e])),fun _ _ _=>rfl⟩
theorem St.entry {I : List Nat} {w w' : World} {c' : Col} (h : St I w c0 w' c') (h0 : 0 ∉ I := by decide) : St [] w c0 w' c' :=
  ⟨h.os,h.tape,h.output,h.size,fun b hb _=>h.col b hb h0,fun b hb _=>h.blk b hb h0⟩
theorem St.below {w w' : World} {c' : Col} (h : St [] w c0 w' c') : RowKit.Below w.heap.size w w' :=
  ⟨h.os,h.tape,h.output,h.size,fun k hk=>h.blk k hk (by simp)⟩
structure Enc (α : Type) where
  ty:TypeId
  sz:Nat
  e:α→List Value
  len:∀ a,(e a).length=sz
  pos:0 < sz
  one:∀ a,∀ v ∈ e a,v.oneCell'=true
def Enc.of1 {α : Type} (t : TypeId) (f : α → Value) (h : ∀ a, (f a).oneCell' = true) : Enc α :=
  ⟨t,1,fun a=>[f a],fun _=>rfl,Nat.one_pos,fun a v hv=>by simp at hv;subst hv;exact h a⟩
abbrev eU8 (t : TypeId) : Enc UInt8 := Enc.of1 t (fun x => vU8 x) fun _ => rfl
abbrev eI (t : TypeId) : Enc Int := Enc.of1 t (fun x => vI x) fun _ => rfl
section
variable {α : Type} {E : Enc α} {w w' : World} {c c' : Col} {v p : Value} {xs ys : List α} {x : α} {i k : Nat}
def fl (E : Enc α) (xs : List α) : List Value := xs.flatMap E.e
theorem fl_length (xs : List α) : (fl E xs).length = xs.length * E.sz := by
  induction xs with
  | nil=>simp [fl]
  | cons x xs ih=>simp only [fl,List.flatMap_cons,List.length_append,List.length_cons] at ih ⊢;rw [ih,E.len,Nat.succ_mul,Nat.add_comm]
theorem fl_append (xs ys : List α) : fl E (xs ++ ys) = fl E xs ++ fl E ys := by simp [fl]
theorem fl_one (xs : List α) : ∀ u ∈ fl E xs, u.oneCell' = true := fun u hu => by
  obtain ⟨a,_,h⟩:=List.mem_flatMap.1 hu
  exact E.one a u h
theorem fl_get : ∀ (xs : List α) (k : Nat) (x : α), xs[k]? = some x → ∀ j u, (E.e x)[j]? = some u → (fl E xs)[k * E.sz + j]? = some u
  | [],k,x,h,_,_,_=>by simp at h
  | y :: ys,0,x,h,j,u,hu=>by
    simp at h;subst h
    have hj:j < (E.e y).length:=by
      rcases Nat.lt_or_ge j (E.e y).length with h | h
      · exact h
      · rw [List.getElem?_eq_none h] at hu;cases hu
    simp only [fl,List.flatMap_cons,Nat.zero_mul,Nat.zero_add]
    rw [List.getElem?_append_left hj];exact hu
  | y :: ys,k + 1,x,h,j,u,hu=>by
    have ih:=fl_get ys k x (by simpa using h) j u hu
    simp only [fl,List.flatMap_cons] at ih ⊢
    rw [List.getElem?_append_right (by rw [E.len,Nat.succ_mul];omega)]
    rw [E.len,show (k + 1) * E.sz + j - E.sz=k * E.sz + j by rw [Nat.succ_mul];omega];exact ih
theorem fl_drop (xs : List α) (n : Nat) : (fl E xs).drop (n * E.sz) = fl E (xs.drop n) := by
  induction n generalizing xs with
  | zero=>simp
  | succ n ih =>
    cases xs with
    | nil=>simp [fl]
    | cons x xs =>
      have:(fl E (x :: xs))=E.e x++fl E xs:=by simp [fl]
      rw [this,List.drop_append,List.drop_eq_nil_of_le (by rw [E.len,Nat.succ_mul];omega),E.len,List.nil_append]
      rw [show (n + 1) * E.sz - E.sz=n * E.sz by rw [Nat.succ_mul];omega,ih];simp
theorem fl_take (xs : List α) (n : Nat) : (fl E xs).take (n * E.sz) = fl E (xs.take n) := by
  induction n generalizing xs with
  | zero=>simp [fl]
  | succ n ih =>
    cases xs with
    | nil=>simp [fl]
    | cons x xs =>
      have:(fl E (x :: xs))=E.e x++fl E xs:=by simp [fl]
      rw [this,List.take_append,List.take_of_length_le (by rw [E.len,Nat.succ_mul];omega),E.len]
      rw [show (n + 1) * E.sz - E.sz=n * E.sz by rw [Nat.succ_mul];omega,ih];simp [fl]

def Nl (v : Value) : Prop := v = .slice none 0 0 ∨ ∃ a cap, v = .slice (some a) 0 cap
def Vw (E : Enc α) (i : Nat) (w : World) (c : Col) (v : Value) (xs : List α) : Prop :=
  (Nl v∧xs=[]) ∨ ∃ b off cap cs T fz,v = .slice (some ⟨b,off,none⟩) xs.length cap∧xs.length≤cap∧c b=i ∧
    w.heap[b]?=some (.cells cs T fz)∧∀ j u,(fl E xs)[j]?=some u→cs[off + j]?=some u
def Ow (E : Enc α) (i : Nat) (w : World) (c : Col) (v : Value) (xs : List α) : Prop :=
  w.ownsRow 0 E.ty E.sz v xs.length (fl E xs)∧∀ g,v.ownBlock=some g→c g=i
def Bx (i : Nat) (w : World) (c : Col) (p : Value) (us : List Value) : Prop :=
  ∃ b T,p = .pointer (some ⟨b,0,none⟩)∧c b=i∧w.heap[b]?=some (.cells us.toArray T (0,0))
def IsSl (v : Value) (n : Nat) : Prop := (Nl v ∧ n = 0) ∨ ∃ b o cap, v = .slice (some ⟨b, o, none⟩) n cap
def Adr (v : Value) (k s : Nat) (p : Value) : Prop := ∃ b o n cap, v = .slice (some ⟨b, o, none⟩) n cap ∧ p = .pointer (some ⟨b, o + k * s, none⟩)
def AdrP (v : Value) (k s : Nat) (p : Value) : Prop := ∃ b o, v = .pointer (some ⟨b, o, none⟩) ∧ p = .pointer (some ⟨b, o + k * s, none⟩)
def Ld (w : World) (p : Value) (us : List Value) : Prop := ∃ b o, p = .pointer (some ⟨b, o, none⟩) ∧ ∀ j u, us[j]? = some u → w.cell? ⟨b, o + j, none⟩ = some u

theorem blk_lt {b : Nat} {o : Obj} (h : w.heap[b]? = some o) : b < w.heap.size := (Array.getElem?_eq_some_iff.1 h).1
theorem Vw.keep {I : List Nat} (h : Vw E i w c v xs) (s : St I w c w' c') (hi : i ∉ I := by decide) : Vw E i w' c' v xs := by
  rcases h with h | ⟨b,off,cap,cs,T,fz,h1,h2,h3,h4,h5⟩
  · exact .inl h
  · have hb:=blk_lt h4
    have hn:c b ∉ I:=by rw [h3];exact hi
    exact .inr ⟨b,off,cap,cs,T,fz,h1,h2,by rw [s.col b hb hn,h3],by rw [s.blk b hb hn,h4],h5⟩
theorem Ow.keep {I : List Nat} (h : Ow E i w c v xs) (s : St I w c w' c') (hi : i ∉ I := by decide) : Ow E i w' c' v xs := by
  obtain ⟨⟨h1,h2⟩,h3⟩:=h
  rcases h2 with h2 | ⟨g,cap,cur,hv,hg,hh,r⟩
  · exact ⟨⟨h1,.inl h2⟩,fun g hg=>by rw [h2.1] at hg;cases hg⟩
  · have hb:=blk_lt hh
    have hc:=h3 g (by rw [hv];rfl)
    have hn:c g ∉ I:=by rw [hc];exact hi
    refine ⟨⟨h1,.inr ⟨g,cap,cur,hv,hg,by rw [s.blk g hb hn,hh],r⟩⟩,fun g' hg'=>?_⟩
    rw [hv] at hg';simp only [Value.ownBlock,Option.some.injEq] at hg';subst hg'
    rw [s.col _ hb hn,hc]
theorem Bx.keep {I : List Nat} {us : List Value} (h : Bx i w c p us) (s : St I w c w' c') (hi : i ∉ I := by decide) : Bx i w' c' p us := by
  obtain ⟨b,T,h1,h2,h3⟩:=h
  have hb:=blk_lt h3
  have hn:c b ∉ I:=by rw [h2];exact hi
  exact ⟨b,T,h1,by rw [s.col b hb hn,h2],by rw [s.blk b hb hn,h3]⟩
theorem Vw.nil : Vw E i w c (.slice none 0 0) [] := .inl ⟨.inl rfl, rfl⟩
theorem Ow.nil : Ow E i w c (.slice none 0 0) [] := ⟨World.ownsRow_nil w 0 _ _, fun g hg => by cases hg⟩
theorem Vw.forget (h : Vw E i w c v xs) : Vw E 0 w c0 v xs := by
  rcases h with h | ⟨b,off,cap,cs,T,fz,h1,h2,h3,h4,h5⟩
  · exact .inl h
  · exact .inr ⟨b,off,cap,cs,T,fz,h1,h2,rfl,h4,h5⟩
theorem Ow.vw (h : Ow E i w c v xs) : Vw E i w c v xs := by
  obtain ⟨⟨h1,h2⟩,h3⟩:=h
  rcases h2 with ⟨h2,h4⟩ | ⟨g,cap,cur,hv,hg,hh,hn,hm,hs,ht⟩
  · exact .inl ⟨.inl h2,List.length_eq_zero_iff.1 h4⟩
  · refine .inr ⟨g,0,cap,cur,E.ty,(0,0),hv,hn,h3 g (by rw [hv];rfl),hh,fun j u hu=>?_⟩
    rw [← ht,List.getElem?_take] at hu
    split at hu
    · rw [Nat.zero_add];simpa using hu
    · cases hu
theorem Vw.isSl (h : Vw E i w c v xs) : IsSl v xs.length := by
  rcases h with ⟨h,h'⟩ | ⟨b,off,cap,cs,T,fz,h1,_⟩
  · subst h';exact .inl ⟨h,rfl⟩
  · exact .inr ⟨b,off,cap,h1⟩
theorem Ow.isSl (h : Ow E i w c v xs) : IsSl v xs.length := h.vw.isSl
theorem Vw.ld (h : Vw E i w c v xs) (ha : Adr v k E.sz p) (hk : xs[k]? = some x) : Ld w p (E.e x) := by
  obtain ⟨b,o,n,cap,hv,hp⟩:=ha
  rcases h with ⟨_,h⟩ | ⟨b',off,cap',cs,T,fz,h1,h2,h3,h4,h5⟩
  · subst h;simp at hk
  · rw [h1] at hv;cases hv
    refine ⟨b,_,hp,fun j u hu=>?_⟩
    rw [cell_of_row w b _ cs T fz h4,Nat.add_assoc]
    exact h5 _ _ (fl_get xs k x hk j u hu)
theorem Ow.ld (h : Ow E i w c v xs) (ha : Adr v k E.sz p) (hk : xs[k]? = some x) : Ld w p (E.e x) := h.vw.ld ha hk
theorem Ld.one {u : Value} (h : Ld w p [u]) : ∃ a, p = .pointer (some a) ∧ w.cell? a = some u := by
  obtain ⟨b,o,hp,h⟩:=h
  exact ⟨_,hp,by simpa using h 0 u rfl⟩
theorem Vw.sub (h : Vw E i w c v xs) {l r : Nat} (hlr : l ≤ r) (hr : r ≤ xs.length) : ∀ a n cap, v = .slice a n cap →
    ∀ m,r≤m→m≤cap→Vw E i w c (.slice (if m=l then a else a.map (·.add (l * E.sz))) (r - l) (m - l)) ((xs.take r).drop l):=by
  intro a n cap hv m hm hmc
  rcases h with ⟨h,h'⟩ | ⟨b',off,cap',cs,T,fz,h1,h2,h3,h4,h5⟩
  · subst h'
    have e1:r=0:=by simpa using hr
    have e2:l=0:=by omega
    subst e1;subst e2
    rcases h with h | ⟨a0,cap0,h⟩
    · rw [h] at hv;cases hv
      have:m=0:=by omega
      subst this;exact .inl ⟨.inl rfl,by simp⟩
    · rw [h] at hv;cases hv
      refine .inl ⟨.inr ?_,by simp⟩
      by_cases hm0:m=0
      · exact ⟨a0,m - 0,by rw [if_pos hm0]⟩
      · exact ⟨a0.add (0 * E.sz),m - 0,by rw [if_neg hm0];rfl⟩
  · rw [h1] at hv;cases hv
    have hlen:((xs.take r).drop l).length=r - l:=by simp;omega
    by_cases hml:m=l
    · have hrl:r=l:=by omega
      rw [if_pos hml]
      have hnil:(xs.take r).drop l=[]:=List.drop_eq_nil_of_le (by simp;omega)
      rw [hnil,hml,hrl,Nat.sub_self]
      exact .inr ⟨_,_,_,cs,T,fz,rfl,Nat.le_refl _,h3,h4,fun j u hu=>by simp [fl] at hu⟩
    · rw [if_neg hml]
      refine .inr ⟨b',off + l * E.sz,m - l,cs,T,fz,?_,by omega,h3,h4,fun j u hu=>?_⟩
      · rw [hlen];simp only [Option.map_some,Addr.add_lit]
      · rw [Nat.add_assoc]
        refine h5 _ _ ?_
        have h6:fl E ((xs.take r).drop l)=((fl E xs).take (r * E.sz)).drop (l * E.sz):=by rw [fl_take,fl_drop]
        rw [h6,List.getElem?_drop,List.getElem?_take] at hu
        split at hu
        · exact hu
        · cases hu
theorem fl_set1 (h1 : E.sz = 1) {u : Value} : ∀ (xs : List α) (k : Nat) (x : α), E.e x = [u] → fl E (xs.set k x) = (fl E xs).set k u
  | [],k,x,_=>by simp [fl]
  | y :: ys,0,x,h=>by
    have:=E.len y;rw [h1] at this
    obtain ⟨z,hz⟩:=List.length_eq_one_iff.1 this
    simp [fl,h,hz]
  | y :: ys,k + 1,x,h=>by
    have:=E.len y;rw [h1] at this
    obtain ⟨z,hz⟩:=List.length_eq_one_iff.1 this
    have ih:=fl_set1 h1 ys k x h
    simp only [fl,List.set_cons_succ,List.flatMap_cons,hz] at ih ⊢
    rw [ih];rfl
theorem setCell_cells {b o : Nat} {cs : Array Value} {T : TypeId} {fz : Nat × Nat} (hb : w.heap[b]? = some (.cells cs T fz)) (u : Value) :
    (w.setCell ⟨b,o,none⟩ u).heap[b]?=some (.cells (cs.setIfInBounds o u) T fz):=by
  have hlt:=blk_lt hb
  have hv:w.heap[b] = .cells cs T fz:=(Array.getElem?_eq_some_iff.1 hb).2
  simp [World.setCell,Array.getElem?_modify,hb]
theorem St.setCell {b o : Nat} (u : Value) (hc : c b = i) : St [i] w c (w.setCell ⟨b, o, none⟩ u) c :=
  ⟨rfl,rfl,rfl,by simp [World.setCell],fun _ _ _=>rfl,fun x _ hn=>RowKit.Below.heap_setCell w _ _ _ (fun e=>hn (by simp at e;simp [e,hc]))⟩
theorem Ow.set (h : Ow E i w c v xs) (h1 : E.sz = 1) {u : Value} (ha : Adr v k E.sz p) (hk : k < xs.length) (hx : E.e x = [u]) :
    ∃ b o old,p = .pointer (some ⟨b,o,none⟩)∧w.cell? ⟨b,o,none⟩=some old∧w.frozen? ⟨b,o,none⟩=false ∧
      Ow E i (w.setCell ⟨b,o,none⟩ u) c v (xs.set k x)∧St [i] w c (w.setCell ⟨b,o,none⟩ u) c:=by
  obtain ⟨b,o,n,cap,hv,hp⟩:=ha
  obtain ⟨⟨hl,h2⟩,h3⟩:=h
  rcases h2 with ⟨h2,_⟩ | ⟨g,cap',cur,hv',hg,hh,hn,hm,hs,ht⟩
  · rw [h2] at hv;cases hv
  · rw [hv'] at hv;cases hv
    rw [h1,Nat.mul_one,Nat.zero_add] at hp
    rw [h1] at hs ht hl
    have hks:k < cur.size:=by omega
    have hc:=h3 b (by rw [hv'];rfl)
    refine ⟨b,k,cur[k],hp,by rw [cell_of_row w b k cur _ _ hh];simp [hks],by simp [World.frozen?,hh],⟨⟨?_,.inr ⟨b,cap,_,?_,Nat.zero_le _,setCell_cells hh u,?_,hm,?_,?_⟩⟩,h3⟩,St.setCell u hc⟩
    · rw [fl_length]
    · rw [List.length_set];exact hv'
    · rw [List.length_set];exact hn
    · rw [h1];simpa using hs
    · rw [List.length_set,h1,fl_set1 h1 xs k x hx,← ht,Array.toList_setIfInBounds,List.take_set]
theorem Bx.mk0 (us : List Value) (T : TypeId) : Bx i (w.alloc (.cells us.toArray T)) (pc c w.heap.size i) (.pointer (some ⟨w.heap.size, 0, none⟩)) us :=
  ⟨_,T,rfl,pc_same,heap_alloc_new w _⟩
theorem Ow.mk0 (xs : List α) (hm : xs.length ≤ maxLen) : Ow E i (w.alloc (.cells (fl E xs).toArray E.ty)) (pc c w.heap.size i) (.slice (some ⟨w.heap.size, 0, none⟩) xs.length xs.length) xs := by
  refine ⟨⟨fl_length xs,.inr ⟨_,_,_,rfl,Nat.zero_le _,heap_alloc_new w _,Nat.le_refl _,hm,by simpa using fl_length xs,?_⟩⟩,fun g hg=>?_⟩
  · rw [← fl_length (E:=E) xs];simp
  · simp only [Value.ownBlock,Option.some.injEq] at hg;subst hg;exact pc_same
theorem Ow.recol (h : Ow E i w c v xs) (j : Nat) : ∃ c', St [i] w c w c' ∧ Ow E j w c' v xs := by
  obtain ⟨h1,h3⟩:=h
  cases hv:v.ownBlock with
  | none=>exact ⟨c,St.refl.mono (by simp),h1,fun g hg=>by rw [hv] at hg;cases hg⟩
  | some g =>
    have hs:=St.recol (w:=w) (c:=c) g j
    rw [h3 g hv] at hs
    exact ⟨_,hs,h1,fun g' hg'=>by rw [hv] at hg';cases hg';exact pc_same⟩
def mg (w : World) (c : Col) (r : Nat → Nat) (d : Col) : Col := fun b => cond (Nat.blt b w.heap.size) (c b) (r (d b))
theorem mg_old {r : Nat → Nat} {d : Col} {b : Nat} (h : b < w.heap.size) : mg w c r d b = c b := by
  have:Nat.blt b w.heap.size=true:=by simpa using h
  simp [mg,this]
theorem mg_new {r : Nat → Nat} {d : Col} {b : Nat} (h : w.heap.size ≤ b) : mg w c r d b = r (d b) := by
  have:Nat.blt b w.heap.size=false:=by
    cases hb:Nat.blt b w.heap.size with
    | false=>rfl
    | true=>have:=(by simpa using hb:b < w.heap.size);omega
  simp [mg,this]
theorem St.merge {d : Col} (r : Nat → Nat) (h : St [] w c0 w' d) : St [] w c w' (mg w c r d) :=
  ⟨h.os,h.tape,h.output,h.size,fun b hb _=>mg_old hb,fun b hb _=>h.blk b hb (by simp)⟩
theorem St.new {d : Col} {b : Nat} (h : St [] w c0 w' d) (hi : d b = i) (h0 : i ≠ 0) : w.heap.size ≤ b := by
  rcases Nat.lt_or_ge b w.heap.size with hb | hb
  · have:=h.col b hb (by simp);rw [this] at hi;exact absurd hi.symm h0
  · exact hb
theorem Ow.merge {d : Col} (r : Nat → Nat) (s : St [] w c0 w' d) (h : Ow E i w' d v xs) (h0 : i ≠ 0) : Ow E (r i) w' (mg w c r d) v xs :=
  ⟨h.1,fun g hg=>by rw [mg_new (s.new (h.2 g hg) h0),h.2 g hg]⟩
end
end Go.Proofs.YtgmgahphjiiceaaGreat.L
