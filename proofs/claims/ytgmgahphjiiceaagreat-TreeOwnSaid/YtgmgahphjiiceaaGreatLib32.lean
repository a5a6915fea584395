/-
  Slices of structs that hold two slices each;those inner slices are written no more. No program in sight.
-/
import Derived.Test.YtgmgahphjiiceaaGreatLib31
namespace Go.Proofs.YtgmgahphjiiceaaGreat.L
open Go Go.Shelf Go.RowKit Go.Sort
section
variable {α σ : Type} {E : Enc (σ × Sl × Sl)} {E' : Enc α} {g h : σ → List α} {i j k : Nat} {I : List Nat} {w w' : World} {c c' d : Col} {v u p : Value} {xs ys : List σ} {ps qs : List (σ × Sl × Sl)} {a : σ} {q : σ × Sl × Sl} {b : Nat}
def InV (E' : Enc α) (b : Nat) (w : World) (c : Col) (v : Value) (x : List α) : Prop := ∃ i, b ≤ i ∧ i ≤ 1 ∧ Vw E' i w c v x
theorem InV.of {b : Nat} {x : List α} (o : Vw E' i w c v x) (h1 : b ≤ i) (h2 : i ≤ 1) : InV E' b w c v x := ⟨i, h1, h2, o⟩
theorem InV.one {b : Nat} {x : List α} (o : Vw E' 1 w c v x) (h1 : b ≤ 1 := by decide) : InV E' b w c v x := ⟨1, h1, Nat.le_refl _, o⟩
theorem InV.nil {b : Nat} (h1 : b ≤ 1 := by decide) : InV E' b w c (.slice none 0 0) [] := ⟨1, h1, Nat.le_refl _, Vw.nil⟩
theorem InV.keep {b : Nat} {x : List α} (o : InV E' b w c v x) (s : St I w c w' c') (h0 : 0 ∉ I := by decide) (h1 : 1 ∉ I := by decide) : InV E' b w' c' v x := by
  obtain ⟨i,h2,h3,o⟩:=o
  refine ⟨i,h2,h3,o.keep s ?_⟩
  have:i=0 ∨ i=1:=by omega
  rcases this with rfl | rfl <;> assumption
theorem InV.tr {b : Nat} {x : List α} (o : InV E' b w c v x) (h1 : ∀ y, b ≤ c y → c y ≤ 1 → d y = c y) : InV E' b w d v x := by
  obtain ⟨i,h2,h3,o⟩:=o
  exact ⟨i,h2,h3,o.tr fun y hy=>by rw [h1 y (by omega) (by omega),hy]⟩
theorem InV.lax {b : Nat} {x : List α} (o : InV E' b w c v x) : InV E' 0 w c v x := let ⟨i, _, h3, o⟩ := o; ⟨i, Nat.zero_le _, h3, o⟩
theorem InV.strict {x : List α} (o : InV E' 1 w c v x) : Vw E' 1 w c v x := by
  obtain ⟨i,h2,h3,o⟩:=o
  obtain rfl:i=1:=by omega
  exact o
def Ins2 (E' : Enc α) (g h : σ → List α) (b : Nat) (w : World) (c : Col) (ps : List (σ × Sl × Sl)) : Prop := ∀ q, q ∈ ps → InV E' b w c q.2.1.val (g q.1) ∧ InV E' b w c q.2.2.val (h q.1)
def VwD2 (E : Enc (σ × Sl × Sl)) (E' : Enc α) (g h : σ → List α) (b : Nat) (i : Nat) (w : World) (c : Col) (v : Value) (xs : List σ) : Prop :=
  ∃ ps,Vw E i w c v ps∧ps.map Prod.fst=xs∧Ins2 E' g h b w c ps
def OwD2 (E : Enc (σ × Sl × Sl)) (E' : Enc α) (g h : σ → List α) (b : Nat) (i : Nat) (w : World) (c : Col) (v : Value) (xs : List σ) : Prop :=
  ∃ ps,Ow E i w c v ps∧ps.map Prod.fst=xs∧Ins2 E' g h b w c ps
theorem Ins2.keep (o : Ins2 E' g h b w c ps) (s : St I w c w' c') (h0 : 0 ∉ I := by decide) (h1 : 1 ∉ I := by decide) : Ins2 E' g h b w' c' ps := fun q hq => ⟨(o q hq).1.keep s h0 h1, (o q hq).2.keep s h0 h1⟩
theorem Ins2.tr (o : Ins2 E' g h b w c ps) (h1 : ∀ y, b ≤ c y → c y ≤ 1 → d y = c y) : Ins2 E' g h b w d ps := fun q hq => ⟨(o q hq).1.tr h1, (o q hq).2.tr h1⟩
theorem Ins2.lax (o : Ins2 E' g h b w c ps) : Ins2 E' g h 0 w c ps := fun q hq => ⟨(o q hq).1.lax, (o q hq).2.lax⟩
theorem VwD2.keep (o : VwD2 E E' g h b i w c v xs) (s : St I w c w' c') (hi : i ∉ I := by decide) (h0 : 0 ∉ I := by decide) (h1 : 1 ∉ I := by decide) : VwD2 E E' g h b i w' c' v xs :=
  let ⟨ps,h2,h3,h4⟩:=o;⟨ps,h2.keep s hi,h3,h4.keep s h0 h1⟩
theorem OwD2.keep (o : OwD2 E E' g h b i w c v xs) (s : St I w c w' c') (hi : i ∉ I := by decide) (h0 : 0 ∉ I := by decide) (h1 : 1 ∉ I := by decide) : OwD2 E E' g h b i w' c' v xs :=
  let ⟨ps,h2,h3,h4⟩:=o;⟨ps,h2.keep s hi,h3,h4.keep s h0 h1⟩
theorem VwD2.tr (o : VwD2 E E' g h b i w c v xs) (hc : ∀ y, c y = i → d y = j) (h1 : ∀ y, b ≤ c y → c y ≤ 1 → d y = c y) : VwD2 E E' g h b j w d v xs :=
  let ⟨ps,h2,h3,h4⟩:=o;⟨ps,h2.tr hc,h3,h4.tr h1⟩
theorem OwD2.tr (o : OwD2 E E' g h b i w c v xs) (hc : ∀ y, c y = i → d y = j) (h1 : ∀ y, b ≤ c y → c y ≤ 1 → d y = c y) : OwD2 E E' g h b j w d v xs :=
  let ⟨ps,h2,h3,h4⟩:=o;⟨ps,h2.tr hc,h3,h4.tr h1⟩
theorem OwD2.vw (o : OwD2 E E' g h b i w c v xs) : VwD2 E E' g h b i w c v xs := let ⟨ps, h2, h3, h4⟩ := o; ⟨ps, h2.vw, h3, h4⟩
theorem OwD2.lax (o : OwD2 E E' g h b i w c v xs) : OwD2 E E' g h 0 i w c v xs := let ⟨ps, h2, h3, h4⟩ := o; ⟨ps, h2, h3, h4.lax⟩
theorem VwD2.lax (o : VwD2 E E' g h b i w c v xs) : VwD2 E E' g h 0 i w c v xs := let ⟨ps, h2, h3, h4⟩ := o; ⟨ps, h2, h3, h4.lax⟩
theorem VwD2.isSl (o : VwD2 E E' g h b i w c v xs) : IsSl v xs.length := by
  obtain ⟨ps,h2,h3,_⟩:=o;have:=h2.isSl;rw [← h3,List.length_map];exact this
theorem OwD2.isSl (o : OwD2 E E' g h b i w c v xs) : IsSl v xs.length := o.vw.isSl
theorem VwD2.nil : VwD2 E E' g h b i w c (.slice none 0 0) [] := ⟨[], Vw.nil, rfl, fun _ h => by cases h⟩
theorem OwD2.nil : OwD2 E E' g h b i w c (.slice none 0 0) [] := ⟨[], Ow.nil, rfl, fun _ h => by cases h⟩
theorem n01 (hi : 2 ≤ i) : 0 ∉ [i] ∧ 1 ∉ [i] := by simp; omega
theorem OwD2.recol (o : OwD2 E E' g h b i w c v xs) (hi : 2 ≤ i) (j : Nat) : ∃ c', St [i] w c w c' ∧ OwD2 E E' g h b j w c' v xs := by
  obtain ⟨ps,h2,h3,h4⟩:=o
  obtain ⟨c',s,o⟩:=h2.recol j
  exact ⟨c',s,ps,o,h3,h4.keep s (n01 hi).1 (n01 hi).2⟩
theorem VwD2.ld (o : VwD2 E E' g h b i w c v xs) (ha : Adr v k E.sz p) (hk : xs[k]? = some a) : ∃ s1 s2 : Sl, Ld w p (E.e (a, s1, s2)) ∧ InV E' b w c s1.val (g a) ∧ InV E' b w c s2.val (h a) := by
  obtain ⟨ps,h2,h3,h4⟩:=o
  subst h3
  rw [List.getElem?_map,Option.map_eq_some_iff] at hk
  obtain ⟨⟨x,s1,s2⟩,hq,rfl⟩:=hk
  exact ⟨s1,s2,h2.ld ha hq,(h4 _ (List.mem_of_getElem? hq)).1,(h4 _ (List.mem_of_getElem? hq)).2⟩
theorem ins2_nil : Ins2 E' g h b w c [] := fun _ h => by cases h
theorem ins2_cons (h1 : InV E' b w c q.2.1.val (g q.1)) (h2 : InV E' b w c q.2.2.val (h q.1)) (t : Ins2 E' g h b w c ps) : Ins2 E' g h b w c (q :: ps) := fun y hy => by
  rcases List.mem_cons.1 hy with rfl | hy
  · exact ⟨h1,h2⟩
  · exact t y hy
variable {P : Program} {f : Fr} {o : Oper} {R : Value → World → Prop} {x y : Operand}
theorem OS.bsliceP2 {t : TypeId} {n : Nat} {os : List (Nat × Operand)} (i : Nat) (ps : List (σ × Sl × Sl)) (vs : List (Nat × Value)) (ho : o.op = .buildSlice t n os.toArray) (hp : PV f os vs)
    (hr:∀ w,(Instr.buildSlice t n vs.toArray).run P w = .ok (.slice (some ⟨w.heap.size,0,none⟩) n n) { w with heap:=w.heap.push (.cells (fl E ps).toArray E.ty) })
    (hn:ps.length=n) (hm:n≤maxLen) (hi:Ins2 E' g h b w c ps) (hk:∀ v w' c',OwD2 E E' g h b i w' c' v (ps.map Prod.fst)→St [] w c w' c'→R v w'):OS P o f w R :=
  OS.bslice i ps vs ho hp hr hn hm fun v w' c' o s=>hk v w' c' ⟨ps,o,rfl,hi.keep s (by simp) (by simp)⟩ s
theorem OS.appendD2 {t t' : TypeId} {ti : TypeInfo} {zr : Value} {d' : TypeDesc} (ho : o.op = .call { callee := .builtin .append, args := #[x, y], argTypes := #[t, t'] })
    (ht:P.underlying t=some (.slice E.ty)) (ht' : P.underlying t'=some d')
    (hd' : d' = .slice E.ty ∨ d' = .string) (hi:P.info? E.ty=some ti) (hsz:ti.size=E.sz) (hz:ti.zero=some zr) (hzs:zr.cells.size=E.sz)
    (hx:ev f x=v) (hy:ev f y=u) (hv:OwD2 E E' g h b i w c v xs) (hs:VwD2 E E' g h b j w c u ys) (h1i:2≤i) (hb:Fits (xs.length + ys.length) ti.bytes) (h63:xs.length + ys.length≤maxLen)
    (hk:∀ v' w' c',OwD2 E E' g h b i w' c' v' (xs++ys)→St [i] w c w' c'→R v' w'):OS P o f w R:=by
  obtain ⟨ps,h2,h3,h4⟩:=hv
  obtain ⟨qs,k2,k3,k4⟩:=hs
  subst h3;subst k3
  refine OS.append ho ht ht' hd' hi hsz hz hzs hx hy h2 k2.src (by simpa using hb) (by simpa using h63) fun v' w' c' o s=>hk _ _ _ ⟨_,o,by simp,?_⟩ s
  have h1:=n01 h1i
  intro q hq
  rcases List.mem_append.1 hq with hq | hq
  · exact (h4.keep s h1.1 h1.2) q hq
  · exact (k4.keep s h1.1 h1.2) q hq
theorem OS.sliceVD2 {t l r : Nat} {lo hi mx : Option Operand} (ho : o.op = .slice t x lo hi mx) (ht : P.underlying t = some (.slice E.ty)) (hs : ∀ w, (sizeOf E.ty).run P w = .ok E.sz w)
    (hx:ev f x=v) (hv:VwD2 E E' g h b i w c v xs) (hl:Bd f lo 0 l) (hh:Bd f hi xs.length r) (hm:mx = .none) (h1:l≤r) (h2:r≤xs.length)
    (hk:∀ v',VwD2 E E' g h b i w c v' ((xs.take r).drop l)→R v' w):OS P o f w R:=by
  obtain ⟨ps,k2,k3,k4⟩:=hv
  subst k3
  refine OS.sliceV ho ht hs hx k2 hl (by simpa using hh) hm h1 (by simpa using h2) fun v' hv'=>hk v' ⟨_,hv',by rw [List.map_drop,List.map_take],fun q hq=>k4 q (List.mem_of_mem_take (List.mem_of_mem_drop hq))⟩
theorem OS.ldNP2 {t : TypeId} {n k : Nat} {a : σ} (ho : o.op = .load t x) (ht : ∀ w, (isAgg t).run P w = .ok true w) (hn : ∀ w, (sizeOf t).run P w = .ok n w) (hx : ev f x = p) (hv : VwD2 E E' g h b i w c v xs) (ha : Adr v k E.sz p) (hk : xs[k]? = some a)
    (hlen:E.sz=n) (hR:∀ s1 s2:Sl,InV E' b w c s1.val (g a)→InV E' b w c s2.val (h a)→R (.agg (E.e (a,s1,s2)).toArray) w):OS P o f w R:=by
  obtain ⟨s1,s2,hl,hv1,hv2⟩:=hv.ld ha hk
  exact OS.ldN ho ht hn hx hl (by rw [E.len];exact hlen) (hR s1 s2 hv1 hv2)
theorem VwD2.ldF {k off : Nat} {a : σ} {us : List Value} {r : Value} (hv : VwD2 E E' g h b i w c v xs) (ha : Adr v k E.sz p) (hk : xs[k]? = some a) (hr : AdrP p off 1 r)
    (hs:∀ s1 s2:Sl,∀ (j:Nat) (u:Value),us[j]?=some u→(E.e (a,s1,s2))[off + j]?=some u):Ld w r us:=by
  obtain ⟨s1,s2,hl,_,_⟩:=hv.ld ha hk
  obtain ⟨b,o,hp,hc⟩:=hl
  obtain ⟨b',o',h1,h2⟩:=hr
  rw [hp] at h1
  simp only [Value.pointer.injEq,Option.some.injEq,Addr.mk.injEq,and_true] at h1
  obtain ⟨rfl,rfl⟩:=h1
  exact ⟨b,_,h2,fun j u hu=>by rw [Nat.mul_one,Nat.add_assoc];exact hc _ _ (hs s1 s2 j u hu)⟩
theorem OS.ldSl2 {t : TypeId} {k off : Nat} {a : σ} {r : Value} (b1 : Bool) (ho : o.op = .load t x) (ht : ∀ w, (isAgg t).run P w = .ok false w) (hx : ev f x = r) (hv : VwD2 E E' g h b i w c v xs) (ha : Adr v k E.sz p) (hk : xs[k]? = some a) (hr : AdrP p off 1 r)
    (hs:∀ s1 s2:Sl,(E.e (a,s1,s2))[off]?=some (cond b1 s1 s2).val) (hR:∀ u,InV E' b w c u (cond b1 g h a)→R u w):OS P o f w R:=by
  obtain ⟨s1,s2,hl,hv1,hv2⟩:=hv.ld ha hk
  obtain ⟨b,oo,hp,hc⟩:=hl
  obtain ⟨b',o',h1,h2⟩:=hr
  rw [hp] at h1
  simp only [Value.pointer.injEq,Option.some.injEq,Addr.mk.injEq,and_true] at h1
  obtain ⟨rfl,rfl⟩:=h1
  refine OS.ld1 (u:=(cond b1 s1 s2).val) ho ht hx ⟨b,_,h2,fun j u hu=>?_⟩ (hR _ (by cases b1 <;> assumption))
  rw [Nat.mul_one,Nat.add_assoc]
  cases j with
  | zero=>simp at hu;subst hu;exact hc _ _ (by simpa using hs s1 s2)
  | succ j=>simp at hu
theorem OS.stD2 {t : TypeId} {n k : Nat} {a y0 : σ} {s1 s2 : Sl} (ho : o.op = .store t x y) (ht : ∀ w, (sizeOf t).run P w = .ok n w) (hx : ev f x = p) (hy : ev f y = u) (hvc : u.cells = (E.e (y0, s1, s2)).toArray)
    (hv:OwD2 E E' g h b i w c v xs) (ha:Adr v k E.sz p) (hk:xs[k]?=some a) (hn:E.sz=n) (hc:∀ u ∈ E.e (y0,s1,s2),u.oneCell'=true) (hi:2≤i)
    (h1:InV E' b w c s1.val (g y0)) (h2:InV E' b w c s2.val (h y0))
    (hR:∀ w',OwD2 E E' g h b i w' c v (xs.set k y0)→St [i] w c w' c→R undef w'):OS P o f w R:=by
  obtain ⟨ps,k2,k3,k4⟩:=hv
  subst k3
  rw [List.getElem?_map,Option.map_eq_some_iff] at hk
  obtain ⟨⟨a0,s0⟩,hq,rfl⟩:=hk
  refine OS.stOwnAt (x0:=(a0,s0)) (x':=(y0,s1,s2)) (k:=k) (off:=0) ho ht hx hy hvc k2 ha (AdrP.z ha) hq (by rw [E.len];exact hn) (by rw [E.len];omega) hc ?_ fun w' o' st=>hR w' ⟨_,o',?_,?_⟩ st
  · rw [List.take_zero,List.nil_append,Nat.zero_add,List.drop_eq_nil_of_le (by rw [E.len,E.len];exact Nat.le_refl _),List.append_nil]
  · rw [List.map_set]
  · intro z hz
    have h3:=n01 hi
    rcases List.mem_or_eq_of_mem_set hz with hz | rfl
    · exact ⟨(k4 z hz).1.keep st h3.1 h3.2,(k4 z hz).2.keep st h3.1 h3.2⟩
    · exact ⟨h1.keep st h3.1 h3.2,h2.keep st h3.1 h3.2⟩
end
end Go.Proofs.YtgmgahphjiiceaaGreat.L
