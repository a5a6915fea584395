/-
  Maps with numbers for keys,in the order of their keys;numbers that are added to at once;a nil map. No program in sight.
-/
import Derived.Test.YtgmgahphjiiceaaGreatLib32
import Derived.Laws.LoneSync
namespace Go.Proofs.YtgmgahphjiiceaaGreat.L
open Go
section
variable {β : Type} {m m' : List (Int × β)} {a : Int} {v : β}
def srt (m : List (Int × β)) : Prop := m.Pairwise fun a b => a.1 < b.1
def msetC : List (Int × β) → Int → β → List (Int × β)
  | [],a,v=>[(a,v)]
  | x :: m,a,v=>if x.1=a then (a,v) :: m else if a < x.1 then (a,v) :: x :: m else x :: msetC m a v
theorem fil_self (h : ∀ x ∈ m, x.1 ≠ a) : m.filter (fun x => decide (x.1 ≠ a)) = m := List.filter_eq_self.2 fun x hx => by simpa using h x hx
theorem nd_of (h : (m.map (·.1)).Nodup) {x : Int × β} (h' : m = x :: m') : (∀ y ∈ m', y.1 ≠ x.1) ∧ (m'.map (·.1)).Nodup := by
  subst h'
  simp only [List.map_cons,List.nodup_cons] at h
  exact ⟨fun y hy e=>h.1 (List.mem_map.2 ⟨y,hy,e⟩),h.2⟩
theorem mset_perm : ∀ {m : List (Int × β)}, (m.map (·.1)).Nodup → (mset m a v).Perm ((a, v) :: m.filter fun x => decide (x.1 ≠ a))
  | [],_=>by simp [mset]
  | x :: m,h=>by
    obtain ⟨h1,h2⟩:=nd_of h rfl
    by_cases hx:x.1=a
    · subst hx
      simp only [mset,if_true]
      rw [List.filter_cons_of_neg (by simp),fil_self h1]
    · simp only [mset,if_neg hx]
      rw [List.filter_cons_of_pos (by simpa using hx)]
      exact ((mset_perm h2).cons x).trans (List.Perm.swap _ _ _)
theorem srt_cons {x : Int × β} (h : srt (x :: m)) : (∀ y ∈ m, x.1 < y.1) ∧ srt m := by
  unfold srt at h;rw [List.pairwise_cons] at h;exact h
theorem msetC_perm : ∀ {m : List (Int × β)}, srt m → (msetC m a v).Perm ((a, v) :: m.filter fun x => decide (x.1 ≠ a))
  | [],_=>by simp [msetC]
  | x :: m,h=>by
    obtain ⟨h1,h2⟩:=srt_cons h
    by_cases hx:x.1=a
    · subst hx
      simp only [msetC,if_true]
      rw [List.filter_cons_of_neg (by simp),fil_self fun y hy=>by have:=h1 y hy;omega]
    · simp only [msetC,if_neg hx]
      by_cases hl:a < x.1
      · rw [if_pos hl,List.filter_cons_of_pos (by simpa using hx),fil_self fun y hy=>by have:=h1 y hy;omega]
      · rw [if_neg hl,List.filter_cons_of_pos (by simpa using hx)]
        exact ((msetC_perm h2).cons x).trans (List.Perm.swap _ _ _)
theorem msetC_mem {y : Int × β} : ∀ {m : List (Int × β)}, y ∈ msetC m a v → y.1 = a ∨ y ∈ m
  | [],h=>by simp [msetC] at h;exact .inl (by rw [h])
  | x :: m,h=>by
    simp only [msetC] at h
    split at h
    · rcases List.mem_cons.1 h with h | h
      · exact .inl (by rw [h])
      · exact .inr (List.mem_cons_of_mem _ h)
    · split at h
      · rcases List.mem_cons.1 h with h | h
        · exact .inl (by rw [h])
        · exact .inr h
      · rcases List.mem_cons.1 h with h | h
        · exact .inr (by rw [h];exact List.mem_cons_self)
        · rcases msetC_mem h with h | h
          · exact .inl h
          · exact .inr (List.mem_cons_of_mem _ h)
theorem msetC_srt : ∀ {m : List (Int × β)}, srt m → srt (msetC m a v)
  | [],_=>by simp [msetC,srt]
  | x :: m,h=>by
    obtain ⟨h1,h2⟩:=srt_cons h
    simp only [msetC]
    split
    · rename_i hx
      exact List.pairwise_cons.2 ⟨fun y hy=>by have:=h1 y hy;simp only;omega,h2⟩
    · split
      · rename_i hx hl
        exact List.pairwise_cons.2 ⟨fun y hy=>by
          rcases List.mem_cons.1 hy with rfl | hy
          · exact hl
          · have:=h1 y hy;simp only;omega,h⟩
      · rename_i hx hl
        exact List.pairwise_cons.2 ⟨fun y hy=>by
          rcases msetC_mem hy with h | h
          · simp only [h];omega
          · exact h1 y h,msetC_srt h2⟩
theorem mdel_fil : ∀ {m : List (Int × β)}, (m.map (·.1)).Nodup → mdel m a = m.filter fun x => decide (x.1 ≠ a)
  | [],_=>rfl
  | x :: m,h=>by
    obtain ⟨h1,h2⟩:=nd_of h rfl
    by_cases hx:x.1=a
    · subst hx
      simp only [mdel,if_true]
      rw [List.filter_cons_of_neg (by simp),fil_self h1]
    · simp only [mdel,if_neg hx]
      rw [List.filter_cons_of_pos (by simpa using hx),mdel_fil h2]
theorem srt_nd (h : srt m) : (m.map (·.1)).Nodup := by
  unfold srt at h
  rw [List.nodup_iff_pairwise_ne,List.pairwise_map]
  exact h.imp fun h e=>by omega
theorem mget_mem : ∀ {m : List (Int × β)}, (m.map (·.1)).Nodup → (mget m a = some v ↔ (a, v) ∈ m)
  | [],_=>by simp [mget]
  | x :: m,h=>by
    obtain ⟨h1,h2⟩:=nd_of h rfl
    by_cases hx:x.1=a
    · subst hx
      simp only [mget,if_true,Option.some.injEq,List.mem_cons]
      constructor
      · intro e;exact .inl (by rw [← e])
      · rintro (e | e)
        · rw [← e]
        · exact (h1 (x.1,v) e rfl).elim
    · simp only [mget,if_neg hx,List.mem_cons]
      rw [mget_mem h2]
      constructor
      · exact .inr
      · rintro (e | e)
        · exact absurd (by rw [← e]) hx
        · exact e
theorem mget_perm (hp : m'.Perm m) (h : srt m) (a : Int) : mget m' a = mget m a := by
  have h1:=srt_nd h
  have h2:(m'.map (·.1)).Nodup:=(hp.map _).nodup_iff.2 h1
  apply Option.ext
  intro v
  rw [mget_mem h1,mget_mem h2];exact hp.mem_iff
theorem mset_perm2 (hp : m'.Perm m) (h : srt m) (a : Int) (v : β) : (mset m' a v).Perm (msetC m a v) := by
  have h1:=srt_nd h
  have h2:(m'.map (·.1)).Nodup:=(hp.map _).nodup_iff.2 h1
  exact (mset_perm h2).trans (((hp.filter _).cons _).trans (msetC_perm h).symm)
theorem mdel_perm2 (hp : m'.Perm m) (h : srt m) (a : Int) : (mdel m' a).Perm (mdel m a) := by
  have h1:=srt_nd h
  have h2:(m'.map (·.1)).Nodup:=(hp.map _).nodup_iff.2 h1
  rw [mdel_fil h1,mdel_fil h2];exact hp.filter _
theorem mdel_srt (h : srt m) (a : Int) : srt (mdel m a) := by
  rw [mdel_fil (srt_nd h)];exact h.sublist List.filter_sublist
end
abbrev kI : Int → Value := fun k => vI k
section
variable {β : Type} {V : VR β} {P : Program} {f : Fr} {w w' : World} {c c' d : Col} {o : Oper} {R : Value → World → Prop} {x y z : Operand} {v u p : Value} {i j : Nat} {m left : List (Int × β)} {kt et mt : TypeId} {a : Int}
def MpC (V : VR β) (i : Nat) (w : World) (c : Col) (v : Value) (m : List (Int × β)) : Prop := srt m ∧ ∃ m' : List (Int × β), m'.Perm m ∧ Mp kI V i w c v m'
def MpIC (V : VR β) (i j : Nat) (w : World) (c : Col) (v p : Value) (m left : List (Int × β)) : Prop := srt m ∧ ∃ m' l' : List (Int × β), m'.Perm m ∧ l'.Perm left ∧ MpI kI V i j w c v p m' l'
theorem MpC.keep {I : List Nat} (h : MpC V i w c v m) (s : St I w c w' c') (hi : i ∉ I := by decide) (h1 : 1 ∉ I := by decide) : MpC V i w' c' v m := ⟨h.1, let ⟨m', p, q⟩ := h.2; ⟨m', p, q.keep s hi h1⟩⟩
theorem MpIC.keep {I : List Nat} (h : MpIC V i j w c v p m left) (s : St I w c w' c') (hi : i ∉ I := by decide) (hj : j ∉ I := by decide) (h1 : 1 ∉ I := by decide) : MpIC V i j w' c' v p m left :=
  ⟨h.1,let ⟨m',l',p,q,r⟩:=h.2;⟨m',l',p,q,r.keep s hi hj h1⟩⟩
theorem MpIC.mp (h : MpIC V i j w c v p m left) : MpC V i w c v m := ⟨h.1, let ⟨m', _, p, _, r⟩ := h.2; ⟨m', p, r.mp⟩⟩
theorem MpC.isMap (h : MpC V i w c v m) : ∃ b, v = .map (some b) := let ⟨_, _, q⟩ := h.2; q.isMap
theorem MpC.trS {α : Type} {E : Enc α} {m : List (Int × List α)} (h : MpC (VR.sl E) i w c v m) (hc : ∀ b, c b = i → d b = j) (h1 : ∀ b, c b = 1 → d b = 1) : MpC (VR.sl E) j w d v m := ⟨h.1, let ⟨m', p, q⟩ := h.2; ⟨m', p, q.trS hc h1⟩⟩
theorem MpC.recolS {α : Type} {E : Enc α} {m : List (Int × List α)} (h : MpC (VR.sl E) i w c v m) (hi : i ≠ 1) (j : Nat) : ∃ c', St [i] w c w c' ∧ MpC (VR.sl E) j w c' v m := by
  obtain ⟨h0,m',p,q⟩:=h
  obtain ⟨c',s,q'⟩:=q.recolS hi j
  exact ⟨c',s,h0,m',p,q'⟩
theorem MpC.tr {e : β → Value} (h : MpC (VR.flat e) i w c v m) (hc : ∀ b, c b = i → d b = j) : MpC (VR.flat e) j w d v m := ⟨h.1, let ⟨m', p, q⟩ := h.2; ⟨m', p, q.tr hc⟩⟩
theorem MpC.recol {e : β → Value} (h : MpC (VR.flat e) i w c v m) (j : Nat) : ∃ c', St [i] w c w c' ∧ MpC (VR.flat e) j w c' v m := by
  obtain ⟨h0,m',p,q⟩:=h
  obtain ⟨c',s,q'⟩:=q.recol j
  exact ⟨c',s,h0,m',p,q'⟩
theorem OS.makeMapC {t : TypeId} (i : Nat) (ho : o.op = .makeMap t none) (h : ∀ v w' c', MpC V i w' c' v ([] : List (Int × β)) → St [] w c w' c' → R v w') : OS P o f w R :=
  OS.makeMap (kv:=kI) (V:=V) i ho fun v w' c' q s=>h v w' c' ⟨List.Pairwise.nil,[],List.Perm.refl _,q⟩ s
theorem OS.look1C (ho : o.op = .lookup mt x y false) (K : KL P kt kI) (ht : P.underlying mt = some (.map kt et)) {zv : Value} {zx : β} (hz : ∀ w, (zeroValue et).run P w = .ok zv w) (hx : ev f x = v) (hy : ev f y = vI a)
    (hm:MpC V i w c v m) (hzr:V.r w c zv zx) (h:∀ u,V.r w c u ((mget m a).getD zx)→R u w):OS P o f w R:=by
  obtain ⟨h0,m',p,q⟩:=hm
  have e:=mget_perm p h0 a
  exact OS.look1 ho K ht hz hx hy q hzr fun u hu=>h u (by rw [← e];exact hu)
theorem OS.look2C (ho : o.op = .lookup mt x y true) (K : KL P kt kI) (ht : P.underlying mt = some (.map kt et)) {zv : Value} {zx : β} (hz : ∀ w, (zeroValue et).run P w = .ok zv w) (hx : ev f x = v) (hy : ev f y = vI a)
    (hm:MpC V i w c v m) (hzr:V.r w c zv zx) (h:∀ u,V.r w c u ((mget m a).getD zx)→R (.tuple #[u,.bool (mget m a).isSome]) w):OS P o f w R:=by
  obtain ⟨h0,m',p,q⟩:=hm
  have e:=mget_perm p h0 a
  refine OS.look2 ho K ht hz hx hy q hzr fun u hu=>?_
  rw [e] at hu ⊢
  exact h u hu
theorem OS.mapUpdC {q : β} (ho : o.op = .mapUpdate mt x y z ∨ o.op = .insert mt x y z) (K : KL P kt kI) (ht : P.underlying mt = some (.map kt et)) (hx : ev f x = v) (hy : ev f y = vI a) (hz : ev f z = u)
    (hm:MpC V i w c v m) (hu:V.r w c u q) (hi:i ≠ 1) (h:∀ w',MpC V i w' c v (msetC m a q)→St [i] w c w' c→R undef w'):OS P o f w R:=by
  obtain ⟨h0,m',p,r⟩:=hm
  exact OS.mapUpd ho K ht hx hy hz r hu hi fun w' r' s=>h w' ⟨msetC_srt h0,_,mset_perm2 p h0 a q,r'⟩ s
theorem OS.mapDelC (ho : o.op = .call { callee := .builtin .delete, args := #[x, y], argTypes := #[mt, kt] }) (K : KL P kt kI) (ht : P.underlying mt = some (.map kt et)) (hx : ev f x = v) (hy : ev f y = vI a)
    (hm:MpC V i w c v m) (hi:i ≠ 1) (h:∀ w',MpC V i w' c v (mdel m a)→St [i] w c w' c→R (.tuple #[]) w'):OS P o f w R:=by
  obtain ⟨h0,m',p,r⟩:=hm
  exact OS.mapDel ho K ht hx hy r hi fun w' r' s=>h w' ⟨mdel_srt h0 a,_,mdel_perm2 p h0 a,r'⟩ s
theorem OS.lenMapC (ho : o.op = .call { callee := .builtin .len, args := #[x], argTypes := #[mt] }) (ht : ∀ w, (underlying mt).run P w = .ok (.map kt et) w) (hx : ev f x = v) (hm : MpC V i w c v m) (h : R (vI m.length) w) : OS P o f w R := by
  obtain ⟨h0,m',p,r⟩:=hm
  exact OS.lenMap ho ht hx r (by rw [p.length_eq];exact h)
theorem OS.rangeC (j : Nat) (ho : o.op = .range mt x) (ht : ∀ w, (underlying mt).run P w = .ok (.map kt et) w) (hx : ev f x = v) (hm : MpC V i w c v m)
    (h:∀ p w' c',MpIC V i j w' c' v p m m→St [] w c w' c'→R p w'):OS P o f w R:=by
  obtain ⟨h0,m',p,r⟩:=hm
  exact OS.range j ho ht hx r fun q w' c' r' s=>h q w' c' ⟨h0,m',m',p,p,r'⟩ s
theorem OS.nextC (ho : o.op = .next x false) (K : KL P kt kI) (hx : ev f x = p) (hm : MpIC V i j w c v p m left) (hij : i ≠ j) (hj : j ≠ 1)
    (h0:left=[]→R (.tuple #[.bool false]) w)
    (h1:∀ l1 k q l2 u w',left=l1++(k,q) :: l2→k ∉ (l1++l2).map (·.1)→V.r w' c u q→MpIC V i j w' c v p m (l1++l2)→MpE kI V i j w' c p k u→St [j] w c w' c→R (.tuple #[.bool true,vI k,u]) w'):OS P o f w R:=by
  obtain ⟨hs,m',l',p1,p2,r⟩:=hm
  refine OS.next ho K hx r hij hj (fun e=>h0 (by subst e;exact p2.nil_eq.symm)) fun l1 k q l2 u w' e hk hu hr he st=>?_
  have hmem:(k,q) ∈ left:=p2.mem_iff.1 (by rw [e];simp)
  obtain ⟨r1,r2,e2⟩:=List.append_of_mem hmem
  have p3:(l1++l2).Perm (r1++r2):=by
    rw [e,e2] at p2
    exact (List.perm_cons (k,q)).1 ((List.perm_middle.symm.trans p2).trans List.perm_middle)
  exact h1 r1 k q r2 u w' e2 (fun hm=>hk ((p3.map _).mem_iff.2 hm)) hu ⟨hs,m',_,p1,p3,hr⟩ he st
theorem OS.lookNil (ok : Bool) (ho : o.op = .lookup mt x y ok) (K : KL P kt kI) (ht : P.underlying mt = some (.map kt et)) {zv : Value} (hz : ∀ w, (zeroValue et).run P w = .ok zv w) (hx : ev f x = .map none) (hy : ev f y = vI a)
    (h:R (if ok then .tuple #[zv,.bool false] else zv) w):OS P o f w R:=by
  refine OS.val (v:=if ok then .tuple #[zv,.bool false] else zv) (w':=w) ?_ h
  unfold execOp;rw [ho]
  have hf:=K.fnd (es:=[]) (ks:=[]) a w rfl
  have hc:=K.chk true a w
  simp only [hx,hy,Instr.lookup,Sem.run_bind,run_underlying ht,Result.andThen_ok,Sem.run_pure]
  cases ok <;> simp [hc,hz,hf,fidx,Result.andThen]
end
section
variable {P : Program} {f : Fr} {w : World} {c : Col} {o : Oper} {R : Value → World → Prop} {x y : Operand} {p q : Value} {i k : Nat} {us ws : List Value} {a b : Int}
theorem OS.atomAdd {g : FuncId} {fn : Func} {ts : Array TypeId} (ho : o.op = .call { callee := .value (.func g), args := #[x, y], argTypes := ts }) (hx : ev f x = q) (hy : ev f y = vI b)
    (hf:P.funcs[g]?=some fn) (hname:(fn.name == "runtime.NumGoroutine")=false) (hb:fn.body.isNone=true) (hn:Extern.findNext fn=none) (he:Extern.find fn=some (Extern.Atomic.update (Op.intArith .add) .i64 true))
    (hp:Bx i w c p us) (ha:AdrP p k 1 q) (hk:us[k]?=some (vI a)) (hw:us.set k (vI (W (a + b)))=ws)
    (h:∀ w',Bx i w' c p ws→St [i] w c w' c→R (vI (W (a + b))) w'):OS P o f w R:=by
  subst hw
  obtain ⟨b0,T,h2,h3,h4⟩:=hp
  obtain ⟨b',o',hp',hq⟩:=ha
  rw [h2] at hp';cases hp'
  have hk' : k < us.length:=(List.getElem?_eq_some_iff.1 hk).1
  simp only [Nat.zero_add,Nat.mul_one] at hq
  have hc:w.cell? ⟨b0,k,none⟩=some (vI a):=by rw [cell_of_row w b0 k _ _ _ h4];simpa using hk
  have hz:w.frozen? ⟨b0,k,none⟩=false:=by simp [World.frozen?,h4]
  have hr:=run_call_add (P:=P) hf hname hb hn .i64 he (a:=⟨b0,k,none⟩) (x:=a) (y:=b) (s:=W (a + b)) (w:=w) hc hz rfl
  refine OS.val (v:=vI (W (a + b))) (w':=w.setCell ⟨b0,k,none⟩ (vI (W (a + b)))) ?_ (h _ ⟨b0,T,h2,h3,?_⟩ (St.setCell _ h3))
  · unfold execOp;rw [ho]
    have e1:(#[x,y].map (ev f)) = #[.pointer (some ⟨b0,k,none⟩),vI b]:=by simp [hx,hy,hq]
    simp only [resolve,e1,Sem.run_bind,ev,Deferred.ofValue,Sem.run_pure,Result.andThen_ok,invoke]
    simp [hr]
  · rw [setCell_cells h4 _];simp
end
end Go.Proofs.YtgmgahphjiiceaaGreat.L
