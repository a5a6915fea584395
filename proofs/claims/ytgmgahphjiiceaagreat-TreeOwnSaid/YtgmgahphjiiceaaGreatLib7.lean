/-
  More lemmas of one operation each: local arrays,literals,copies. No program in sight.
-/
import Derived.Test.YtgmgahphjiiceaaGreatLib6
namespace Go.Proofs.YtgmgahphjiiceaaGreat.L
open Go

section
variable {P : Program} {f : Fr} {w : World} {o : Oper} {R : Value → World → Prop} {x y z : Operand} {a b v u p : Value} {c : Col} {α : Type} {E : Enc α} {i : Nat} {xs ys : List α}

theorem lim_max {n b : Nat} (_hb : 0 < b) (h : n ≤ 140737488355328 / b) : n ≤ maxLen := by
  have:140737488355328 / b≤140737488355328:=Nat.div_le_self _ _
  simp only [maxLen];omega
theorem lim_bytes {n b : Nat} (hb : 0 < b) (h : n ≤ 140737488355328 / b) : Fits n b := by
  rw [Nat.le_div_iff_mul_le hb] at h;exact fun _ ho=>growslice_fits ho h
theorem OS.boxBx {t : TypeId} {us : List Value} (i : Nat) (ho : o.op = .box t x) (hx : ev f x = v) (hc : v.cells = us.toArray) (h : ∀ p w' c', Bx i w' c' p us → St [] w c w' c' → R p w') : OS P o f w R :=
  OS.box ho hx hc (h _ _ _ (Bx.mk0 us t) (St.alloc _ i))
theorem OS.allocBx {t : TypeId} {zr : Value} {us : List Value} (i : Nat) (ho : o.op = .alloc t) (hz : ∀ w, (zeroValue t).run P w = .ok zr w) (hc : zr.cells = us.toArray)
    (h:∀ p w' c',Bx i w' c' p us→St [] w c w' c'→R p w'):OS P o f w R :=
  OS.alloc ho hz hc (h _ _ _ (Bx.mk0 us t) (St.alloc _ i))
theorem OS.bslice {t : TypeId} {n : Nat} {ps : List (Nat × Operand)} (i : Nat) (xs : List α) (vs : List (Nat × Value)) (ho : o.op = .buildSlice t n ps.toArray) (hp : PV f ps vs)
    (hr:∀ w,(Instr.buildSlice t n vs.toArray).run P w = .ok (.slice (some ⟨w.heap.size,0,none⟩) n n) { w with heap:=w.heap.push (.cells (fl E xs).toArray E.ty) })
    (hn:xs.length=n) (hm:n≤maxLen) (h:∀ v w' c',Ow E i w' c' v xs→St [] w c w' c'→R v w'):OS P o f w R :=
  OS.buildSlice vs ho hp hr (by subst hn;exact h _ _ _ (Ow.mk0 xs hm) (St.alloc _ i))
theorem setCells_arr {T : TypeId} : ∀ (vs : List Value) (k : Nat) (cs : Array Value) (w : World) (g : Nat), w.heap[g]? = some (.cells cs T (0, 0)) → k + vs.length ≤ cs.size → (∀ v ∈ vs, v.oneCell' = true) →
    (storeCells ⟨g,0,none⟩ vs k).run P w = .ok () (w.setRow g (cs.toList.take k++vs++cs.toList.drop (k + vs.length)).toArray):=by
  intro vs k cs w g hg hl h1
  have:=run_storeCells_at P g 0 T vs k cs w hg (by omega) h1
  simpa using this
theorem St.setRow {g : Nat} {cs : Array Value} (hc : c g = i) : St [i] w c (w.setRow g cs) c :=
  ⟨rfl,rfl,rfl,by simp,fun _ _ _=>rfl,fun k _ hn=>setRow_other w g k _ (fun e=>hn (by subst e;simp [hc]))⟩
theorem OS.stBxAll {t : TypeId} {n : Nat} {us ws : List Value} (ho : o.op = .store t x y) (ht : ∀ w, (sizeOf t).run P w = .ok n w) (hx : ev f x = p) (hy : ev f y = v) (hvc : v.cells = ws.toArray)
    (hv:Bx i w c p us) (hn:ws.length=n) (hl:us.length=ws.length) (ho1:∀ v ∈ ws,v.oneCell'=true) (h:∀ w',Bx i w' c p ws→St [i] w c w' c→R undef w'):OS P o f w R:=by
  obtain ⟨b,T,h1,h2,h3⟩:=hv
  have hs:=setCells_arr (P:=P) (T:=T) ws 0 us.toArray w b h3 (by simp [hl]) ho1
  have he:(us.toArray.toList.take 0++ws++us.toArray.toList.drop (0 + ws.length)).toArray=ws.toArray:=by
    rw [Nat.zero_add,← hl];simp
  rw [he] at hs
  refine OS.skip (w':=w.setRow b ws.toArray) ?_ (h _ ⟨b,T,h1,h2,setRow_heap w b _ _ T _ h3⟩ (St.setRow h2))
  unfold execOp;rw [ho]
  simp [hx,hy,h1,Instr.storeAt,Instr.sureAddr,storeVar,ht,hvc,hn,hs]
def RV (P : Program) (f : Fr) (w : World) : List ResultVar → List Value → Prop
  | [],[]=>True
  | r :: rs,v :: vs=>((∃ t,r = .tmp t∧f t=v) ∨ (∃ a t n us,r = .cell a t∧(∃ p,f a=p∧(∀ w,(isAgg t).run P w = .ok true w)∧(∀ w,(sizeOf t).run P w = .ok n w)∧Ld w p us∧us.length=n)∧v = .agg us.toArray))∧RV P f w rs vs
  | _,_=>False
def R1 (P : Program) (f : Fr) (w : World) (r : ResultVar) (v : Value) : Prop :=
  (∃ t,r = .tmp t∧f t=v) ∨ (∃ a t n us,r = .cell a t∧(∃ p,f a=p∧(∀ w,(isAgg t).run P w = .ok true w)∧(∀ w,(sizeOf t).run P w = .ok n w)∧Ld w p us∧us.length=n)∧v = .agg us.toArray)
def resVal (tmps : Array Value) : ResultVar → Sem Value
  | .tmp t=>pure (tmps.getD t undef)
  | .cell a t=>do loadVar t (← asAddr (tmps.getD a undef))
theorem R1.run {r : ResultVar} (h : R1 P f w r v) (tmps : Array Value) (ht : ∀ t, tmps.getD t undef = f t) : (resVal tmps r).run P w = .ok v w := by
  rcases h with ⟨t,rfl,h⟩ | ⟨a,t,n,us,rfl,⟨p,h1,h2,h3,⟨b,off,h4,h5⟩,h6⟩,rfl⟩
  · show (pure _:Sem Value).run P w=_
    rw [ht,h];rfl
  · subst h4
    have:=run_loadCells_list (P:=P) w ⟨b,off,none⟩ us (fun j v hv=>by rw [Addr.add_lit];exact h5 j v hv)
    rw [h6] at this
    simp [resVal,ht,h1,asAddr,loadVar,h2,h3,this]
theorem results_eq (fn : Func) (tmps : Array Value) : results fn tmps = (do let vs ← fn.results.mapM (resVal tmps); pure (if h : vs.size = 1 then vs[0] else .tuple vs)) := by
  unfold results;congr 1
theorem fnQ.l1 {fn : Func} {Rr : Ending → World → Prop} {r : ResultVar} (hr : fn.results = #[r]) (h1 : R1 P f w r v) (h : Rr (.returned v) w) : fnQ P fn Rr .ret f w :=
  ⟨v,fun tmps ht=>by rw [results_eq,hr];simp [h1.run tmps ht],h⟩
def R1s (P : Program) (f : Fr) (w : World) : List ResultVar → List Value → Prop
  | [],[]=>True
  | r :: rs,v :: vs=>R1 P f w r v∧R1s P f w rs vs
  | _,_=>False
theorem R1s.run (tmps : Array Value) (ht : ∀ t, tmps.getD t undef = f t) : ∀ {rs : List ResultVar} {vs : List Value}, R1s P f w rs vs → (rs.mapM (resVal tmps)).run P w = .ok vs w
  | [],[],_=>by simp
  | r :: rs,v :: vs,⟨h1,h2⟩=>by simp [List.mapM_cons,h1.run tmps ht,R1s.run tmps ht h2]
  | [],_ :: _,h=>h.elim
  | _ :: _,[],h=>h.elim
theorem fnQ.ls {fn : Func} {Rr : Ending → World → Prop} {rs : List ResultVar} {vs : List Value} (hr : fn.results = rs.toArray) (h1 : R1s P f w rs vs) (h : Rr (.returned (.tuple vs.toArray)) w) (hn : vs.length ≠ 1 := by decide) : fnQ P fn Rr .ret f w :=
  ⟨.tuple vs.toArray,fun tmps ht=>by
    rw [results_eq,hr]
    have hm:=h1.run tmps ht
    simp [hm,hn],h⟩
end
end Go.Proofs.YtgmgahphjiiceaaGreat.L
