/-
  Calls that write what their arguments point to: colours there and back. No program in sight.
-/
import Derived.Test.YtgmgahphjiiceaaGreatLib17
import Derived.Test.YtgmgahphjiiceaaGreatLib18
namespace Go.Proofs.YtgmgahphjiiceaaGreat.L
open Go
open Go.ChangeMaps (setBlock)
def rc (l : List Nat) (x : Nat) : Nat := if x = 1 then 1 else match l.idxOf? x with | some k => k + 3 | none => 0
def rcc (l : List Nat) (c : Col) : Col := fun b => rc l (c b)
def bk (l : List Nat) (sh i : Nat) : Nat := if i = 1 then 1 else if i < 3 then 2 else if i < 3 + l.length then l.getD (i - 3) 0 else i + sh
def mg2 (w : World) (c : Col) (l J : List Nat) (sh : Nat) (d : Col) : Col := fun b => if b < w.heap.size ∧ rc l (c b) ∉ J then c b else bk l sh (d b)
theorem rc_tr {l : List Nat} {c : Col} {i j : Nat} (h : rc l i = j) : ∀ b, c b = i → rcc l c b = j := fun b hb => by unfold rcc; rw [hb]; exact h
theorem rc_one {l : List Nat} : rc l 1 = 1 := rfl
theorem rc_low {l : List Nat} {i : Nat} (hi : i ≤ 1) (hl : l.contains 0 = false) : rc l i = i := by
  have:i=0 ∨ i=1:=by omega
  rcases this with rfl | rfl
  · unfold rc
    rw [if_neg (by decide)]
    have:l.idxOf? 0=none:=by rw [List.idxOf?_eq_none_iff];simpa using hl
    rw [this]
  · rfl
theorem rcc_lt {l : List Nat} (c : Col) (hl : Nat.ble l.length 36 = true) : ∀ b, rcc l c b < 40 := fun b => by
  have hl' : l.length≤36:=by simpa using hl
  unfold rcc rc
  split
  · omega
  · cases h:l.idxOf? (c b) with
    | none=>simp
    | some k =>
      have:=(List.idxOf?_eq_some_iff.1 h).1
      simp;omega
theorem rc_ge {l : List Nat} {x i : Nat} (h : rc l x = i) (hi : 3 ≤ i) : i < 3 + l.length ∧ x = l.getD (i - 3) 0 := by
  unfold rc at h
  split at h
  · omega
  · cases hx:l.idxOf? x with
    | none=>rw [hx] at h;simp at h;omega
    | some k =>
      rw [hx] at h;simp at h
      obtain ⟨h1,h2,_⟩:=List.idxOf?_eq_some_iff.1 hx
      subst h
      refine ⟨by omega,?_⟩
      rw [Nat.add_sub_cancel,List.getD_eq_getElem?_getD,List.getElem?_eq_getElem h1]
      simpa using h2.symm
theorem rc_eq1 {l : List Nat} {x : Nat} (h : rc l x = 1) : x = 1 := by
  unfold rc at h
  split at h
  · assumption
  · cases hx:l.idxOf? x with
    | none=>rw [hx] at h;simp at h
    | some k=>rw [hx] at h;simp at h
theorem mg2_back {w w' : World} {c d : Col} {l J : List Nat} {sh i : Nat} (h : St J w (rcc l c) w' d) (hi : (i == 1 || Nat.ble 3 i) = true) : ∀ b, d b = i → mg2 w c l J sh d b = bk l sh i := fun b hb => by
  unfold mg2
  split
  · rename_i hc
    have h1:=h.col b hc.1 hc.2
    have h2:rc l (c b)=i:=h1.symm.trans hb
    simp only [Bool.or_eq_true,beq_iff_eq] at hi
    rcases hi with rfl | hi
    · rw [rc_eq1 h2];rfl
    · have hi' : 3≤i:=by simpa using hi
      obtain ⟨h3,h4⟩:=rc_ge h2 hi'
      unfold bk
      rw [if_neg (by omega),if_neg (by omega),if_pos h3,h4]
  · rw [hb]
theorem St.mg2 {w w' : World} {c d : Col} {l J I : List Nat} {sh : Nat} (h : St J w (rcc l c) w' d) (hJ : (J.all fun j => Nat.ble 3 j && I.contains (l.getD (j - 3) 0)) = true) : St I w c w' (L.mg2 w c l J sh d) := by
  have key:∀ b,c b ∉ I→rc l (c b) ∉ J:=fun b hn hm=>by
    have h1:=(List.all_eq_true.1 hJ) _ hm
    simp only [Bool.and_eq_true] at h1
    have h2:3≤rc l (c b):=by simpa using h1.1
    obtain ⟨_,h4⟩:=rc_ge (i:=rc l (c b)) rfl h2
    exact hn (by rw [h4];simpa using h1.2)
  exact ⟨h.os,h.tape,h.output,h.size,fun b hb hn=>by unfold L.mg2;rw [if_pos ⟨hb,key b hn⟩],fun b hb hn=>h.blk b hb (key b hn)⟩
theorem St.leave {w w' : World} {c c' : Col} {I J : List Nat} (h : St I w c w' c') (hc : ∀ b, c b < 40) (hI : (I.all fun x => J.contains x || Nat.ble 40 x) = true := by decide) : St J w c w' c' := by
  have key:∀ b,c b ∉ J→c b ∉ I:=fun b hn hm=>by
    have h1:=(List.all_eq_true.1 hI) _ hm
    simp only [Bool.or_eq_true] at h1
    rcases h1 with h1 | h1
    · exact hn (by simpa using h1)
    · have:40≤c b:=by simpa using h1
      have:=hc b;omega
  exact ⟨h.os,h.tape,h.output,h.size,fun b hb hn=>h.col b hb (key b hn),fun b hb hn=>h.blk b hb (key b hn)⟩
theorem nin {i : Nat} {I : List Nat} (hi : i ≤ 1) (h : (I.all fun x => Nat.ble 2 x) = true := by decide) : i ∉ I := fun hm => by
  have h1:=(List.all_eq_true.1 h) _ hm
  have:2≤i:=by simpa using h1
  omega
section
variable {α β κ : Type} {E : Enc α} {w w' : World} {c d : Col} {v p : Value} {i j : Nat} {m : List (κ × β)} {kv : κ → Value} {V : VR β}
theorem Mp.tr {e : β → Value} (h : Mp kv (VR.flat e) i w c v m) (hc : ∀ b, c b = i → d b = j) : Mp kv (VR.flat e) j w d v m := by
  obtain ⟨b,es,clock,h1,h2,h3,h4,h5⟩:=h
  exact ⟨b,es,clock,h1,hc b h2,h3,h4.mono fun _ _ h=>h,h5⟩
theorem Mp.recol {e : β → Value} (h : Mp kv (VR.flat e) i w c v m) (j : Nat) : ∃ c', St [i] w c w c' ∧ Mp kv (VR.flat e) j w c' v m := by
  obtain ⟨b,es,clock,h1,h2,h3,h4,h5⟩:=h
  have s:=St.recol (w:=w) (c:=c) b j
  rw [h2] at s
  exact ⟨_,s,b,es,clock,h1,pc_same,h3,h4.mono fun _ _ h=>h,h5⟩
end
section
variable {P : Program} {f : Fr} {w : World} {o : Oper} {R : Value → World → Prop} {x y : Operand} {p : Value}
theorem eq_ptrn {t e : TypeId} (ht : P.underlying t = some (.pointer e)) (d : Nat) (a : Option Addr) (w : World) : (Op.equalIn (d + 1) t (.pointer a) (.pointer none)).run P w = .ok a.isNone w := by
  cases a <;> simp only [Op.equalIn,Sem.run_bind,run_underlying ht,Result.andThen_ok] <;> rfl
theorem run_eqPtr {t e : TypeId} {a : Option Addr} (ht : P.underlying t = some (.pointer e)) (w : World) : (Op.equal t (.pointer a) (.pointer none)).run P w = .ok a.isNone w := eq_ptrn ht 9999 a w
theorem OS.eqPtr {op : BinOp} {t t' e : TypeId} {a : Option Addr} {q : Bool} (ho : o.op = .binOp op t x y t') (hop : op = .eql ∧ q = a.isNone ∨ op = .neq ∧ q = !a.isNone) (ht : P.underlying t = some (.pointer e))
    (hx:ev f x = .pointer a) (hy:ev f y = .pointer none) (h:R (.bool q) w):OS P o f w R:=by
  refine OS.val (v := .bool q) (w':=w) ?_ h
  unfold execOp;rw [ho]
  have hg:∀ w,(eqGuard op t x y (.pointer a) (.pointer none)).run P w = .ok () w:=by
    intro w
    unfold eqGuard
    rcases hop with ⟨rfl,_⟩ | ⟨rfl,_⟩ <;> simp
  rcases hop with ⟨rfl,rfl⟩ | ⟨rfl,rfl⟩
  · simp [hx,hy,hg,binOp,run_eqPtr ht]
  · simp [hx,hy,hg,binOp,run_eqPtr ht]
theorem OS.eqPtrS {op : BinOp} {t t' e : TypeId} {i : Nat} {c : Col} {us : List Value} {q : Bool} (ho : o.op = .binOp op t x y t') (hop : op = .eql ∧ q = false ∨ op = .neq ∧ q = true) (ht : P.underlying t = some (.pointer e))
    (hx:ev f x=p) (hp:Bx i w c p us) (hy:ev f y = .pointer none) (h:R (.bool q) w):OS P o f w R:=by
  obtain ⟨b,rfl⟩:=hp.ptr
  exact OS.eqPtr ho (hop.imp (fun h=>⟨h.1,h.2⟩) (fun h=>⟨h.1,h.2⟩)) ht hx hy h
theorem OS.nilCheckBx {i : Nat} {c : Col} {us : List Value} (ho : o.op = .nilCheck x) (hx : ev f x = p) (hp : Bx i w c p us) (h : R p w) : OS P o f w R := by
  obtain ⟨b,rfl⟩:=hp.ptr
  exact OS.nilCheck ho hx h
theorem OS.fieldAddrBx {t : TypeId} {k n i : Nat} {c : Col} {us : List Value} {fs : Array Field} {fd : Field} (ho : o.op = .fieldAddr t x k) (ht : ∀ w, (underlying t).run P w = .ok (.struct fs) w) (hf : fs[k]? = some fd)
    (hs:∀ w,(sizeOf fd.type).run P w = .ok n w) (hn:(n == 0)=false) (hx:ev f x=p) (hp:Bx i w c p us) (h:∀ q,AdrP p fd.offset 1 q→R q w):OS P o f w R:=by
  obtain ⟨b,rfl⟩:=hp.ptr
  exact OS.fieldAddr ho ht hf hs hn hx rfl h
theorem OS.fieldAddrA {t : TypeId} {k n s j : Nat} {v : Value} {fs : Array Field} {fd : Field} (ho : o.op = .fieldAddr t x k) (ht : ∀ w, (underlying t).run P w = .ok (.struct fs) w) (hf : fs[k]? = some fd)
    (hs:∀ w,(sizeOf fd.type).run P w = .ok n w) (hn:(n == 0)=false) (hx:ev f x=p) (hp:Adr v j s p) (h:∀ q,AdrP p fd.offset 1 q→R q w):OS P o f w R:=by
  obtain ⟨b,off,m,cap,_,rfl⟩:=hp
  exact OS.fieldAddr ho ht hf hs hn hx rfl h
end
section
variable {β κ : Type} {w : World} {c : Col} {v : Value} {i : Nat} {m : List (κ × β)} {kv : κ → Value} {V : VR β}
theorem Mp.isMap (h : Mp kv V i w c v m) : ∃ b, v = .map (some b) := by
  obtain ⟨b,_,_,h1,_⟩:=h;exact ⟨b,h1⟩
theorem isSlv {v : Value} {n : Nat} (h : IsSl v n) : ∃ s : Sl, v = s.val := ⟨toSl v, (toSl_val h).symm⟩
theorem one_of {us : List Value} (h : (us.all fun u => u.oneCell') = true) : ∀ u ∈ us, u.oneCell' = true := fun u hu => (List.all_eq_true.1 h) u hu
end
section
variable {P : Program} {N : Nat} {D : Cx} {f : Fr} {w : World} {ops rest : List Oper} {o : Oper} {Q : Exit → Fr → World → Prop}
theorem WR.gN {d dj j : Nat} {b : Bool} (hg : o.guard = some (j, b)) (hj : (ops[j]?).bind (·.dst) = some dj) (hb : msk D N f dj = undef)
    (hd:o.dst=some d) (hN:Nat.blt d N=true)
    (k:WR P ops N D Q rest (up f d undef) w):WR P ops N D Q (o :: rest) f w:=fun a ha =>
  wpListIn_step fun K hK=>by
    have hy:yielded ops.toArray a.tmps j=none:=by
      have h1:=ha.rd dj
      rw [hb] at h1
      unfold yielded
      have h2:ops.toArray[j]?=ops[j]?:=by simp
      rw [h2,hj]
      simp only [Option.bind_some]
      cases hx:a.tmps[dj]? with
      | none=>rfl
      | some v=>simp [Array.getD_eq_getD_getElem?,hx] at h1;subst h1;rfl
    rw [if_neg (by simp [Region.wanted,hg,hy])]
    exact ⟨fun _ _=>trivial,hK _ _ (k _ (by rw [hd];exact ha.put hN undef))⟩
end
section
variable {α : Type} {P : Program} {f : Fr} {w : World} {c : Col} {o : Oper} {R : Value → World → Prop} {x y : Operand} {p q v u : Value} {i k off n : Nat} {E : Enc α} {xs : List α}
theorem fl_setN : ∀ (xs : List α) (k : Nat) (x : α), k < xs.length → fl E (xs.set k x) = (fl E xs).take (k * E.sz) ++ E.e x ++ (fl E xs).drop ((k + 1) * E.sz)
  | [],_,_,h=>by simp at h
  | y :: ys,0,x,_=>by
    have hl:=E.len y
    simp [fl,hl]
  | y :: ys,k + 1,x,h=>by
    have ih:=fl_setN ys k x (by simpa using h)
    have hl:=E.len y
    have e1:∀ (zs:List α) z,fl E (z :: zs)=E.e z++fl E zs:=fun zs z=>by simp [fl]
    rw [List.set_cons_succ,e1,e1,ih]
    have h1:(k + 1) * E.sz=(E.e y).length + k * E.sz:=by rw [hl,Nat.succ_mul];omega
    have h2:(k + 1 + 1) * E.sz=(E.e y).length + (k + 1) * E.sz:=by rw [hl,Nat.succ_mul (k + 1)];omega
    rw [h1,h2,List.take_length_add_append,List.drop_length_add_append,List.append_assoc,List.append_assoc,List.append_assoc,h1]
theorem splice {β : Type} (A vs : List β) (a s L off : Nat) (h1 : off + vs.length ≤ s) (h2 : a + s ≤ L) (h3 : L ≤ A.length) :
    (A.take (a + off)++vs++A.drop (a + off + vs.length)).take L =
      (A.take L).take a++(((A.drop a).take s).take off++vs++((A.drop a).take s).drop (off + vs.length))++(A.take L).drop (a + s):=by
  apply List.ext_getElem?
  intro j
  have hj:j < a ∨ (a≤j∧j < a + off) ∨ (a + off≤j∧j < a + off + vs.length) ∨ (a + off + vs.length≤j∧j < a + s) ∨ (a + s≤j∧j < L) ∨ L≤j:=by omega
  simp only [List.getElem?_take,List.getElem?_append,List.getElem?_drop,List.length_append,List.length_take,List.length_drop]
  rcases hj with h | ⟨h,h'⟩ | ⟨h,h'⟩ | ⟨h,h'⟩ | ⟨h,h'⟩ | h
  · repeat (first | rw [if_pos (by omega)] | rw [if_neg (by omega)])
  · repeat (first | rw [if_pos (by omega)] | rw [if_neg (by omega)])
    congr 1;omega
  · repeat (first | rw [if_pos (by omega)] | rw [if_neg (by omega)])
    congr 1;omega
  · repeat (first | rw [if_pos (by omega)] | rw [if_neg (by omega)])
    congr 1;omega
  · repeat (first | rw [if_pos (by omega)] | rw [if_neg (by omega)])
    congr 1;omega
  · repeat (first | rw [if_pos (by omega)] | rw [if_neg (by omega)])
theorem OS.stOwnAt {t : TypeId} {vs : List Value} {x0 x' : α} (ho : o.op = .store t x y) (ht : ∀ w, (sizeOf t).run P w = .ok n w) (hx : ev f x = q) (hy : ev f y = u) (hvc : u.cells = vs.toArray)
    (hv:Ow E i w c v xs) (ha:Adr v k E.sz p) (ha' : AdrP p off 1 q) (hk:xs[k]?=some x0) (hn:vs.length=n) (hoff:off + vs.length≤E.sz) (h1:∀ u ∈ vs,u.oneCell'=true)
    (he:E.e x'=(E.e x0).take off++vs++(E.e x0).drop (off + vs.length)) (h:∀ w',Ow E i w' c v (xs.set k x')→St [i] w c w' c→R undef w'):OS P o f w R:=by
  obtain ⟨b,o1,m,cap,hv1,hp⟩:=ha
  obtain ⟨b2,o2,hp2,hq⟩:=ha'
  rw [hp] at hp2;cases hp2
  obtain ⟨⟨hl,h2⟩,h3⟩:=hv
  rcases h2 with ⟨h2,_⟩ | ⟨g,cap',cur,hv',hg,hh,hnn,hm,hs,htk⟩
  · rw [h2] at hv1;cases hv1
  · rw [hv'] at hv1;cases hv1
    have hkl:k < xs.length:=(List.getElem?_eq_some_iff.1 hk).1
    have hc:=h3 b (by rw [hv'];rfl)
    have hb1:(k + 1) * E.sz≤xs.length * E.sz:=Nat.mul_le_mul_right _ hkl
    have hb2:(k + 1) * E.sz=k * E.sz + E.sz:=Nat.succ_mul _ _
    have hcs:xs.length * E.sz≤cur.size:=by rw [hs];exact Nat.mul_le_mul_right _ hnn
    have hst:=run_storeCells_at P b (k * E.sz + off) E.ty vs 0 cur w hh (by omega) h1
    simp only [Nat.add_zero] at hst
    refine OS.skip (w':=w.setRow b (cur.toList.take (k * E.sz + off)++vs++cur.toList.drop (k * E.sz + off + vs.length)).toArray) ?_ (h _ ⟨⟨fl_length _,.inr ⟨b,cap,_,by rw [List.length_set];exact hv',Nat.zero_le _,setRow_heap w b cur _ E.ty _ hh,by rw [List.length_set];exact hnn,hm,?_,?_⟩⟩,h3⟩ (St.setRow hc))
    · unfold execOp;rw [ho]
      have e1:(0 + k * E.sz + off * 1)=k * E.sz + off:=by omega
      simp [hx,hy,hq,Instr.storeAt,Instr.sureAddr,storeVar,ht,hvc,hn]
      have:=hst
      simp [hn] at this
      rw [this];rfl
    · simp;omega
    · rw [List.length_set,fl_setN xs k x' hkl,← htk]
      have hcl:cur.toList.length=cur.size:=by simp
      have hx0:(cur.toList.drop (k * E.sz)).take E.sz=E.e x0:=by
        have h5:((fl E xs).drop (k * E.sz)).take E.sz=E.e x0:=by
          have hd:xs.drop k=x0 :: xs.drop (k + 1):=by
            rw [← (List.getElem?_eq_some_iff.1 hk).2];exact List.drop_eq_getElem_cons hkl
          rw [fl_drop,hd]
          have:fl E (x0 :: xs.drop (k + 1))=E.e x0++fl E (xs.drop (k + 1)):=by simp [fl]
          rw [this];exact List.take_left' (E.len x0)
        rw [← h5,← htk,List.drop_take,List.take_take,Nat.min_eq_left (by omega)]
      rw [he,← hx0,List.toList_toArray]
      have:=splice cur.toList vs (k * E.sz) E.sz (xs.length * E.sz) off hoff (by omega) (by rw [hcl];exact hcs)
      rw [this,hb2]
end
end Go.Proofs.YtgmgahphjiiceaaGreat.L
