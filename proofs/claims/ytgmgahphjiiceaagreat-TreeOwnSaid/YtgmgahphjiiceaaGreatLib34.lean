/-
  A slice of one's own with room for more elements,0 behind its own. No program in sight.
-/
import Derived.Test.YtgmgahphjiiceaaGreatLib33
namespace Go.Proofs.YtgmgahphjiiceaaGreat.L
open Go
def appz {α : Type} (n : Nat) (xs ys : List α) : Option (List α) := if xs.length + ys.length ≤ n then some (xs ++ ys) else none
theorem appz_some {α : Type} {n : Nat} {xs ys r : List α} (h : appz n xs ys = some r) : xs.length + ys.length ≤ n ∧ r = xs ++ ys := by
  unfold appz at h;split at h
  · rename_i hx;cases h;exact ⟨hx,rfl⟩
  · cases h
section
variable {α : Type} {E : Enc α} {z0 : α} {n i k : Nat} {I : List Nat} {P : Program} {f : Fr} {w w' : World} {c c' d : Col} {o : Oper} {R : Value → World → Prop} {x y : Operand} {v u p : Value} {xs ys : List α} {a : α}
def Owz (E : Enc α) (z0 : α) (n i : Nat) (w : World) (c : Col) (v : Value) (xs : List α) : Prop :=
  ∃ g,v = .slice (some ⟨g,0,none⟩) xs.length n∧c g=i∧xs.length≤n∧n≤maxLen∧w.heap[g]?=some (.cells (fl E (xs++List.replicate (n - xs.length) z0)).toArray E.ty (0,0))
theorem Owz.keep (h : Owz E z0 n i w c v xs) (s : St I w c w' c') (hi : i ∉ I := by decide) : Owz E z0 n i w' c' v xs := by
  obtain ⟨g,h1,h2,h3,h4,h5⟩:=h
  have hb:=blk_lt h5
  have hn:c g ∉ I:=by rw [h2];exact hi
  exact ⟨g,h1,by rw [s.col g hb hn,h2],h3,h4,by rw [s.blk g hb hn,h5]⟩
theorem Owz.isSl (h : Owz E z0 n i w c v xs) : IsSl v xs.length := by
  obtain ⟨g,h1,_⟩:=h;exact .inr ⟨g,0,n,h1⟩
theorem OS.makeZ {t : TypeId} {m l : Int} {zr : Value} {ti : TypeInfo} {k k' : IntKind} (i : Nat) (ho : o.op = .makeSlice t x y) (ht : P.underlying t = some (.slice E.ty))
    (hi:P.info? E.ty=some ti) (hsz:ti.size=E.sz) (hz:ti.zero=some zr) (hzc:zr.cells.toList=E.e z0)
    (hx:ev f x = .int k l) (hy:ev f y = .int k' m) (h0:0≤l) (hnm:l≤m) (hm:(ti.bytes:Int) * m≤281474976710656) (hl:m≤9223372036854775807) (hn:m.toNat=n)
    (h:∀ v w' c',Owz E z0 n i w' c' v (List.replicate l.toNat z0)→St [] w c w' c'→R v w'):OS P o f w R:=by
  have hr:=run_make (P:=P) w t E.ty ti zr ht hi hz k k' l m h0 hnm hm hl
  rw [hsz,madeCells_rep hzc] at hr
  have hmm:m.toNat≤maxLen:=by simp only [maxLen];omega
  have hle:l.toNat≤m.toNat:=by omega
  subst hn
  refine OS.val (by unfold execOp;rw [ho];simp only [hx,hy,Sem.run_bind,hr,Result.andThen_ok];rfl) (h _ _ (pc c w.heap.size i) ⟨w.heap.size,?_,pc_same,?_,hmm,?_⟩ (St.alloc _ i))
  · simp only [List.length_replicate]
  · simpa using hle
  · rw [List.length_replicate,List.replicate_append_replicate,show l.toNat + (m.toNat - l.toNat)=m.toNat by omega]
    exact heap_alloc_new w _
theorem fl_rep_split (hk : k ≤ n) : fl E (List.replicate n z0) = fl E (List.replicate k z0) ++ fl E (List.replicate (n - k) z0) := by
  rw [← fl_append,List.replicate_append_replicate,show k + (n - k)=n by omega]
theorem OS.appendZ' {t t' : TypeId} {ti : TypeInfo} {d' : TypeDesc} (ho : o.op = .call { callee := .builtin .append, args := #[x, y], argTypes := #[t, t'] })
    (ht:P.underlying t=some (.slice E.ty)) (ht' : P.underlying t'=some d')
    (hd' : d' = .slice E.ty ∨ d' = .string) (hi:P.info? E.ty=some ti) (hsz:ti.size=E.sz)
    (hx:ev f x=v) (hy:ev f y=u) (hv:Owz E z0 n i w c v xs) (hs:Src P E.sz w u ys.length (fl E ys)) (hb:xs.length + ys.length≤n)
    (h:∀ v' w' c',Owz E z0 n i w' c' v' (xs++ys)→St [i] w c w' c'→R v' w'):OS P o f w R:=by
  obtain ⟨g,rfl,h2,h3,h4,h5⟩:=hv
  obtain ⟨s1,s2,s3⟩:=hs
  have hcs:(fl E (xs++List.replicate (n - xs.length) z0)).toArray.size=n * E.sz:=by
    rw [List.size_toArray,fl_length,List.length_append,List.length_replicate];congr 1;omega
  have hst:=run_storeCells_at P g (xs.length * E.sz) E.ty (fl E ys) 0 _ w h5 (by
    rw [fl_length,hcs,Nat.add_zero,← Nat.add_mul];exact Nat.mul_le_mul_right _ hb) (fl_one ys)
  simp only [Nat.add_zero] at hst
  refine OS.val (v := .slice (some ⟨g,0,none⟩) (xs.length + ys.length) n) (w':=w.setRow g ((fl E (xs++List.replicate (n - xs.length) z0)).take (xs.length * E.sz)++fl E ys++(fl E (xs++List.replicate (n - xs.length) z0)).drop (xs.length * E.sz + (fl E ys).length)).toArray) ?_
    (h _ _ c ⟨g,by rw [List.length_append],h2,by rw [List.length_append];exact hb,h4,?_⟩ ⟨rfl,rfl,rfl,by simp,fun _ _ _=>rfl,fun k _ hn=>setRow_other w g k _ (fun e=>hn (by subst e;simp [h2]))⟩)
  · unfold execOp;rw [ho]
    simp only [resolve,invoke,builtin,Sem.run_bind,Sem.run_pure,Result.andThen_ok,List.map_toArray,List.map_cons,List.map_nil,hx,hy]
    rcases hd' with rfl | rfl <;>
      simp [Builtin.append_,run_underlying ht,run_underlying ht',sizeOf,typeInfo,hi,hsz,s1,s2,hb,Addr.add_lit,hst]
  · rw [setRow_heap w g _ _ _ _ h5]
    have e:(fl E (xs++List.replicate (n - xs.length) z0)).take (xs.length * E.sz)++fl E ys++(fl E (xs++List.replicate (n - xs.length) z0)).drop (xs.length * E.sz + (fl E ys).length)=fl E (xs++ys++List.replicate (n - (xs++ys).length) z0):=by
      rw [fl_append xs,List.take_append_of_le_length (by rw [fl_length];exact Nat.le_refl _),List.take_of_length_le (by rw [fl_length];exact Nat.le_refl _),
        List.drop_append,List.drop_eq_nil_of_le (by rw [fl_length];omega),List.nil_append,fl_length,fl_length,Nat.add_sub_cancel_left,
        fl_rep_split (k:=ys.length) (n:=n - xs.length) (by omega),List.drop_append,List.drop_eq_nil_of_le (by rw [fl_length,List.length_replicate];exact Nat.le_refl _),List.nil_append,fl_length,List.length_replicate,
        Nat.sub_self,List.drop_zero,← fl_append,← fl_append,List.length_append,Nat.sub_add_eq]
    rw [e]
theorem Owz.set (h : Owz E z0 n i w c v xs) (h1 : E.sz = 1) {u : Value} (ha : Adr v k E.sz p) (hk : k < xs.length) (hx : E.e a = [u]) :
    ∃ b o old,p = .pointer (some ⟨b,o,none⟩)∧w.cell? ⟨b,o,none⟩=some old∧w.frozen? ⟨b,o,none⟩=false ∧
      Owz E z0 n i (w.setCell ⟨b,o,none⟩ u) c v (xs.set k a)∧St [i] w c (w.setCell ⟨b,o,none⟩ u) c:=by
  obtain ⟨b,o,m,cap,hv,hp⟩:=ha
  obtain ⟨g,e,h2,h3,h4,h5⟩:=h
  rw [e] at hv;cases hv
  rw [h1,Nat.mul_one,Nat.zero_add] at hp
  have hlen:(fl E (xs++List.replicate (n - xs.length) z0)).length=n:=by rw [fl_length,h1,Nat.mul_one,List.length_append,List.length_replicate];omega
  refine ⟨b,k,(fl E (xs++List.replicate (n - xs.length) z0))[k]'(by omega),hp,by rw [cell_of_row w b k _ _ _ h5];simp,by simp [World.frozen?,h5],⟨b,by rw [List.length_set];exact e,h2,by rw [List.length_set];exact h3,h4,?_⟩,St.setCell u h2⟩
  rw [setCell_cells h5 u,List.length_set]
  have:=fl_set1 h1 (xs++List.replicate (n - xs.length) z0) k a hx
  rw [List.set_append_left _ _ hk] at this
  rw [this];simp
theorem OS.stZ {q : α} {t : TypeId} (ho : o.op = .store t x y) (ht : ∀ w, (sizeOf t).run P w = .ok 1 w) (hx : ev f x = p) (hy : ev f y = u)
    (hv:Owz E z0 n i w c v xs) (h1:E.sz=1) (ha:Adr v k E.sz p) (hk:k < xs.length) (hq:E.e q=[u])
    (h:∀ w',Owz E z0 n i w' c v (xs.set k q)→St [i] w c w' c→R undef w'):OS P o f w R:=by
  obtain ⟨b,off,old,hp,h2,h3,h4,h5⟩:=hv.set h1 ha hk hq
  exact OS.st1 ho ht (hx.trans hp) hy (E.one q u (by simp [hq])) h2 h3 (h _ h4 h5)
theorem OS.sliceZ {t : TypeId} {hi mx : Operand} {k1 k2 : IntKind} {m : Int} (ho : o.op = .slice t x none (some hi) (some mx)) (ht : P.underlying t = some (.slice E.ty)) (hs : ∀ w, (sizeOf E.ty).run P w = .ok E.sz w)
    (hx:ev f x=v) (h1:ev f hi = .int k1 m) (h2:ev f mx = .int k2 m) (hm:m.toNat=n) (h0:0≤m) (hv:Owz E z0 n i w c v xs)
    (hk:∀ v',Ow E i w c v' (xs++List.replicate (n - xs.length) z0)→R v' w):OS P o f w R:=by
  subst hm
  obtain ⟨g,rfl,h3,h4,h5,h6⟩:=hv
  have hlen:(xs++List.replicate (m.toNat - xs.length) z0).length=m.toNat:=by rw [List.length_append,List.length_replicate];omega
  refine OS.val (v := .slice (some ⟨g,0,none⟩) m.toNat m.toNat) (w':=w) ?_ (hk _ ⟨⟨fl_length _,.inr ⟨g,m.toNat,_,by rw [hlen],Nat.zero_le _,h6,by rw [hlen];exact Nat.le_refl _,h5,by rw [List.size_toArray,fl_length,hlen],?_⟩⟩,fun g' hg'=>?_⟩)
  · unfold execOp;rw [ho]
    have hb:=run_bounds (P:=P) (w:=w) (isS:=true) (n:=xs.length) (cap:=m.toNat) (Bd.none (f:=f) (d:=0)) (Bd.some h1 h0 (d:=xs.length)) (Bd.some h2 h0 (d:=m.toNat)) (Nat.zero_le _) (Nat.le_refl _) (Nat.le_refl _) (.inr (by simp))
    simp only [Option.map_none,Option.map_some] at hb
    simp only [hx,Instr.sliceAt,Instr.slice,Sem.run_bind,run_underlying ht,Result.andThen_ok,Option.map_none,Option.map_some,hb,hs,Sem.run_pure,Nat.sub_zero,Nat.zero_mul]
    split <;> simp [Addr.add_lit]
  · rw [hlen];exact List.take_of_length_le (by simp [fl_length,hlen])
  · simp only [Value.ownBlock,Option.some.injEq] at hg';subst hg';exact h3
end
theorem rcl2 {l : List Nat} {c : Col} {b : Nat} (hl : l.contains 0 = false) : ∀ y, b ≤ c y → c y ≤ 1 → rcc l c y = c y := fun y _ h => by unfold rcc; exact rc_low h hl
theorem mg2_one {w w' : World} {c d : Col} {l J : List Nat} {sh : Nat} (h : St J w (rcc l c) w' d) : ∀ y, 1 ≤ d y → d y ≤ 1 → mg2 w c l J sh d y = d y := fun y h1 h2 => by
  have e:d y=1:=by omega
  rw [mg2_back h (i:=1) rfl y e,e];rfl
end Go.Proofs.YtgmgahphjiiceaaGreat.L
