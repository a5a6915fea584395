/-
  Odds and ends for pointers;a slice's end is cleared. No program in sight.
-/
import Derived.Test.YtgmgahphjiiceaaGreatLib34
namespace Go.Proofs.YtgmgahphjiiceaaGreat.L
open Go
theorem Bx.isPtr {i : Nat} {w : World} {c : Col} {p : Value} {us : List Value} (h : Bx i w c p us) : ∃ b, p = .pointer (some ⟨b, 0, none⟩) := let ⟨b, _, h1, _⟩ := h; ⟨b, h1⟩
section
variable {α : Type} {E : Enc α} {P : Program} {f : Fr} {w : World} {c : Col} {o : Oper} {R : Value → World → Prop} {x : Operand} {p q v v' : Value} {i k s : Nat} {xs : List α}
theorem OS.nilCheckA (ho : o.op = .nilCheck x) (hx : ev f x = q) (hp : AdrP p k s q) (h : R q w) : OS P o f w R := by
  obtain ⟨b,o',_,rfl⟩:=hp
  exact OS.nilCheck ho hx h
def SubV (v : Value) (l n s : Nat) (v' : Value) : Prop := ∃ cap', (l = n ∧ ∃ a, v' = .slice a 0 cap') ∨ l < n ∧ ∃ b cap, v = .slice (some ⟨b, 0, none⟩) n cap ∧ v' = .slice (some ⟨b, l * s, none⟩) (n - l) cap'
theorem OS.sliceSub {t l : Nat} {lo : Option Operand} (ho : o.op = .slice t x lo none none) (ht : P.underlying t = some (.slice E.ty)) (hs : ∀ w, (sizeOf E.ty).run P w = .ok E.sz w)
    (hx:ev f x=v) (hv:Ow E i w c v xs) (hl:Bd f lo 0 l) (h1:l≤xs.length) (hk:∀ v',SubV v l xs.length E.sz v'→R v' w):OS P o f w R:=by
  have hcap:∃ ad cap,v = .slice ad xs.length cap∧xs.length≤cap∧(l < xs.length→∃ b,ad=some ⟨b,0,none⟩):=by
    rcases hv.1.2 with ⟨e,e'⟩ | ⟨g,cap,cur,e,_,_,h3,_⟩
    · exact ⟨none,0,by rw [e,e'],by omega,fun h=>by omega⟩
    · exact ⟨_,cap,e,h3,fun _=>⟨g,rfl⟩⟩
  obtain ⟨ad,cap,rfl,e2,e3⟩:=hcap
  have hb:=run_bounds (P:=P) (w:=w) (isS:=true) (n:=xs.length) (cap:=cap) hl (Bd.none (f:=f) (d:=xs.length)) (Bd.none (d:=cap)) h1 e2 (Nat.le_refl _) (.inl rfl)
  simp only [Option.map_none] at hb
  refine OS.val (v := .slice (if cap=l then ad else ad.map (·.add (l * E.sz))) (xs.length - l) (cap - l)) (w':=w) ?_ (hk _ ⟨cap - l,?_⟩)
  · unfold execOp;rw [ho]
    simp only [hx,Instr.sliceAt,Instr.slice,Sem.run_bind,run_underlying ht,Result.andThen_ok,Option.map_none,hb,hs,Sem.run_pure]
  · rcases Nat.lt_or_ge l xs.length with h | h
    · obtain ⟨b,rfl⟩:=e3 h
      refine .inr ⟨h,b,cap,rfl,?_⟩
      rw [if_neg (by omega)];simp [Addr.add_lit]
    · exact .inl ⟨by omega,_,by rw [show xs.length - l=0 by omega]⟩
theorem OS.clearSub {t l : Nat} {zr : Value} {z0 : α} (ho : o.op = .call { callee := .builtin .clear, args := #[x], argTypes := #[t] }) (ht : P.underlying t = some (.slice E.ty)) (hz : ∀ w, (zeroValue E.ty).run P w = .ok zr w) (hzc : zr.cells.toList = E.e z0)
    (hx:ev f x=v') (hs:SubV v l xs.length E.sz v') (hv:Ow E i w c v xs)
    (h:∀ w',Ow E i w' c v (xs.take l++List.replicate (xs.length - l) z0)→St [i] w c w' c→R (.tuple #[]) w'):OS P o f w R:=by
  have hzs:zr.cells.size=E.sz:=by rw [← Array.length_toList,hzc,E.len]
  obtain ⟨cap',⟨rfl,a,rfl⟩ | ⟨hlt,b,cap,rfl,rfl⟩⟩:=hs
  · refine OS.val (v := .tuple #[]) (w':=w) ?_ (h w (by rw [List.take_length,Nat.sub_self];simpa using hv) (St.refl.mono (by simp)))
    unfold execOp;rw [ho]
    cases a <;> simp [resolve,invoke,builtin,hx,Builtin.clear_,run_underlying ht]
  · obtain ⟨⟨hl,h2⟩,h3⟩:=hv
    rcases h2 with ⟨h2,_⟩ | ⟨g,cap2,cur,hv',hg0,hg,hnc,hcm,hcs,htake⟩
    · cases h2
    · cases hv'
      have hzy:Builtin.zeroCells zr.cells (xs.length - l)=(fl E (List.replicate (xs.length - l) z0)).toArray:=by
        have:=madeCells_rep hzc (xs.length - l)
        rw [← this];unfold Builtin.zeroCells madeCells;rw [hzs]
      have hroom:l * E.sz + (xs.length - l) * E.sz≤cap * E.sz:=by rw [← Nat.add_mul];exact Nat.mul_le_mul_right _ (by omega)
      have hst:=run_storeCells_at P b (l * E.sz) E.ty (fl E (List.replicate (xs.length - l) z0)) 0 cur w hg (by
        rw [fl_length,hcs,Nat.add_zero,List.length_replicate];exact hroom) (fl_one _)
      simp only [Nat.add_zero] at hst
      have hlen:(xs.take l++List.replicate (xs.length - l) z0).length=xs.length:=by simp;omega
      refine OS.val (v := .tuple #[]) (w':=w.setRow b (cur.toList.take (l * E.sz)++fl E (List.replicate (xs.length - l) z0)++cur.toList.drop (l * E.sz + (fl E (List.replicate (xs.length - l) z0)).length)).toArray) ?_
        (h _ ⟨⟨fl_length _,.inr ⟨b,cap,_,by rw [hlen],Nat.zero_le _,setRow_heap w b cur _ _ _ hg,by rw [hlen];exact hnc,hcm,?_,?_⟩⟩,h3⟩ ⟨rfl,rfl,rfl,by simp,fun _ _ _=>rfl,fun k _ hn=>setRow_other w b k _ (fun e=>hn (by subst e;simp [h3 k rfl]))⟩)
      · unfold execOp;rw [ho]
        have hne : ¬ (xs.length - l=0):=by omega
        simp [resolve,invoke,builtin,hx,Builtin.clear_,run_underlying ht,hz,hzy,hst]
      · simp only [List.size_toArray,List.length_append,List.length_take,List.length_drop,Array.length_toList,fl_length,hcs,List.length_replicate];omega
      · rw [hlen,fl_append]
        have e1:cur.toList.take (l * E.sz)=fl E (xs.take l):=by
          rw [← fl_take,← htake,List.take_take,Nat.min_eq_left (Nat.mul_le_mul_right _ (by omega))]
        rw [e1,List.take_append_of_le_length (by rw [List.length_append,fl_length,fl_length,List.length_take,List.length_replicate,← Nat.add_mul];exact Nat.mul_le_mul_right _ (by omega)),
          List.take_of_length_le (by rw [List.length_append,fl_length,fl_length,List.length_take,List.length_replicate,← Nat.add_mul];exact Nat.mul_le_mul_right _ (by omega))]
end
end Go.Proofs.YtgmgahphjiiceaaGreat.L
