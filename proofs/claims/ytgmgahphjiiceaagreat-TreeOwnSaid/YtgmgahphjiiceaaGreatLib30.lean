/-
  Maps whose values are slices that nobody writes;what is read of them. No program in sight.
-/
import Derived.Test.YtgmgahphjiiceaaGreatLib29
namespace Go.Proofs.YtgmgahphjiiceaaGreat.L
open Go
section
variable {α κ : Type} {E : Enc α} {w w' : World} {c d : Col} {v u p : Value} {i j : Nat} {m : List (κ × List α)} {kv : κ → Value}
abbrev VR.sl (E : Enc α) : VR (List α) := ⟨fun w c v x => Vw E 1 w c v x, fun h s h1 => h.keep s h1⟩
theorem Mp.trS (h : Mp kv (VR.sl E) i w c v m) (hc : ∀ b, c b = i → d b = j) (h1 : ∀ b, c b = 1 → d b = 1) : Mp kv (VR.sl E) j w d v m := by
  obtain ⟨b,es,clock,h2,h3,h4,h5,h6⟩:=h
  exact ⟨b,es,clock,h2,hc b h3,h4,h5.mono fun _ _ ⟨a,k⟩=>⟨a,Vw.tr k h1⟩,h6⟩
theorem Mp.recolS (h : Mp kv (VR.sl E) i w c v m) (hi : i ≠ 1) (j : Nat) : ∃ c', St [i] w c w c' ∧ Mp kv (VR.sl E) j w c' v m := by
  obtain ⟨b,es,clock,h2,h3,h4,h5,h6⟩:=h
  have s:=St.recol (w:=w) (c:=c) b j
  rw [h3] at s
  refine ⟨_,s,b,es,clock,h2,pc_same,h4,h5.mono fun _ _ ⟨a,k⟩=>⟨a,Vw.tr k fun x hx=>?_⟩,h6⟩
  rw [pc_ne (fun e=>hi (by rw [← h3,← e];exact hx))];exact hx
end
section
variable {α κ : Type} [DecidableEq κ] {E : Enc α} {kv : κ → Value} {P : Program} {f : Fr} {w : World} {c : Col} {o : Oper} {R : Value → World → Prop} {x y : Operand} {v : Value} {i : Nat} {m : List (κ × List α)} {kt et mt : TypeId} {a : κ}
end
section
variable {α σ : Type} {E : Enc (σ × Sl)} {E' : Enc α} {g : σ → List α} {i k n : Nat} {w : World} {c : Col} {v u p q : Value} {xs : List σ} {a b : σ} {sl : Sl} {P : Program} {f : Fr} {o : Oper} {R : Value → World → Prop} {x y : Operand}
theorem OS.stD {t : TypeId} {vs : List Value} {off : Nat} (ho : o.op = .store t x y) (ht : ∀ w, (sizeOf t).run P w = .ok n w) (hx : ev f x = q) (hy : ev f y = u) (hvc : u.cells = vs.toArray)
    (hv:OwD E E' g i w c v xs) (ha:Adr v k E.sz p) (ha' : AdrP p off 1 q) (hk:xs[k]?=some a) (hn:vs.length=n) (hoff:off + vs.length≤E.sz) (h1:∀ u ∈ vs,u.oneCell'=true) (hi:i ≠ 1)
    (he:∀ s0:Sl,∃ s1:Sl,E.e (b,s1)=(E.e (a,s0)).take off++vs++(E.e (a,s0)).drop (off + vs.length)∧(Vw E' 1 w c s0.val (g a)→Vw E' 1 w c s1.val (g b)))
    (h:∀ w',OwD E E' g i w' c v (xs.set k b)→St [i] w c w' c→R undef w'):OS P o f w R:=by
  obtain ⟨ps,h2,h3,h4⟩:=hv
  subst h3
  rw [List.getElem?_map,Option.map_eq_some_iff] at hk
  obtain ⟨⟨a0,s0⟩,hq,rfl⟩:=hk
  obtain ⟨s1,e1,e2⟩:=he s0
  refine OS.stOwnAt (x0:=(a0,s0)) (x':=(b,s1)) ho ht hx hy hvc h2 ha ha' hq hn hoff h1 e1 fun w' o' st=>h w' ⟨_,o',?_,?_⟩ st
  · rw [List.map_set]
  · intro z hz
    have h1' : 1 ∉ [i]:=by simpa using Ne.symm hi
    rcases List.mem_or_eq_of_mem_set hz with hz | rfl
    · exact (h4 z hz).keep st h1'
    · exact (e2 (h4 (a0,s0) (List.mem_of_getElem? hq))).keep st h1'
theorem OS.makeD {t : TypeId} {zr : Value} {kl kc : IntKind} {n m : Int} {ti : TypeInfo} {z0 : σ} {yl yc : Operand} (i : Nat) (ho : o.op = .makeSlice t yl yc) (ht : P.underlying t = some (.slice E.ty)) (hi : P.info? E.ty = some ti) (hsz : ti.size = E.sz) (hz : ti.zero = some zr)
    (hzc:zr.cells.toList=E.e (z0,⟨none,0,0⟩)) (hl:ev f yl = .int kl n) (hc:ev f yc = .int kc m) (h0:0≤n) (hnm:n≤m) (hm:(ti.bytes:Int) * m≤281474976710656) (hl2:m≤9223372036854775807) (hg:g z0=[])
    (h:∀ v w' c',OwD E E' g i w' c' v (List.replicate n.toNat z0)→St [] w c w' c'→R v w'):OS P o f w R :=
  OS.make (z0:=(z0,(⟨none,0,0⟩ : Sl))) i ho ht hi hsz hz hzc hl hc h0 hnm hm hl2 fun v w' c' o s=>h v w' c' ⟨_,o,by simp,fun q hq=>by rw [List.eq_of_mem_replicate hq];show Vw E' 1 w' c' _ (g z0);rw [hg];exact Vw.nil⟩ s
abbrev eD (t : TypeId) : Enc (List α × Sl) := Enc.of1 t (fun q => q.2.val) fun _ => rfl
end
end Go.Proofs.YtgmgahphjiiceaaGreat.L
