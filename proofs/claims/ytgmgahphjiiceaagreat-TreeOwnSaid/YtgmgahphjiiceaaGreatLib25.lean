/-
  Slices of structs that hold a slice each;those inner slices are written no more. No program in sight.
-/
import Derived.Test.YtgmgahphjiiceaaGreatLib24
import Derived.Test.YtgmgahphjiiceaaGreatLib20
import Derived.Test.YtgmgahphjiiceaaGreatLib21
namespace Go.Proofs.YtgmgahphjiiceaaGreat.L
open Go Go.Shelf Go.RowKit Go.Sort
instance : Inhabited Sl := ⟨⟨none, 0, 0⟩⟩
section
variable {α σ : Type} {E : Enc (σ × Sl)} {E' : Enc α} {g : σ → List α} {i j k : Nat} {I : List Nat} {w w' : World} {c c' d : Col} {v u p : Value} {xs ys : List σ} {ps qs : List (σ × Sl)} {a : σ}
def Ins (E' : Enc α) (g : σ → List α) (w : World) (c : Col) (ps : List (σ × Sl)) : Prop := ∀ q, q ∈ ps → Vw E' 1 w c q.2.val (g q.1)
def VwD (E : Enc (σ × Sl)) (E' : Enc α) (g : σ → List α) (i : Nat) (w : World) (c : Col) (v : Value) (xs : List σ) : Prop :=
  ∃ ps,Vw E i w c v ps∧ps.map Prod.fst=xs∧Ins E' g w c ps
def OwD (E : Enc (σ × Sl)) (E' : Enc α) (g : σ → List α) (i : Nat) (w : World) (c : Col) (v : Value) (xs : List σ) : Prop :=
  ∃ ps,Ow E i w c v ps∧ps.map Prod.fst=xs∧Ins E' g w c ps
theorem Ins.keep (h : Ins E' g w c ps) (s : St I w c w' c') (h1 : 1 ∉ I := by decide) : Ins E' g w' c' ps := fun q hq => (h q hq).keep s h1
theorem Ins.tr (h : Ins E' g w c ps) (h1 : ∀ b, c b = 1 → d b = 1) : Ins E' g w d ps := fun q hq => (h q hq).tr h1
theorem VwD.keep (h : VwD E E' g i w c v xs) (s : St I w c w' c') (hi : i ∉ I := by decide) (h1 : 1 ∉ I := by decide) : VwD E E' g i w' c' v xs :=
  let ⟨ps,h2,h3,h4⟩:=h;⟨ps,h2.keep s hi,h3,h4.keep s h1⟩
theorem OwD.keep (h : OwD E E' g i w c v xs) (s : St I w c w' c') (hi : i ∉ I := by decide) (h1 : 1 ∉ I := by decide) : OwD E E' g i w' c' v xs :=
  let ⟨ps,h2,h3,h4⟩:=h;⟨ps,h2.keep s hi,h3,h4.keep s h1⟩
theorem VwD.tr (h : VwD E E' g i w c v xs) (hc : ∀ b, c b = i → d b = j) (h1 : ∀ b, c b = 1 → d b = 1) : VwD E E' g j w d v xs :=
  let ⟨ps,h2,h3,h4⟩:=h;⟨ps,h2.tr hc,h3,h4.tr h1⟩
theorem OwD.tr (h : OwD E E' g i w c v xs) (hc : ∀ b, c b = i → d b = j) (h1 : ∀ b, c b = 1 → d b = 1) : OwD E E' g j w d v xs :=
  let ⟨ps,h2,h3,h4⟩:=h;⟨ps,h2.tr hc,h3,h4.tr h1⟩
theorem OwD.vw (h : OwD E E' g i w c v xs) : VwD E E' g i w c v xs := let ⟨ps, h2, h3, h4⟩ := h; ⟨ps, h2.vw, h3, h4⟩
theorem VwD.isSl (h : VwD E E' g i w c v xs) : IsSl v xs.length := by
  obtain ⟨ps,h2,h3,_⟩:=h;have:=h2.isSl;rw [← h3,List.length_map];exact this
theorem OwD.isSl (h : OwD E E' g i w c v xs) : IsSl v xs.length := h.vw.isSl
theorem OwD.nil : OwD E E' g i w c (.slice none 0 0) [] := ⟨[], Ow.nil, rfl, fun _ h => by cases h⟩
theorem OwD.recol (h : OwD E E' g i w c v xs) (hi : i ≠ 1) (j : Nat) : ∃ c', St [i] w c w c' ∧ OwD E E' g j w c' v xs := by
  obtain ⟨ps,h2,h3,h4⟩:=h
  obtain ⟨c',s,o⟩:=h2.recol j
  exact ⟨c',s,ps,o,h3,h4.keep s (by simpa using Ne.symm hi)⟩
theorem VwD.ld (h : VwD E E' g i w c v xs) (ha : Adr v k E.sz p) (hk : xs[k]? = some a) : ∃ sl : Sl, Ld w p (E.e (a, sl)) ∧ Vw E' 1 w c sl.val (g a) := by
  obtain ⟨ps,h2,h3,h4⟩:=h
  subst h3
  rw [List.getElem?_map,Option.map_eq_some_iff] at hk
  obtain ⟨⟨b,sl⟩,hq,rfl⟩:=hk
  exact ⟨sl,h2.ld ha hq,h4 _ (List.mem_of_getElem? hq)⟩
variable {P : Program} {f : Fr} {o : Oper} {R : Value → World → Prop} {x y : Operand}
end
/-! sorting -/
section
variable {α σ : Type} [Inhabited σ]
end
end Go.Proofs.YtgmgahphjiiceaaGreat.L
namespace Go.Proofs.YtgmgahphjiiceaaGreat.L
open Go Go.Shelf Go.RowKit Go.Sort
section
variable {α σ : Type} {E : Enc (σ × Sl)} {E' : Enc α} {g : σ → List α} {i : Nat} {w : World} {c : Col} {v p : Value} {xs : List σ} {ps : List (σ × Sl)} {q : σ × Sl}
variable {P : Program} {f : Fr} {o : Oper} {R : Value → World → Prop} {x : Operand}
theorem OS.ldSl {t : TypeId} {k off : Nat} {a : σ} {r : Value} (ho : o.op = .load t x) (ht : ∀ w, (isAgg t).run P w = .ok false w) (hx : ev f x = r) (h : VwD E E' g i w c v xs) (ha : Adr v k E.sz p) (hk : xs[k]? = some a) (hr : AdrP p off 1 r)
    (hs:∀ sl:Sl,(E.e (a,sl))[off]?=some sl.val) (hR:∀ u,Vw E' 1 w c u (g a)→R u w):OS P o f w R:=by
  obtain ⟨sl,hl,hv⟩:=h.ld ha hk
  obtain ⟨b,oo,hp,hc⟩:=hl
  obtain ⟨b',o',h1,h2⟩:=hr
  rw [hp] at h1
  simp only [Value.pointer.injEq,Option.some.injEq,Addr.mk.injEq,and_true] at h1
  obtain ⟨rfl,rfl⟩:=h1
  refine OS.ld1 (u:=sl.val) ho ht hx ⟨b,_,h2,fun j u hu=>?_⟩ (hR _ hv)
  rw [Nat.mul_one,Nat.add_assoc]
  cases j with
  | zero=>simp at hu;subst hu;exact hc _ _ (by simpa using hs sl)
  | succ j=>simp at hu
end
end Go.Proofs.YtgmgahphjiiceaaGreat.L
namespace Go.Proofs.YtgmgahphjiiceaaGreat.L
open Go
end Go.Proofs.YtgmgahphjiiceaaGreat.L
namespace Go.Proofs.YtgmgahphjiiceaaGreat.L
open Go
section
variable {α σ : Type} {E : Enc (σ × Sl)} {E' : Enc α} {g : σ → List α} {i : Nat} {w : World} {c : Col} {v : Value} {xs ys : List σ}
theorem OwD.eq (h : OwD E E' g i w c v xs) (e : ys = xs) : OwD E E' g i w c v ys := e ▸ h
end
end Go.Proofs.YtgmgahphjiiceaaGreat.L
namespace Go.Proofs.YtgmgahphjiiceaaGreat.L
open Go
end Go.Proofs.YtgmgahphjiiceaaGreat.L
