/-
  slices.Insert,as an operation. No program in sight.
-/
import Derived.Test.YtgmgahphjiiceaaGreatLib37
namespace Go.Proofs.YtgmgahphjiiceaaGreat.L
open Go
def InsC {β : Type} (P : Program) (k : FuncId) (E : Enc β) : Prop := ∀ {w : World} {c : Col} {i j : Nat} {v u : Value} {ps qs : List β} {n : Int}, Ow E i w c v ps → Ow E j w c u qs → i ≠ j → 0 ≤ n → n ≤ (ps.length : Int) → qs.length ≠ 0 → ps.length + qs.length ≤ 1000 →
  Calls P k [v,vI n,u].toArray w fun e w' => ∃ v' c',e = .returned v'∧Ow E i w' c' v' (ps.take n.toNat++qs++ps.drop n.toNat)∧St [i] w c w' c'
def insS {α : Type} (xs : List α) (n : Int) (ys : List α) : Option (List α) := if 0 ≤ n ∧ n ≤ (xs.length : Int) ∧ ys.length ≠ 0 ∧ xs.length + ys.length ≤ 1000 then some (xs.take n.toNat ++ ys ++ xs.drop n.toNat) else none
theorem insS_some {α : Type} {xs ys r : List α} {n : Int} (h : insS xs n ys = some r) : (0 ≤ n ∧ n ≤ (xs.length : Int) ∧ ys.length ≠ 0 ∧ xs.length + ys.length ≤ 1000) ∧ r = xs.take n.toNat ++ ys ++ xs.drop n.toNat := by
  unfold insS at h;split at h
  · rename_i hx;cases h;exact ⟨hx,rfl⟩
  · cases h
section
variable {α σ : Type} {E : Enc (σ × Sl × Sl)} {E' : Enc α} {g h : σ → List α} {b i j : Nat} {P : Program} {f : Fr} {w : World} {c : Col} {o : Oper} {R : Value → World → Prop} {x y z : Operand} {v u : Value} {xs ys : List σ} {n : Int}
theorem OS.insD2 {k : FuncId} {ts : Array TypeId} (hc : InsC P k E) (ho : o.op = .call { callee := .value (.func k), args := [x, y, z].toArray, argTypes := ts }) (hx : ev f x = v) (hy : ev f y = vI n) (hz : ev f z = u)
    (hk:∀ args w,(callFunc k args).run P w = .ok (.enter k args) w) (hv:OwD2 E E' g h b i w c v xs) (hu:OwD2 E E' g h b j w c u ys) (h2:2≤i) (hij:i ≠ j)
    (hp:0≤n∧n≤(xs.length:Int)∧ys.length ≠ 0∧xs.length + ys.length≤1000)
    (hR:∀ v' w' c',OwD2 E E' g h b i w' c' v' (xs.take n.toNat++ys++xs.drop n.toNat)→St [i] w c w' c'→R v' w'):OS P o f w R:=by
  obtain ⟨ps,p2,p3,p4⟩:=hv
  obtain ⟨qs,q2,q3,q4⟩:=hu
  subst p3;subst q3
  obtain ⟨a1,a2,a3,a4⟩:=hp
  refine OS.callF (vs:=[v,vI n,u]) ho ⟨hx,hy,hz,trivial⟩ hk ((hc p2 q2 hij a1 (by simpa using a2) (by simpa using a3) (by simpa using a4)).mono ?_)
  rintro _ w' ⟨v',c',rfl,o',s⟩
  refine ⟨v',rfl,hR v' w' c' ⟨_,o',?_,?_⟩ s⟩
  · simp
  · have h3:=n01 h2
    intro q hq
    rcases List.mem_append.1 hq with hq | hq
    · rcases List.mem_append.1 hq with hq | hq
      · exact (p4.keep s h3.1 h3.2) q (List.mem_of_mem_take hq)
      · exact (q4.keep s h3.1 h3.2) q hq
    · exact (p4.keep s h3.1 h3.2) q (List.mem_of_mem_drop hq)
end
end Go.Proofs.YtgmgahphjiiceaaGreat.L
