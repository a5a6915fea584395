/-
  Going through a map in whatever order,in plain words. No program in sight.
-/
import Derived.Test.YtgmgahphjiiceaaGreatLib16
namespace Go.Proofs.YtgmgahphjiiceaaGreat.L
open Go
section
variable {γ σ ρ : Type}
def mfold (B : γ → σ → Option (Lr ρ σ)) : List γ → σ → Option (Lr ρ σ)
  | [],s=>some (.go s)
  | x :: l,s=>(B x s).bind fun q=>lrc q (fun a=>some (.ret a)) (fun s'=>mfold B l s')
open Classical in
noncomputable def mrngK {τ : Type} (B : γ → σ → Option (Lr ρ σ)) (m : List γ) (s : σ) (k : Lr ρ σ → Option τ) : Option τ :=
  if h:∃ r,∀ l,l.Perm m→(mfold B l s).bind k=some r then some (Classical.choose h) else none
theorem mrngK_some {τ : Type} {B : γ → σ → Option (Lr ρ σ)} {m : List γ} {s : σ} {k : Lr ρ σ → Option τ} {r : τ} (h : mrngK B m s k = some r) : ∀ l, l.Perm m → (mfold B l s).bind k = some r := by
  unfold mrngK at h
  split at h
  · rename_i hx
    cases h;exact Classical.choose_spec hx
  · cases h
theorem mrngK_eq {τ : Type} {B : γ → σ → Option (Lr ρ σ)} {m : List γ} {s : σ} {k : Lr ρ σ → Option τ} {r : τ} (h : ∀ l, l.Perm m → (mfold B l s).bind k = some r) : mrngK B m s k = some r := by
  have hx:∃ r,∀ l,l.Perm m→(mfold B l s).bind k=some r:=⟨r,h⟩
  unfold mrngK
  rw [dif_pos hx]
  have h1:=Classical.choose_spec hx m (List.Perm.refl m)
  rw [h m (List.Perm.refl m)] at h1
  exact h1.symm
def Mqk (B : γ → σ → Option (Lr ρ σ)) (left : List γ) (s : σ) (kf : Lr ρ σ → Prop) : Prop := ∀ l, l.Perm left → ∃ q, mfold B l s = some q ∧ kf q
theorem mrngK_name {τ : Type} {B : γ → σ → Option (Lr ρ σ)} {m : List γ} {s : σ} {k : Lr ρ σ → Option τ} {r : τ} (h : mrngK B m s k = some r) :
    ∃ kf:Lr ρ σ→Prop,(∀ q,kf q→k q=some r)∧Mqk B m s kf :=
  ⟨fun q=>k q=some r,fun _ h=>h,fun l hl=>bind_some (mrngK_some h l hl)⟩
theorem Mqk.done {B : γ → σ → Option (Lr ρ σ)} {left : List γ} {s : σ} {kf : Lr ρ σ → Prop} (h : Mqk B left s kf) (h0 : left = []) : kf (.go s) := by
  obtain ⟨q,h1,h2⟩:=h [] (by rw [h0])
  cases h1;exact h2
theorem Mqk.step {B : γ → σ → Option (Lr ρ σ)} {left l1 l2 : List γ} {x : γ} {s : σ} {kf : Lr ρ σ → Prop} (h : Mqk B left s kf) (hl : left = l1 ++ x :: l2) :
    ∃ b,B x s=some b∧(∀ s',b = .go s'→Mqk B (l1++l2) s' kf)∧(∀ a,b = .ret a→kf (.ret a)):=by
  have hp:∀ l,l.Perm (l1++l2)→(x :: l).Perm left:=fun l hl'=>by
    rw [hl];exact (hl'.cons x).trans List.perm_middle.symm
  obtain ⟨q0,h0,h00⟩:=h (x :: (l1++l2)) (hp _ (List.Perm.refl _))
  obtain ⟨b,hb,hk⟩:=bind_some h0
  refine ⟨b,hb,fun s' hs l hl'=>?_,fun a ha=>?_⟩
  · obtain ⟨q,h1,h2⟩:=h (x :: l) (hp l hl')
    obtain ⟨b',hb',hk'⟩:=bind_some h1
    rw [hb] at hb';cases hb'
    rw [hs] at hk';exact ⟨q,hk',h2⟩
  · rw [ha] at hk;cases hk;exact h00
end
end Go.Proofs.YtgmgahphjiiceaaGreat.L
