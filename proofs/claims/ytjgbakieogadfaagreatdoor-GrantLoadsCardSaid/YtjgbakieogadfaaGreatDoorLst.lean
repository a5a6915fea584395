/-
  Lists,as the document's loops go through them. No program in sight.
-/
import Derived.Test.YtjgbakieogadfaaGreatDoorIns
namespace Go.Proofs.YtjgbakieogadfaaGreatDoor
open Go L Go.Sort
section
variable {α : Type}
def ix (p : α → Bool) (l : List α) : Int := match l.findIdx? p with | some j => (j : Int) | none => -1
theorem find_spec {l : List α} {p : α → Bool} {g : Nat → Nat → Option (Lr Int Unit)} (he : ∀ k, g (k + 1) l.length = some (.go ())) (hs : ∀ k i (h : i < l.length), g (k + 1) i = if p l[i] = true then some (.ret (i : Int)) else g k (i + 1)) :
    ∀ (d k i:Nat),i + d=l.length→d < k→g k i=some (match (l.drop i).findIdx? p with | some j => .ret ((i + j:Nat):Int) | none => .go ())
  | 0,k,i,h1,h2=>by
    obtain ⟨k,rfl⟩ : ∃ k',k=k' + 1:=⟨k - 1,by omega⟩
    obtain rfl:i=l.length:=by omega
    rw [he k,List.drop_length];rfl
  | d + 1,k,i,h1,h2=>by
    obtain ⟨k,rfl⟩ : ∃ k',k=k' + 1:=⟨k - 1,by omega⟩
    have hi:i < l.length:=by omega
    rw [hs k i hi,List.drop_eq_getElem_cons hi,List.findIdx?_cons]
    by_cases hp:p l[i]=true
    · rw [if_pos hp,if_pos hp];rfl
    · rw [if_neg hp,if_neg hp,find_spec he hs d k (i + 1) (by omega) (by omega)]
      cases (l.drop (i + 1)).findIdx? p with
      | none=>rfl
      | some j=>simp only [Option.map_some];congr 3;omega
theorem find_ix {l : List α} {p : α → Bool} {g : Nat → Nat → Option (Lr Int Unit)} (he : ∀ k, g (k + 1) l.length = some (.go ())) (hs : ∀ k i (h : i < l.length), g (k + 1) i = if p l[i] = true then some (.ret (i : Int)) else g k (i + 1)) {K : Nat} (hK : l.length < K) :
    ((g K 0).bind fun q=>lrc q (fun a=>some a) (fun _=>some (-1:Int)))=some (ix p l):=by
  rw [find_spec he hs l.length K 0 (by omega) hK,List.drop_zero,Option.bind_some]
  unfold ix
  cases l.findIdx? p with
  | none=>rfl
  | some j=>simp [lrc]
theorem ix_cases (p : α → Bool) (l : List α) : (ix p l = -1 ∧ ∀ x ∈ l, p x = false) ∨ ∃ j : Nat, ix p l = j ∧ ∃ h : j < l.length, p l[j] = true := by
  unfold ix
  cases h:l.findIdx? p with
  | none=>exact .inl ⟨rfl,fun x hx=>by simpa using List.findIdx?_eq_none_iff.1 h x hx⟩
  | some j =>
    obtain ⟨h1,h2,_⟩:=List.findIdx?_eq_some_iff_getElem.1 h
    exact .inr ⟨j,rfl,h1,h2⟩
def Uq (p : α → Bool) (l : List α) : Prop := ∀ (i j : Nat) (hi : i < l.length) (hj : j < l.length), p l[i] = true → p l[j] = true → i = j
theorem uq_of {κ : Type} [DecidableEq κ] {key : α → κ} {l : List α} (hn : (l.map key).Nodup) (a : κ) : Uq (fun x => decide (key x = a)) l := by
  intro i j hi hj h1 h2
  rw [decide_eq_true_eq] at h1 h2
  have h:=List.pairwise_iff_getElem.1 hn
  rcases Nat.lt_trichotomy i j with e | e | e
  · exact (h i j (by simpa using hi) (by simpa using hj) e (by simp [h1,h2])).elim
  · exact e
  · exact (h j i (by simpa using hj) (by simpa using hi) e (by simp [h1,h2])).elim
theorem ix_at {p : α → Bool} {l : List α} (hu : Uq p l) (j : Nat) (hj : j < l.length) : decide ((j : Int) = ix p l) = p l[j] := by
  rcases ix_cases p l with ⟨h1,h2⟩ | ⟨i,h1,h2,h3⟩
  · rw [h2 _ (List.getElem_mem _)];exact decide_eq_false (by omega)
  · cases h:p l[j] with
    | true=>exact decide_eq_true (by rw [h1,hu j i hj h2 h h3])
    | false =>
      refine decide_eq_false fun e=>?_
      obtain rfl:j=i:=by omega
      rw [h3] at h;cases h
theorem filt_spec {l : List α} {q : Nat → Bool} {g : Nat → Nat → List α → Option (List α)} {N : Nat} (he : ∀ k out, g (k + 1) l.length out = some out)
    (hs:∀ k i out (h:i < l.length),out.length + 1≤N→g (k + 1) i out=if q i=true then g k (i + 1) (out++[l[i]]) else g k (i + 1) out) {p:α→Bool} (hq:∀ i (h:i < l.length),q i=p l[i]) :
    ∀ (d k i:Nat) (out:List α),i + d=l.length→d < k→out.length + d≤N→g k i out=some (out++(l.drop i).filter p)
  | 0,k,i,out,h1,h2,_=>by
    obtain ⟨k,rfl⟩ : ∃ k',k=k' + 1:=⟨k - 1,by omega⟩
    obtain rfl:i=l.length:=by omega
    rw [he k];simp
  | d + 1,k,i,out,h1,h2,h3=>by
    obtain ⟨k,rfl⟩ : ∃ k',k=k' + 1:=⟨k - 1,by omega⟩
    have hi:i < l.length:=by omega
    rw [hs k i out hi (by omega),List.drop_eq_getElem_cons hi,List.filter_cons,hq i hi]
    by_cases hp:p l[i]=true
    · rw [if_pos hp,if_pos hp,filt_spec he hs hq d k (i + 1) _ (by omega) (by omega) (by simp only [List.length_append,List.length_cons,List.length_nil];omega),List.append_assoc];rfl
    · rw [if_neg hp,if_neg hp,filt_spec he hs hq d k (i + 1) _ (by omega) (by omega) (by omega)]
theorem filt_all {l : List α} {q : Nat → Bool} {g : Nat → Nat → List α → Option (List α)} {N : Nat} (he : ∀ k out, g (k + 1) l.length out = some out)
    (hs:∀ k i out (h:i < l.length),out.length + 1≤N→g (k + 1) i out=if q i=true then g k (i + 1) (out++[l[i]]) else g k (i + 1) out) {p:α→Bool} (hq:∀ i (h:i < l.length),q i=p l[i]) {K:Nat} (hK:l.length < K) (hN:l.length≤N) :
    g K 0 []=some (l.filter p):=by
  rw [filt_spec he hs hq l.length K 0 [] (by omega) hK (by simpa using hN)];simp
theorem erase_filter {p : α → Bool} {l : List α} (hu : Uq p l) {j : Nat} (hj : j < l.length) (hp : p l[j] = true) : l.take j ++ l.drop (j + 1) = l.filter fun x => !p x := by
  have h1:l.take j=(l.take j).filter fun x => !p x:=by
    rw [List.filter_eq_self.2]
    intro x hx
    obtain ⟨i,hi,rfl⟩:=List.mem_iff_getElem.1 hx
    rw [List.length_take] at hi;rw [List.getElem_take,Bool.not_eq_true']
    cases h:p l[i] with
    | false=>rfl
    | true=>have:=hu i j (by omega) hj h hp;omega
  have h2:l.drop (j + 1)=(l.drop (j + 1)).filter fun x => !p x:=by
    rw [List.filter_eq_self.2]
    intro x hx
    obtain ⟨i,hi,rfl⟩:=List.mem_iff_getElem.1 hx
    rw [List.length_drop] at hi;rw [List.getElem_drop,Bool.not_eq_true']
    cases h:p l[j + 1 + i] with
    | false=>rfl
    | true=>have:=hu (j + 1 + i) j (by omega) hj h hp;omega
  conv=>rhs;rw [← List.take_append_drop j l,List.drop_eq_getElem_cons hj]
  rw [List.filter_append,List.filter_cons,if_neg (by simp [hp]),← h1,← h2]
theorem set_map {p : α → Bool} {l : List α} (hu : Uq p l) {j : Nat} (hj : j < l.length) (hp : p l[j] = true) (f : α → α) : l.set j (f l[j]) = l.map fun x => if p x = true then f x else x := by
  refine List.ext_getElem (by simp) fun i h1 h2=>?_
  rw [List.getElem_map,List.getElem_set]
  by_cases e:j=i
  · subst e;rw [if_pos rfl,if_pos hp]
  · rw [if_neg e,if_neg]
    intro h;exact e (hu j i hj (by simpa using h2) hp h)
theorem map_spec {f : α → α} {n : Nat} {g : Nat → Nat → List α → Option (List α)} (he : ∀ k l, l.length = n → g (k + 1) n l = some l)
    (hs:∀ k i (l:List α) (h:i < l.length),l.length=n→g (k + 1) i l=g k (i + 1) (l.set i (f l[i]))) :
    ∀ (d k i:Nat) (l:List α),i + d=n→l.length=n→d < k→g k i l=some (l.take i++(l.drop i).map f)
  | 0,k,i,l,h1,h2,h3=>by
    obtain ⟨k,rfl⟩ : ∃ k',k=k' + 1:=⟨k - 1,by omega⟩
    obtain rfl:i=n:=by omega
    rw [he k l h2,List.drop_eq_nil_of_le (by omega),List.take_of_length_le (by omega)];simp
  | d + 1,k,i,l,h1,h2,h3=>by
    obtain ⟨k,rfl⟩ : ∃ k',k=k' + 1:=⟨k - 1,by omega⟩
    have hi:i < l.length:=by omega
    rw [hs k i l hi h2,map_spec he hs d k (i + 1) _ (by omega) (by simpa using h2) (by omega),List.drop_eq_getElem_cons hi,List.map_cons]
    rw [List.take_add_one,List.getElem?_set_self hi,List.take_set_of_le (Nat.le_refl _),List.drop_set_of_lt (Nat.lt_succ_self _)]
    simp
end
end Go.Proofs.YtjgbakieogadfaaGreatDoor
