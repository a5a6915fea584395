/-
  What a handed argument is,as plain data. No program in sight.
-/
import Derived.Test.YtjgbakieogadfabGreatDoorLib11
import Derived.ProofKit
import Derived.SizedLaws
namespace Go.Proofs.YtjgbakieogadfabGreatDoor.L
open Go Go.ChangeShapes Go.WideShapes Go.ChangeAt Go.RowKit
section
variable {P:Program} {W:World} {base:Nat} {t e:TypeId} {v:Value}
theorem okc_int {k:IntKind} (ht:P.underlying t=some (.int k)) (h:Cell.okWide P W .any base t v):∃ n,v = .int k n∧k.has n:=by
  simp only [Cell.okWide,ht,Cell.ok] at h
  cases v <;> simp_all
theorem hu8_of {n:Int} (h:IntKind.u8.has n):Value.int .u8 n=vU8 (UInt8.ofNat n.toNat):=by
  obtain ⟨h1,h2⟩:=h
  have h1:0≤n:=h1
  have h2:n≤255:=h2
  show _=Value.int .u8 ((UInt8.ofNat n.toNat).toNat:Int)
  congr 1
  rw [UInt8.toNat_ofNat'];omega
theorem cells_u8:∀ (cs:List Value),(∀ v,v ∈ cs→∃ n,v = .int .u8 n∧IntKind.u8.has n)→∃ xs:List UInt8,cs=fl (eU8 e) xs∧xs.length=cs.length
  | [],_=>⟨[],rfl,rfl⟩
  | v :: cs,h=>by
    obtain ⟨xs,h1,h2⟩:=cells_u8 cs fun u hu=>h u (by simp [hu])
    obtain ⟨n,rfl,hn⟩:=h v (by simp)
    refine ⟨UInt8.ofNat n.toNat :: xs,?_,by simp [h2]⟩
    rw [h1,hu8_of hn];rfl
theorem ok_cells {n:Nat} (ht:P.underlying t=some (.array n e)) (hct:P.cellTypes P.depth t=some (List.replicate n e)) (hco:P.cellsOf t=n) (h:Value.okWide P W .any base t v) :
    ∃ cs:List Value,v = .agg cs.toArray∧cs.length=n∧∀ u,u ∈ cs→Cell.okWide P W .any base e u:=by
  simp only [Value.okWide,ht] at h
  obtain ⟨cs,rfl,hs,ts,hts,_,hall⟩:=h
  rw [hct] at hts;cases hts
  refine ⟨cs.toList,rfl,by rw [Array.length_toList,hs,hco],fun u hu=>?_⟩
  obtain ⟨i,hi,rfl⟩:=List.getElem_of_mem hu
  obtain ⟨t',h1,h2⟩:=hall i _ (by simp at hi;exact Array.getElem?_eq_getElem hi)
  have:t'=e:=by
    rw [List.getElem?_replicate] at h1
    split at h1
    · exact (Option.some.inj h1).symm
    · cases h1
  subst this;simpa using h2
theorem ok_arr8 {n:Nat} (ht:P.underlying t=some (.array n e)) (he:P.underlying e=some (.int .u8)) (hct:P.cellTypes P.depth t=some (List.replicate n e)) (hco:P.cellsOf t=n) (h:Value.okWide P W .any base t v) :
    ∃ xs:List UInt8,v = .agg (fl (eU8 e) xs).toArray∧xs.length=n:=by
  obtain ⟨cs,rfl,hl,hall⟩:=ok_cells ht hct hco h
  obtain ⟨xs,h1,h2⟩:=cells_u8 (e:=e) cs fun u hu=>okc_int he (hall u hu)
  exact ⟨xs,by rw [h1],by rw [h2,hl]⟩
end
end Go.Proofs.YtjgbakieogadfabGreatDoor.L
