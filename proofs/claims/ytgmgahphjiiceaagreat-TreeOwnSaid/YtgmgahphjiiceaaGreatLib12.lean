/-
  What a handed argument is,as plain data. No program in sight.
-/
import Derived.Test.YtgmgahphjiiceaaGreatLib11
import Derived.ProofKit
import Derived.SizedLaws
namespace Go.Proofs.YtgmgahphjiiceaaGreat.L
open Go Go.ChangeShapes Go.WideShapes Go.ChangeAt Go.RowKit
section
variable {P : Program} {W : World} {base : Nat} {t e : TypeId} {v : Value}
theorem hu8_of {n : Int} (h : IntKind.u8.has n) : Value.int .u8 n = vU8 (UInt8.ofNat n.toNat) := by
  obtain ⟨h1,h2⟩:=h
  have h1:0≤n:=h1
  have h2:n≤255:=h2
  show _=Value.int .u8 ((UInt8.ofNat n.toNat).toNat:Int)
  congr 1
  rw [UInt8.toNat_ofNat'];omega
theorem open_bytes {H : Type} {enc : TypeId × Value → H} {base' : Nat} {spare : Nat → Bool} {held : Bool} {fuel : Nat} {x : DataW H × List MemPlace} (ht : P.underlying t = some (.slice e)) (he : P.underlying e = some (.int .u8)) (hc : P.cellsOf e = 1) (hv : Cell.okWide P W .any base t v)
    (h:DataW.trod enc P W base' spare held fuel t [v]=some x):∃ bs:List UInt8,Vw (eU8 e) 0 W c0 v bs:=by
  rcases open_ints ht he hc h with ⟨h1,_⟩ | ⟨a,len,cap,zs,h1,_,hl,hm,hz,_,hcell,hwf⟩
  · cases h1;exact ⟨[],.inl ⟨.inl rfl,rfl⟩⟩
  · cases h1
    simp only [Cell.okWide,ht,Cell.ok] at hv
    obtain ⟨_,_,_,hsp,row,cells,hsh,_⟩:=hv
    obtain ⟨b,off,spot⟩:=a
    simp only at hsp;subst hsp
    obtain ⟨cs,T,fz,hb⟩ : ∃ cs T fz,W.heap[b]?=some (.cells cs T fz):=by
      unfold World.shape? at hsh
      cases ho:W.heap[b]? with
      | none=>simp [ho] at hsh
      | some o=>cases o <;> simp [ho] at hsh;exact ⟨_,_,_,rfl⟩
    have hzl:len≤zs.length:=by rw [hz];split <;> omega
    refine ⟨(zs.take len).map fun n=>UInt8.ofNat n.toNat,.inr ⟨b,off,cap,cs,T,fz,?_,by simp;omega,rfl,hb,fun j u hu=>?_⟩⟩
    · simp [Nat.min_eq_left hzl]
    · have hlen:((zs.take len).map fun n=>UInt8.ofNat n.toNat).length=len:=by simp;omega
      have hj:j < len:=by
        rcases Nat.lt_or_ge j len with h | h
        · exact h
        · rw [List.getElem?_eq_none (by rw [fl_length,hlen];show len * 1≤j;omega)] at hu;cases hu
      have hjz:j < zs.length:=by omega
      have hk:((zs.take len).map fun n=>UInt8.ofNat n.toNat)[j]?=some (UInt8.ofNat zs[j].toNat):=by
        simp [hj,hjz]
      have h1:=fl_get1 (E:=eU8 e) (u:=vU8 (UInt8.ofNat zs[j].toNat)) rfl hk rfl
      rw [h1] at hu;cases hu
      have h2:=hcell j hjz
      rw [Addr.add_lit,cell_of_row W b _ cs T fz hb] at h2
      rw [h2]
      have hg:zs.getD j 0=zs[j]:=by simp [List.getD_eq_getElem?_getD,hjz]
      rw [hg]
      have hw:=hwf zs[j] (List.getElem_mem hjz)
      congr 1
      refine hu8_of ?_
      simpa [Lit.wf,IntKind.has] using hw
theorem Vw.len_of {α : Type} {E : Enc α} {i : Nat} {c : Col} {bs : List α} {a : Option Addr} {len cap : Nat} (h : Vw E i W c v bs) (hv : v = .slice a len cap) : bs.length = len := by
  rcases h with ⟨h1 | ⟨a0,q0,h1⟩,h2⟩ | ⟨b,off,cp,cs,T,fz,h1,_⟩
  · rw [h1] at hv;cases hv;rw [h2];rfl
  · rw [h1] at hv;cases hv;rw [h2];rfl
  · rw [h1] at hv;cases hv;rfl
theorem sized_len {H : Type} {enc : TypeId × Value → H} {base' : Nat} {spare : Nat → Bool} {held : Bool} {a : Option Addr} {len cap : Nat} {d : DataW H} {ps : List MemPlace} {ts : List TypeId} {ds : List (DataW H)} {j : Nat}
    (hsz:(DataW.weightsEach P ts ds).all (·≤reachBytes)=true) (ht:ts[j]?=some t) (hd:ds[j]?=some d) (hu:P.underlying t=some (.slice e))
    (h:DataW.Trod enc P W base' spare held t (.slice a len cap) d ps):len * P.bytesOf e≤140737488351232:=by
  obtain ⟨fuel,hf⟩:=h
  rcases DataW.trod_slice hu hf with ⟨h0,_⟩ | ⟨a',len',cap',elems,rest,n,_,h0,hx,_,_,_,hlen,_⟩
  · simp [Value.cells] at h0
    obtain ⟨_,h0,_⟩:=h0
    subst h0;simp
  · simp [Value.cells] at h0
    obtain ⟨_,h0,_⟩:=h0
    subst h0
    have hx':=(Prod.mk.inj hx).1
    subst hx'
    have z:=sized_slice hsz ht hd hu
    simp only [List.length_map] at z
    refine Nat.le_trans (Nat.mul_le_mul_right _ ?_) z
    omega
end
end Go.Proofs.YtgmgahphjiiceaaGreat.L
