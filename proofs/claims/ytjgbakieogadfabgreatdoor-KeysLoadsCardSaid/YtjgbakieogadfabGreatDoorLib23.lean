/-
  What comes in,opened: plain structs,slices of plain structs,texts,small numbers. No program in sight.
-/
import Derived.Test.YtjgbakieogadfabGreatDoorLib22
import Derived.Test.YtjgbakieogadfabGreatDoorLib12
import Derived.OpenShut
import Derived.Deep.Slices
namespace Go.Proofs.YtjgbakieogadfabGreatDoor.L
open Go Go.ChangeShapes Go.WideShapes Go.ChangeAt Go.RowKit
open Go.Deep (open_slice choose_lt)
section
variable {P:Program} {W:World} {base:Nat} {t e:TypeId} {v:Value} {H:Type} {enc:TypeId×Value→H} {base':Nat} {spare:Nat→Bool} {held:Bool} {fuel:Nat} {cs:List Value} {x:DataW H×List MemPlace}
def Rd {α:Type} (enc:TypeId×Value→H) (P:Program) (W:World) (base':Nat) (spare:Nat→Bool) (held:Bool) (t:TypeId) (f:α→List Value) (ok:α→Prop):Prop :=
  ∀ fuel cs x,DataW.trod enc P W base' spare held fuel t cs=some x→∃ a,cs=f a∧ok a
theorem Rd.str (ht:P.underlying t=some .string):Rd enc P W base' spare held t (fun s=>[vS s]) (fun s:List UInt8=>s.length≤9223372036854775807):=by
  intro fuel cs x h
  cases fuel with
  | zero=>simp [DataW.trod] at h
  | succ n =>
    unfold DataW.trod at h;rw [ht] at h
    split at h <;> simp_all
    rename_i s
    refine ⟨s.data.toList,?_,?_⟩
    · cases s;simp
    · have h1:s.data.size≤maxLen:=h.1
      unfold maxLen at h1
      rw [Array.length_toList];omega
theorem trod_int {k:IntKind} (ht:P.underlying t=some (.int k)) (h:DataW.trod enc P W base' spare held fuel t cs=some x):∃ n:Int,cs=[.int k n]∧k.has n:=by
  cases fuel with
  | zero=>simp [DataW.trod] at h
  | succ m =>
    match cs,h with
    | [],h=>unfold DataW.trod at h;rw [ht] at h;simp at h
    | v :: u :: l,h=>unfold DataW.trod at h;rw [ht] at h;cases v <;> simp at h
    | [v],h =>
      unfold DataW.trod at h;rw [ht] at h
      cases v with
      | int k' n =>
        simp only at h
        split at h
        · rename_i hk
          obtain ⟨rfl,hw⟩:=hk
          exact ⟨n,rfl,by simpa [Lit.wf,IntKind.has] using hw⟩
        · cases h
      | _=>simp at h
theorem Rd.i64 (ht:P.underlying t=some (.int .i64)):Rd enc P W base' spare held t (fun n=>[vI n]) (fun n:Int => -9223372036854775808≤n∧n≤9223372036854775807):=by
  intro fuel cs x h
  obtain ⟨n,rfl,h1,h2⟩:=trod_int ht h
  exact ⟨n,rfl,h1,h2⟩
theorem Rd.u8 (ht:P.underlying t=some (.int .u8)):Rd enc P W base' spare held t (fun n=>[vU8 n]) (fun _:UInt8=>True):=by
  intro fuel cs x h
  obtain ⟨n,rfl,hw⟩:=trod_int ht h
  exact ⟨_,by rw [hu8_of hw],trivial⟩
end
end Go.Proofs.YtjgbakieogadfabGreatDoor.L
