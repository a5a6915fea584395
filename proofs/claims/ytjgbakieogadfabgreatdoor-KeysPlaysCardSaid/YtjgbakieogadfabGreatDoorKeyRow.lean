/-
  The laws of rotation and of sealing anew,for inputs as they come in. Plain Lean.
-/
import Derived.Test.YtjgbakieogadfabGreatDoorKeyQ
import Derived.Test.YtjgbakieogadfabGreatDoorOpen
namespace Go.Proofs.YtjgbakieogadfabGreatDoor
open Go L Go.Sort
theorem db_some : ∀ l : List S_holdfastlaw09_Deed, (∀ x, x ∈ l → ok27 x) → ∃ k, 1200 ≤ k ∧ ∀ x, x ∈ l → DB (k + 1200) x
  | [],_=>⟨1200,Nat.le_refl _,fun x h=>by cases h⟩
  | y :: l,h=>by
    obtain ⟨k,hk,hl⟩:=db_some l fun x hx=>h x (List.mem_cons_of_mem _ hx)
    obtain ⟨_,h1,h2,h3,_,_⟩:=h y List.mem_cons_self
    refine ⟨k + y.Tenant.length + y.Purpose.length + y.Bytes.length,by omega,fun x hx=>?_⟩
    rcases List.mem_cons.1 hx with rfl | hx
    · exact ⟨⟨by omega,by omega,by omega,by omega⟩,by omega,by omega⟩
    · have d:=hl x hx
      exact ⟨⟨by have:=d.b.la;omega,by have:=d.b.lb;omega,d.b.ba,d.b.bb⟩,d.b1,by have:=d.b2;omega⟩
end Go.Proofs.YtjgbakieogadfabGreatDoor
