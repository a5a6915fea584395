/-
  The laws of rotation and of sealing anew, for inputs as they come in. Plain Lean.
-/
import Derived.Test.YtjgbakieogadfabGreatDoorKeyQ
import Derived.Test.YtjgbakieogadfabGreatDoorOpen
namespace Go.Proofs.YtjgbakieogadfabGreatDoor
open Go L Go.Sort
theorem db_some : ∀ l : List S_holdfastlaw09_Deed, (∀ x, x ∈ l → ok27 x) → ∃ k, 1200 ≤ k ∧ ∀ x, x ∈ l → DB (k + 1200) x
  | [], _ => ⟨1200, Nat.le_refl _, fun x h => by cases h⟩
  | y :: l, h => by
    obtain ⟨k, hk, hl⟩ := db_some l fun x hx => h x (List.mem_cons_of_mem _ hx)
    obtain ⟨_, h1, h2, h3, _, _⟩ := h y List.mem_cons_self
    refine ⟨k + y.Tenant.length + y.Purpose.length + y.Bytes.length, by omega, fun x hx => ?_⟩
    rcases List.mem_cons.1 hx with rfl | hx
    · exact ⟨⟨by omega, by omega, by omega, by omega⟩, by omega, by omega⟩
    · have d := hl x hx
      exact ⟨⟨by have := d.b.la; omega, by have := d.b.lb; omega, d.b.ba, d.b.bb⟩, d.b1, by have := d.b2; omega⟩
theorem row_apart (root : List UInt8) (l : List S_holdfastlaw09_Deed) (x : S_holdfastlaw09_Deed) (hr : root.length = 32) (h1 : ∀ a ∈ l, ok27 a) (h2 : l.length * 80 ≤ 140737488351232) (_ : ok27 x) : ∃ K, holdfastlaw09_KeysApart K root l x = some true := by
  obtain ⟨k, hk, hB⟩ := db_some l h1
  exact ⟨k + 1200, law_apart root l x hr k hk hB (by omega)⟩
theorem row_lazy (root : List UInt8) (l : List S_holdfastlaw09_Deed) (p : List UInt8) (hr : root.length = 32) (h1 : ∀ a ∈ l, ok27 a) (h2 : l.length * 80 ≤ 140737488351232) (_ : p.length ≤ 140737488351232) : ∃ K, holdfastlaw09_KeysLazy K root l p = some true := by
  obtain ⟨k, hk, hB⟩ := db_some l h1
  exact ⟨k + 1200, law_lazy root l p hr k hk hB (by omega)⟩
end Go.Proofs.YtjgbakieogadfabGreatDoor
