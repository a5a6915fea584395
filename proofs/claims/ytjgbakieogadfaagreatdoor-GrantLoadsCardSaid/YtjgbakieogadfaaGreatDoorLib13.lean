/-
  The plain functions' steps,where they go through. No program in sight.
-/
import Derived.Test.YtjgbakieogadfaaGreatDoorLib5
namespace Go.Proofs.YtjgbakieogadfaaGreatDoor.L
open Go
section
variable {α β : Type}
theorem mks_ok {n : Nat} {z : α} {k : Int} (h0 : 0 ≤ k) (h1 : k ≤ n) : mks n z k = some (List.replicate k.toNat z) := if_pos ⟨h0, h1⟩
theorem req_ok {p : Prop} [Decidable p] (h : p) : req p = some () := if_pos h
theorem W_succ {n : Nat} (h : n < 9223372036854775807) : W ((n : Int) + 1) = ((n + 1 : Nat) : Int) := by rw [W_id (by omega) (by omega)]; rfl
end
end Go.Proofs.YtjgbakieogadfaaGreatDoor.L
