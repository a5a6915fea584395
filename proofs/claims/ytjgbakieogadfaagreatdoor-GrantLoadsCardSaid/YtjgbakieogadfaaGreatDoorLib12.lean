/-
  What a handed argument is,as plain data. No program in sight.
-/
import Derived.Test.YtjgbakieogadfaaGreatDoorLib11
import Derived.ProofKit
import Derived.SizedLaws
namespace Go.Proofs.YtjgbakieogadfaaGreatDoor.L
open Go Go.ChangeShapes Go.WideShapes Go.ChangeAt Go.RowKit
section
variable {P : Program} {W : World} {base : Nat} {t e : TypeId} {v : Value}
theorem hu8_of {n : Int} (h : IntKind.u8.has n) : Value.int .u8 n = vU8 (UInt8.ofNat n.toNat) := by
  obtain ⟨h1,h2⟩:=h
  have h1:0≤n:=h1
  have h2:n≤255:=h2
  show _=Value.int .u8 ((UInt8.ofNat n.toNat).toNat:Int)
  congr 1
  rw [UInt8.toNat_ofNat'];omega
end
end Go.Proofs.YtjgbakieogadfaaGreatDoor.L
