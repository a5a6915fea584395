/-
  slices.SortFunc at structs, by the kit's contract, in the words of this calculus. No program in sight.
-/
import Derived.Test.YtjgbakieogadfabGreatDoorLib20
import Derived.Shelf.SlSortCmp.NoneTotal
namespace Go.Proofs.YtjgbakieogadfabGreatDoor.L
open Go Go.Shelf Go.RowKit Go.Sort
section
variable {α : Type}
theorem fl_getK (E : Enc α) : ∀ (xs : List α) (t : Nat), t < xs.length * E.sz → (fl E xs)[t]? = (xs[t / E.sz]?).bind fun x => (E.e x)[t % E.sz]?
  | [], t, h => by simp at h
  | x :: xs, t, h => by
    have hl := E.len x
    have hp := E.pos
    have e1 : fl E (x :: xs) = E.e x ++ fl E xs := by simp [fl]
    rw [e1]
    by_cases ht : t < E.sz
    · rw [List.getElem?_append_left (by omega), Nat.div_eq_of_lt ht, Nat.mod_eq_of_lt ht]; simp
    · have h2 : t - E.sz < xs.length * E.sz := by
        have : (x :: xs).length * E.sz = xs.length * E.sz + E.sz := by simp [Nat.succ_mul]
        omega
      rw [List.getElem?_append_right (by omega), hl, fl_getK E xs _ h2]
      obtain ⟨u, rfl⟩ : ∃ u, t = u + E.sz := ⟨t - E.sz, by omega⟩
      rw [Nat.add_sub_cancel, Nat.add_div_right _ hp, Nat.add_mod_right]
      simp
end
section
variable {P : Program} {f : Fr} {w : World} {o : Oper} {R : Value → World → Prop} {x : Operand} {v : Value} {us : List Value} {t : TypeId} {c : Col}
end
end Go.Proofs.YtjgbakieogadfabGreatDoor.L
