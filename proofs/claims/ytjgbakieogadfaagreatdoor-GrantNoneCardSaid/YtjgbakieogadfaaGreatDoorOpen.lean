import Derived.Test.YtjgbakieogadfaaGreatDoorLib23
import Derived.Test.YtjgbakieogadfaaGreatDoorTypes
namespace Go.Proofs.YtjgbakieogadfaaGreatDoor
open Go Go.Proofs L
def ok24 (x : S_api_Owner) : Prop := (x.Tenant.length ≤ 9223372036854775807) ∧ (x.User.length ≤ 9223372036854775807)
theorem cells2 {cs : List Value} (h : cs.length = 2) : ∃ c0 c1, cs = [c0, c1] := by
  match cs, h with
  | [c0, c1], _ => exact ⟨c0, c1, rfl⟩
theorem rd24 {H : Type} {enc : TypeId × Value → H} {W : World} {b : Nat} {sp : Nat → Bool} {held : Bool} : Rd enc Tryz.prog W b sp held 24 E24.e ok24 := by
  intro fuel cs x h
  obtain ⟨hl, hf⟩ := trod_st Tryz.underlying24 h
  rw [show Tryz.prog.cellsOf 24 = 2 from by kernel_rfl] at hl
  obtain ⟨c0, c1, rfl⟩ := cells2 hl
  obtain ⟨_, _, g0⟩ := hf _ (.head _)
  obtain ⟨a0, e0, k0⟩ := Rd.str Tryz.underlying9 _ _ _ g0
  rw [show Tryz.prog.cellsOf 9 = 1 from by kernel_rfl] at e0
  replace e0 : [c0] = [vS a0] := e0
  simp only [List.cons.injEq, and_true] at e0
  obtain rfl := e0
  obtain ⟨_, _, g1⟩ := hf _ (.tail _ (.head _))
  obtain ⟨a1, e1, k1⟩ := Rd.str Tryz.underlying9 _ _ _ g1
  rw [show Tryz.prog.cellsOf 9 = 1 from by kernel_rfl] at e1
  replace e1 : [c1] = [vS a1] := e1
  simp only [List.cons.injEq, and_true] at e1
  obtain rfl := e1
  exact ⟨⟨a0, a1⟩, rfl, k0, k1⟩
theorem arg24 {H : Type} {enc : TypeId × Value → H} {W : World} {b : Nat} {sp : Nat → Bool} {held : Bool} {v : Value} {d : DataW H} {ps : List MemPlace} (h : DataW.Trod enc Tryz.prog W b sp held 24 v d ps) : ∃ x : S_api_Owner, v = .agg (E24.e x).toArray ∧ ok24 x := by
  obtain ⟨fuel, hf⟩ := h
  obtain ⟨x, e, k⟩ := rd24 _ _ _ hf
  refine ⟨x, ?_, k⟩
  cases v with
  | agg cs => show Value.agg cs = _; rw [← e]; simp [Value.cells]
  | _ => simp [Value.cells] at e
end Go.Proofs.YtjgbakieogadfaaGreatDoor
