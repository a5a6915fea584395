import Derived.Test.YtjgbakieogadfaaGreatDoorLib27
import Derived.Test.YtjgbakieogadfaaGreatDoorTypes
namespace Go.Proofs.YtjgbakieogadfaaGreatDoor
open Go Go.Proofs L
def ok80 (x : S_api_Row) : Prop := (x.Key.length ≤ 140737488351232) ∧ (x.Columns.length * 16 ≤ 140737488351232 ∧ ∀ y ∈ x.Columns, y.length ≤ 9223372036854775807)
theorem cells2 {cs : List Value} (h : cs.length = 2) : ∃ c0 c1, cs = [c0, c1] := by
  match cs, h with
  | [c0, c1], _ => exact ⟨c0, c1, rfl⟩
theorem rdD80 {H : Type} {enc : TypeId × Value → H} {W : World} {b : Nat} {held : Bool} {c : Col} (hcol : ∀ b, c b = 1) : ∀ (fuel : Nat) (cs : List Value) (x : DataW H × List MemPlace), DataW.trod enc Tryz.prog W b (fun _ => true) held fuel 80 cs = some x → wOk Tryz.prog 80 x.1 → ∃ p : S_api_Row × Sl, cs = E80.e p ∧ Vw E9 1 W c p.2.val (g80 p.1) ∧ ok80 p.1 := by
  intro fuel cs x h hw
  obtain ⟨hl, hf⟩ := trod_stW Tryz.underlying80 h hw
  rw [show Tryz.prog.cellsOf 80 = 2 from by kernel_rfl] at hl
  obtain ⟨c0, c1, rfl⟩ := cells2 hl
  obtain ⟨_, _, g0, w0⟩ := hf _ (.head _)
  obtain ⟨a0, e0, k0⟩ := rdW_str Tryz.underlying9 g0 w0
  rw [show Tryz.prog.cellsOf 9 = 1 from by kernel_rfl] at e0
  replace e0 : [c0] = [vS a0] := e0
  simp only [List.cons.injEq, and_true] at e0
  obtain rfl := e0
  obtain ⟨_, _, g1, w1⟩ := hf _ (.tail _ (.head _))
  obtain ⟨sl, a1, e1, o, t1, k1⟩ := open_any (E := E9) (ok := fun y => y.length ≤ 9223372036854775807) Tryz.underlying78 (by kernel_rfl) (fun _ _ _ h _ => (Rd.str Tryz.underlying9) _ _ _ h) hcol g1 w1
  replace k1 : a1.length * Tryz.prog.bytesOf 9 ≤ 140737488351232 := k1
  rw [show Tryz.prog.bytesOf 9 = 16 from by kernel_rfl] at k1
  replace k1 := And.intro k1 t1
  rw [show Tryz.prog.cellsOf 78 = 1 from by kernel_rfl] at e1
  replace e1 : [c1] = [sl.val] := e1
  simp only [List.cons.injEq, and_true] at e1
  obtain rfl := e1
  exact ⟨(⟨a0, a1⟩, sl), rfl, o, k0, k1⟩
theorem argD80 {H : Type} {enc : TypeId × Value → H} {W : World} {b : Nat} {held : Bool} {v : Value} {d : DataW H} {ps : List MemPlace} {c : Col} (hcol : ∀ b, c b = 1) (h : DataW.Trod enc Tryz.prog W b (fun _ => true) held 80 v d ps) (hw : wOk Tryz.prog 80 d) : ∃ (x : S_api_Row) (sl : Sl), v = .agg (E80.e (x, sl)).toArray ∧ Vw E9 1 W c sl.val (g80 x) ∧ ok80 x := by
  obtain ⟨fuel, hf⟩ := h
  obtain ⟨⟨x, sl⟩, e, o, k⟩ := rdD80 hcol _ _ _ hf hw
  refine ⟨x, sl, ?_, o, k⟩
  cases v with
  | agg cs => show Value.agg cs = _; rw [← e]; simp [Value.cells]
  | _ => simp [Value.cells] at e
def ok24 (x : S_api_Owner) : Prop := (x.Tenant.length ≤ 9223372036854775807) ∧ (x.User.length ≤ 9223372036854775807)
theorem rd24 {H : Type} {enc : TypeId × Value → H} {W : World} {b : Nat} {sp : Nat → Bool} {held : Bool} : Rd enc Tryz.prog W b sp held 24 E24.e ok24 := by
  intro fuel cs x h
  obtain ⟨hl, hf⟩ := trod_st Tryz.underlying24 h
  rw [show Tryz.prog.cellsOf 24 = 2 from by kernel_rfl] at hl
  obtain ⟨c0, c1, rfl⟩ := cells2 hl
  obtain ⟨_, _, g0⟩ := hf _ (.head _)
  obtain ⟨a0, e0, k0⟩ := (Rd.str Tryz.underlying9) _ _ _ g0
  rw [show Tryz.prog.cellsOf 9 = 1 from by kernel_rfl] at e0
  replace e0 : [c0] = [vS a0] := e0
  simp only [List.cons.injEq, and_true] at e0
  obtain rfl := e0
  obtain ⟨_, _, g1⟩ := hf _ (.tail _ (.head _))
  obtain ⟨a1, e1, k1⟩ := (Rd.str Tryz.underlying9) _ _ _ g1
  rw [show Tryz.prog.cellsOf 9 = 1 from by kernel_rfl] at e1
  replace e1 : [c1] = [vS a1] := e1
  simp only [List.cons.injEq, and_true] at e1
  obtain rfl := e1
  exact ⟨⟨a0, a1⟩, rfl, k0, k1⟩
theorem arg24 {H : Type} {enc : TypeId × Value → H} {W : World} {b : Nat} {sp : Nat → Bool} {held : Bool} {v : Value} {d : DataW H} {ps : List MemPlace} (h : DataW.Trod enc Tryz.prog W b sp held 24 v d ps) : ∃ x : S_api_Owner, v = .agg (E24.e x).toArray ∧ ok24 x := by
  obtain ⟨fuel, hf⟩ := h
  obtain ⟨x, e, k⟩ := rd24 _ _ _ hf
  refine ⟨x, ?_, k⟩
  cases v with
  | agg cs => show Value.agg cs = _; rw [← e]; simp [Value.cells]
  | _ => simp [Value.cells] at e
def ok27 (x : S_holdfastlaw13_Deed) : Prop := ((-9223372036854775808 ≤ x.Kind ∧ x.Kind ≤ 9223372036854775807)) ∧ (ok24 x.Owner) ∧ (x.Client.length ≤ 9223372036854775807) ∧ (x.Redirect.length ≤ 9223372036854775807) ∧ (True)
theorem cells6 {cs : List Value} (h : cs.length = 6) : ∃ c0 c1 c2 c3 c4 c5, cs = [c0, c1, c2, c3, c4, c5] := by
  match cs, h with
  | [c0, c1, c2, c3, c4, c5], _ => exact ⟨c0, c1, c2, c3, c4, c5, rfl⟩
theorem rd27 {H : Type} {enc : TypeId × Value → H} {W : World} {b : Nat} {sp : Nat → Bool} {held : Bool} : Rd enc Tryz.prog W b sp held 27 E27.e ok27 := by
  intro fuel cs x h
  obtain ⟨hl, hf⟩ := trod_st Tryz.underlying27 h
  rw [show Tryz.prog.cellsOf 27 = 6 from by kernel_rfl] at hl
  obtain ⟨c0, c1, c2, c3, c4, c5, rfl⟩ := cells6 hl
  obtain ⟨_, _, g0⟩ := hf _ (.head _)
  obtain ⟨a0, e0, k0⟩ := (Rd.i64 Tryz.underlying3) _ _ _ g0
  rw [show Tryz.prog.cellsOf 3 = 1 from by kernel_rfl] at e0
  replace e0 : [c0] = [vI a0] := e0
  simp only [List.cons.injEq, and_true] at e0
  obtain rfl := e0
  obtain ⟨_, _, g1⟩ := hf _ (.tail _ (.head _))
  obtain ⟨a1, e1, k1⟩ := rd24 _ _ _ g1
  rw [show Tryz.prog.cellsOf 24 = 2 from by kernel_rfl] at e1
  replace e1 : [c1, c2] = [vS a1.Tenant, vS a1.User] := e1
  simp only [List.cons.injEq, and_true] at e1
  obtain ⟨rfl, rfl⟩ := e1
  obtain ⟨_, _, g2⟩ := hf _ (.tail _ (.tail _ (.head _)))
  obtain ⟨a2, e2, k2⟩ := (Rd.str Tryz.underlying9) _ _ _ g2
  rw [show Tryz.prog.cellsOf 9 = 1 from by kernel_rfl] at e2
  replace e2 : [c3] = [vS a2] := e2
  simp only [List.cons.injEq, and_true] at e2
  obtain rfl := e2
  obtain ⟨_, _, g3⟩ := hf _ (.tail _ (.tail _ (.tail _ (.head _))))
  obtain ⟨a3, e3, k3⟩ := (Rd.str Tryz.underlying9) _ _ _ g3
  rw [show Tryz.prog.cellsOf 9 = 1 from by kernel_rfl] at e3
  replace e3 : [c4] = [vS a3] := e3
  simp only [List.cons.injEq, and_true] at e3
  obtain rfl := e3
  obtain ⟨_, _, g4⟩ := hf _ (.tail _ (.tail _ (.tail _ (.tail _ (.head _)))))
  obtain ⟨a4, e4, k4⟩ := (Rd.u8 Tryz.underlying25) _ _ _ g4
  rw [show Tryz.prog.cellsOf 25 = 1 from by kernel_rfl] at e4
  replace e4 : [c5] = [vU8 a4] := e4
  simp only [List.cons.injEq, and_true] at e4
  obtain rfl := e4
  exact ⟨⟨a0, a1, a2, a3, a4⟩, rfl, k0, k1, k2, k3, k4⟩
theorem arg27 {H : Type} {enc : TypeId × Value → H} {W : World} {b : Nat} {sp : Nat → Bool} {held : Bool} {v : Value} {d : DataW H} {ps : List MemPlace} (h : DataW.Trod enc Tryz.prog W b sp held 27 v d ps) : ∃ x : S_holdfastlaw13_Deed, v = .agg (E27.e x).toArray ∧ ok27 x := by
  obtain ⟨fuel, hf⟩ := h
  obtain ⟨x, e, k⟩ := rd27 _ _ _ hf
  refine ⟨x, ?_, k⟩
  cases v with
  | agg cs => show Value.agg cs = _; rw [← e]; simp [Value.cells]
  | _ => simp [Value.cells] at e
end Go.Proofs.YtjgbakieogadfaaGreatDoor
