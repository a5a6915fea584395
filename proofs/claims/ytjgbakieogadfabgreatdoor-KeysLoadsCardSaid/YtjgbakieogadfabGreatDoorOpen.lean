import Derived.Test.YtjgbakieogadfabGreatDoorLib27
import Derived.Test.YtjgbakieogadfabGreatDoorTypes
namespace Go.Proofs.YtjgbakieogadfabGreatDoor
open Go Go.Proofs L
def ok78 (x : S_api_Row) : Prop := (x.Key.length ≤ 140737488351232) ∧ (x.Columns.length * 16 ≤ 140737488351232 ∧ ∀ y ∈ x.Columns, y.length ≤ 9223372036854775807)
theorem cells2 {cs : List Value} (h : cs.length = 2) : ∃ c0 c1, cs = [c0, c1] := by
  match cs, h with
  | [c0, c1], _ => exact ⟨c0, c1, rfl⟩
theorem rdD78 {H : Type} {enc : TypeId × Value → H} {W : World} {b : Nat} {held : Bool} {c : Col} (hcol : ∀ b, c b = 1) : ∀ (fuel : Nat) (cs : List Value) (x : DataW H × List MemPlace), DataW.trod enc Tryz.prog W b (fun _ => true) held fuel 78 cs = some x → wOk Tryz.prog 78 x.1 → ∃ p : S_api_Row × Sl, cs = E78.e p ∧ Vw E9 1 W c p.2.val (g78 p.1) ∧ ok78 p.1 := by
  intro fuel cs x h hw
  obtain ⟨hl, hf⟩ := trod_stW Tryz.underlying78 h hw
  rw [show Tryz.prog.cellsOf 78 = 2 from by kernel_rfl] at hl
  obtain ⟨c0, c1, rfl⟩ := cells2 hl
  obtain ⟨_, _, g0, w0⟩ := hf _ (.head _)
  obtain ⟨a0, e0, k0⟩ := rdW_str Tryz.underlying9 g0 w0
  rw [show Tryz.prog.cellsOf 9 = 1 from by kernel_rfl] at e0
  replace e0 : [c0] = [vS a0] := e0
  simp only [List.cons.injEq, and_true] at e0
  obtain rfl := e0
  obtain ⟨_, _, g1, w1⟩ := hf _ (.tail _ (.head _))
  obtain ⟨sl, a1, e1, o, t1, k1⟩ := open_any (E := E9) (ok := fun y => y.length ≤ 9223372036854775807) Tryz.underlying64 (by kernel_rfl) (fun _ _ _ h _ => (Rd.str Tryz.underlying9) _ _ _ h) hcol g1 w1
  replace k1 : a1.length * Tryz.prog.bytesOf 9 ≤ 140737488351232 := k1
  rw [show Tryz.prog.bytesOf 9 = 16 from by kernel_rfl] at k1
  replace k1 := And.intro k1 t1
  rw [show Tryz.prog.cellsOf 64 = 1 from by kernel_rfl] at e1
  replace e1 : [c1] = [sl.val] := e1
  simp only [List.cons.injEq, and_true] at e1
  obtain rfl := e1
  exact ⟨(⟨a0, a1⟩, sl), rfl, o, k0, k1⟩
theorem argD78 {H : Type} {enc : TypeId × Value → H} {W : World} {b : Nat} {held : Bool} {v : Value} {d : DataW H} {ps : List MemPlace} {c : Col} (hcol : ∀ b, c b = 1) (h : DataW.Trod enc Tryz.prog W b (fun _ => true) held 78 v d ps) (hw : wOk Tryz.prog 78 d) : ∃ (x : S_api_Row) (sl : Sl), v = .agg (E78.e (x, sl)).toArray ∧ Vw E9 1 W c sl.val (g78 x) ∧ ok78 x := by
  obtain ⟨fuel, hf⟩ := h
  obtain ⟨⟨x, sl⟩, e, o, k⟩ := rdD78 hcol _ _ _ hf hw
  refine ⟨x, sl, ?_, o, k⟩
  cases v with
  | agg cs => show Value.agg cs = _; rw [← e]; simp [Value.cells]
  | _ => simp [Value.cells] at e
def ok27 (x : S_hl09_Deed) : Prop := ((-9223372036854775808 ≤ x.Kind ∧ x.Kind ≤ 9223372036854775807)) ∧ (x.Tenant.length ≤ 140737488351232) ∧ (x.Purpose.length ≤ 140737488351232) ∧ (x.Bytes.length * 1 ≤ 140737488351232) ∧ ((-9223372036854775808 ≤ x.N_ ∧ x.N_ ≤ 9223372036854775807)) ∧ (True)
theorem cells6 {cs : List Value} (h : cs.length = 6) : ∃ c0 c1 c2 c3 c4 c5, cs = [c0, c1, c2, c3, c4, c5] := by
  match cs, h with
  | [c0, c1, c2, c3, c4, c5], _ => exact ⟨c0, c1, c2, c3, c4, c5, rfl⟩
theorem rdD27 {H : Type} {enc : TypeId × Value → H} {W : World} {b : Nat} {held : Bool} {c : Col} (hcol : ∀ b, c b = 1) : ∀ (fuel : Nat) (cs : List Value) (x : DataW H × List MemPlace), DataW.trod enc Tryz.prog W b (fun _ => true) held fuel 27 cs = some x → wOk Tryz.prog 27 x.1 → ∃ p : S_hl09_Deed × Sl, cs = E27.e p ∧ Vw E5 1 W c p.2.val (g27 p.1) ∧ ok27 p.1 := by
  intro fuel cs x h hw
  obtain ⟨hl, hf⟩ := trod_stW Tryz.underlying27 h hw
  rw [show Tryz.prog.cellsOf 27 = 6 from by kernel_rfl] at hl
  obtain ⟨c0, c1, c2, c3, c4, c5, rfl⟩ := cells6 hl
  obtain ⟨_, _, g0, w0⟩ := hf _ (.head _)
  obtain ⟨a0, e0, k0⟩ := (Rd.i64 Tryz.underlying3) _ _ _ g0
  rw [show Tryz.prog.cellsOf 3 = 1 from by kernel_rfl] at e0
  replace e0 : [c0] = [vI a0] := e0
  simp only [List.cons.injEq, and_true] at e0
  obtain rfl := e0
  obtain ⟨_, _, g1, w1⟩ := hf _ (.tail _ (.head _))
  obtain ⟨a1, e1, k1⟩ := rdW_str Tryz.underlying9 g1 w1
  rw [show Tryz.prog.cellsOf 9 = 1 from by kernel_rfl] at e1
  replace e1 : [c1] = [vS a1] := e1
  simp only [List.cons.injEq, and_true] at e1
  obtain rfl := e1
  obtain ⟨_, _, g2, w2⟩ := hf _ (.tail _ (.tail _ (.head _)))
  obtain ⟨a2, e2, k2⟩ := rdW_str Tryz.underlying9 g2 w2
  rw [show Tryz.prog.cellsOf 9 = 1 from by kernel_rfl] at e2
  replace e2 : [c2] = [vS a2] := e2
  simp only [List.cons.injEq, and_true] at e2
  obtain rfl := e2
  obtain ⟨_, _, g3, w3⟩ := hf _ (.tail _ (.tail _ (.tail _ (.head _))))
  obtain ⟨sl, a3, e3, o, t3, k3⟩ := open_any (E := E5) (ok := fun _ => True) Tryz.underlying25 (by kernel_rfl) (fun _ _ _ h _ => (Rd.u8 Tryz.underlying5) _ _ _ h) hcol g3 w3
  replace k3 : a3.length * Tryz.prog.bytesOf 5 ≤ 140737488351232 := k3
  rw [show Tryz.prog.bytesOf 5 = 1 from by kernel_rfl] at k3
  rw [show Tryz.prog.cellsOf 25 = 1 from by kernel_rfl] at e3
  replace e3 : [c3] = [sl.val] := e3
  simp only [List.cons.injEq, and_true] at e3
  obtain rfl := e3
  obtain ⟨_, _, g4, w4⟩ := hf _ (.tail _ (.tail _ (.tail _ (.tail _ (.head _)))))
  obtain ⟨a4, e4, k4⟩ := (Rd.i64 Tryz.underlying3) _ _ _ g4
  rw [show Tryz.prog.cellsOf 3 = 1 from by kernel_rfl] at e4
  replace e4 : [c4] = [vI a4] := e4
  simp only [List.cons.injEq, and_true] at e4
  obtain rfl := e4
  obtain ⟨_, _, g5, w5⟩ := hf _ (.tail _ (.tail _ (.tail _ (.tail _ (.tail _ (.head _))))))
  obtain ⟨a5, e5, k5⟩ := (Rd.bool Tryz.underlying4) _ _ _ g5
  rw [show Tryz.prog.cellsOf 4 = 1 from by kernel_rfl] at e5
  replace e5 : [c5] = [vB a5] := e5
  simp only [List.cons.injEq, and_true] at e5
  obtain rfl := e5
  exact ⟨(⟨a0, a1, a2, a3, a4, a5⟩, sl), rfl, o, k0, k1, k2, k3, k4, k5⟩
theorem argD27 {H : Type} {enc : TypeId × Value → H} {W : World} {b : Nat} {held : Bool} {v : Value} {d : DataW H} {ps : List MemPlace} {c : Col} (hcol : ∀ b, c b = 1) (h : DataW.Trod enc Tryz.prog W b (fun _ => true) held 27 v d ps) (hw : wOk Tryz.prog 27 d) : ∃ (x : S_hl09_Deed) (sl : Sl), v = .agg (E27.e (x, sl)).toArray ∧ Vw E5 1 W c sl.val (g27 x) ∧ ok27 x := by
  obtain ⟨fuel, hf⟩ := h
  obtain ⟨⟨x, sl⟩, e, o, k⟩ := rdD27 hcol _ _ _ hf hw
  refine ⟨x, sl, ?_, o, k⟩
  cases v with
  | agg cs => show Value.agg cs = _; rw [← e]; simp [Value.cells]
  | _ => simp [Value.cells] at e
end Go.Proofs.YtjgbakieogadfabGreatDoor
