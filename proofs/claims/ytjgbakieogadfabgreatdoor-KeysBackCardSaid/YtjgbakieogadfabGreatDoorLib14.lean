/-
  A handed array of slices of bytes, as plain data. No program in sight.
-/
import Derived.Test.YtjgbakieogadfabGreatDoorLib12
import Derived.OpenShut
namespace Go.Proofs.YtjgbakieogadfabGreatDoor.L
open Go Go.ChangeShapes Go.WideShapes Go.ChangeAt Go.RowKit
section
variable {P : Program} {W : World} {base : Nat} {t e e' : TypeId} {v : Value}
theorem cell_slice (he : P.underlying e = some (.slice e')) (h : Cell.okWide P W .any base e v) : ∃ a n cap, v = .slice a n cap := by
  simp only [Cell.okWide, he, Cell.ok] at h
  cases v <;> simp_all
theorem sized_inner {H : Type} {ts : List TypeId} {ds : List (DataW H)} {j : Nat} {d : DataW H} {parts : List (DataW H)} {n i : Nat}
    (hsz : (DataW.weightsEach P ts ds).all (· ≤ reachBytes) = true) (ht : ts[j]? = some t) (hd : ds[j]? = some (.agg parts)) (hu : P.underlying t = some (.array n e)) (hi : parts[i]? = some d) :
    ∀ m ∈ d.weights P e, m ≤ reachBytes := by
  intro m hm
  have hin : ∀ (l : List (DataW H)) (i : Nat), l[i]? = some d → m ∈ DataW.weightsAll P e l := by
    intro l
    induction l with
    | nil => intro i h; simp at h
    | cons a l ih =>
      intro i h
      simp only [DataW.weightsAll, List.mem_append]
      cases i with
      | zero => simp at h; subst h; exact .inl hm
      | succ i => exact .inr (ih i (by simpa using h))
  have := List.all_eq_true.1 hsz _ (DataW.weights_mem_each ht hd m (by simp only [DataW.weights, hu]; exact hin _ _ hi))
  simpa using this
theorem len_of_weights {H : Type} {enc : TypeId × Value → H} {base' : Nat} {spare : Nat → Bool} {held : Bool} {fuel : Nat} {x : DataW H × List MemPlace} {a : Option Addr} {len cap : Nat}
    (hu : P.underlying e = some (.slice e')) (h : DataW.trod enc P W base' spare held fuel e [.slice a len cap] = some x) (hw : ∀ m ∈ x.1.weights P e, m ≤ reachBytes) : len * P.bytesOf e' ≤ 140737488351232 := by
  rcases DataW.trod_slice hu h with ⟨h0, _⟩ | ⟨a', len', cap', elems, rest, n, _, h0, hx, _, _, _, hlen, _⟩
  · simp at h0
    obtain ⟨_, h0, _⟩ := h0
    subst h0; simp
  · simp at h0
    obtain ⟨_, h0, _⟩ := h0
    subst h0
    subst hx
    have z := hw ((elems.length + rest.length) * P.bytesOf e') (by simp [DataW.weights, hu])
    have z : (elems.length + rest.length) * P.bytesOf e' ≤ 140737488351232 := z
    refine Nat.le_trans (Nat.mul_le_mul_right _ ?_) z
    omega
/-- an array of two slices of bytes -/
theorem open_arr2 {H : Type} {enc : TypeId × Value → H} {base' : Nat} {spare : Nat → Bool} {held : Bool} {d : DataW H} {ps : List MemPlace} {ts : List TypeId} {ds : List (DataW H)} {j : Nat}
    (ht : P.underlying t = some (.array 2 e)) (he : P.underlying e = some (.slice e')) (he' : P.underlying e' = some (.int .u8)) (hc' : P.cellsOf e' = 1) (hce : P.cellsOf e = 1) (hb' : P.bytesOf e' = 1)
    (hct : P.cellTypes P.depth t = some (List.replicate 2 e)) (hco : P.cellsOf t = 2) (hval : Value.okWide P W .any base t v)
    (hsz : (DataW.weightsEach P ts ds).all (· ≤ reachBytes) = true) (htj : ts[j]? = some t) (hdj : ds[j]? = some d) (h : DataW.Trod enc P W base' spare held t v d ps) :
    ∃ (v0 v1 : Value) (x0 x1 : List UInt8), v = .agg ([v0, v1]).toArray ∧ Vw (eU8 e') 0 W c0 v0 x0 ∧ Vw (eU8 e') 0 W c0 v1 x1 ∧ x0.length ≤ 140737488351232 ∧ x1.length ≤ 140737488351232 := by
  obtain ⟨cs, rfl, hl, hall⟩ := ok_cells ht hct hco hval
  match cs, hl, hall with
  | [v0, v1], _, hall =>
    obtain ⟨fuel, hf⟩ := h
    obtain ⟨xs, m, _, hx, _, hxl, hg⟩ := DataW.trod_array ht (by simpa [Value.cells] using hf)
    have hd : d = .agg (xs.map (·.1)) := (Prod.mk.inj hx).1
    subst hd
    obtain ⟨a0, n0, k0, rfl⟩ := cell_slice he (hall v0 (by simp))
    obtain ⟨a1, n1, k1, rfl⟩ := cell_slice he (hall v1 (by simp))
    match xs, hxl with
    | [y0, y1], _ =>
      have g0 := hg 0 (by omega)
      have g1 := hg 1 (by omega)
      rw [hce] at g0 g1
      simp at g0 g1
      obtain ⟨x0, o0⟩ := open_bytes he he' hc' (hall _ (by simp)) g0
      obtain ⟨x1, o1⟩ := open_bytes he he' hc' (hall _ (by simp)) g1
      have l0 := len_of_weights he g0 (sized_inner (i := 0) hsz htj hdj ht (by simp))
      have l1 := len_of_weights he g1 (sized_inner (i := 1) hsz htj hdj ht (by simp))
      rw [hb'] at l0 l1
      have e0 := o0.len_of rfl
      have e1 := o1.len_of rfl
      exact ⟨_, _, x0, x1, rfl, o0, o1, by omega, by omega⟩
end
end Go.Proofs.YtjgbakieogadfabGreatDoor.L
