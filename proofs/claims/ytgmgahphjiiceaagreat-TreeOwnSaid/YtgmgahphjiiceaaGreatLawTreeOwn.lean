/-
  Proved: the law holdfast/holdfastlaw05.TreeOwn returns true for every input, and each argument reads behind the call as it read before.
  Conditions: none.
-/
import Derived.Test.YtgmgahphjiiceaaGreatRows
import Derived.Test.YtgmgahphjiiceaaGreatWalks
import Derived.Test.YtgmgahphjiiceaaGreatLib14
import Derived.Test.YtgmgahphjiiceaaGreatLawJ
import Derived.ProofKit
import Derived.OpenShut
import Derived.ShutString
import Derived.ChangeOld
import Derived.Below
import Derived.SizedLaws
namespace Go.Proofs.YtgmgahphjiiceaaGreat.treeOwn
open Go.Proofs Go.ChangeShapes Go.WideShapes Go.ChangeAt Go.RowKit
open Go.ChangeMaps (open_string shut_string)
open L
set_option linter.unusedVariables false
theorem own : ownKnob Tryz.prog.godebug = none := by kernel_rfl
theorem laidOut : laidOutB Tryz.prog = true := by kernel_rfl
set_option maxRecDepth 100000 in
theorem lifted (os : Os) (started : os.Started) (H : Type) (enc : TypeId × Value → H) :
    ReturnsInHanded {} Tryz.checked os 4 .any (Rows.treeOwnSpec.pre6 enc Tryz.prog Tryz.f4 Rows.treeOwnRow.domain false) (Rows.treeOwnSpec.post enc Tryz.prog Tryz.f4 false true false false) := by
  refine returnsInHanded_of_change_sized (C := Tryz.checked) own started (by kernel_rfl) Tryz.func4
    (ChangeSpec.witness6 (enc := enc) (C := Tryz.checked) false ⟨#[], #[.slice none 0 0, .slice none 0 0], []⟩ 8 (by kernel_rfl) (by kernel_rfl) (by kernel_rfl) (by kernel_rfl)) ?_
  intro W base args ds gs before hval0 hW hcnd hsz0 _
  have hsz : (DataW.weightsEach Tryz.prog (Tryz.f4.params.toList ++ Rows.treeOwnSpec.plain.varTypes Tryz.prog) (ds ++ gs)).all (· ≤ reachBytes) = true := hsz0
  have hval : ∀ (j : Nat) t v, Tryz.f4.params[j]? = some t → args[j]? = some v → Value.okWide Tryz.prog W .any base t v := hval0
  have hW' := hW
  obtain ⟨p, q, hA0, hV, rfl, hfz, hnd⟩ := hW
  have hA : DataW.TrodAll enc Tryz.prog W 0 (fun _ => true) true Tryz.f4.params.toList args.toList ds p := hA0
  rw [Tryz.params4] at hA hval hsz
  obtain ⟨v0, vs0, d0, ds0, p0, q0, hargs, rfl, rfl, h0, r0⟩ := trodAll_cons hA
  obtain ⟨v1, vs1, d1, ds1, p1, q1, rfl, rfl, rfl, h1, r1⟩ := trodAll_cons r0
  obtain ⟨rfl, rfl, rfl⟩ := trodAll_nil r1
  obtain rfl : args = #[v0, v1] := by cases args; simp_all
  obtain ⟨rfl, rfl⟩ := trodVars_none hV
  have lt0 : ∀ x ∈ p0, x.block < W.heap.size := by obtain ⟨m, hm⟩ := h0; exact DataW.trod_lt m _ _ _ hm
  have hc0 : Cell.okWide Tryz.prog W .any base 31 v0 := by have := (hval 0 31 v0 rfl rfl); simpa only [Value.okWide, Tryz.underlying31] using this
  obtain ⟨x0, o0⟩ : ∃ bs : List UInt8, Vw (eU8 5) 0 W c0 v0 bs := by
    obtain ⟨fuel, hf⟩ := h0
    obtain ⟨a, len, cap, rfl⟩ := okWide_slice Tryz.underlying31 (hval 0 31 v0 rfl rfl)
    exact open_bytes Tryz.underlying31 Tryz.underlying5 (by kernel_rfl) hc0 hf
  have y0 : x0.length ≤ 140737488351232 := by
    obtain ⟨a, len, cap, rfl⟩ := okWide_slice Tryz.underlying31 (hval 0 31 v0 rfl rfl)
    have z := sized_len hsz (j := 0) (t := 31) rfl rfl Tryz.underlying31 h0
    rw [show Tryz.prog.bytesOf 5 = 1 by kernel_rfl] at z
    have := o0.len_of rfl
    omega
  have lt1 : ∀ x ∈ p1, x.block < W.heap.size := by obtain ⟨m, hm⟩ := h1; exact DataW.trod_lt m _ _ _ hm
  have hc1 : Cell.okWide Tryz.prog W .any base 31 v1 := by have := (hval 1 31 v1 rfl rfl); simpa only [Value.okWide, Tryz.underlying31] using this
  obtain ⟨x1, o1⟩ : ∃ bs : List UInt8, Vw (eU8 5) 0 W c0 v1 bs := by
    obtain ⟨fuel, hf⟩ := h1
    obtain ⟨a, len, cap, rfl⟩ := okWide_slice Tryz.underlying31 (hval 1 31 v1 rfl rfl)
    exact open_bytes Tryz.underlying31 Tryz.underlying5 (by kernel_rfl) hc1 hf
  have y1 : x1.length ≤ 140737488351232 := by
    obtain ⟨a, len, cap, rfl⟩ := okWide_slice Tryz.underlying31 (hval 1 31 v1 rfl rfl)
    have z := sized_len hsz (j := 1) (t := 31) rfl rfl Tryz.underlying31 h1
    rw [show Tryz.prog.bytesOf 5 = 1 by kernel_rfl] at z
    have := o1.len_of rfl
    omega
  clear hA0 hval0 hsz0 hsz
  obtain ⟨K, hp⟩ := law_own x0 x1 y0 y1
  refine (W4 K W c0 (fun _ => by show 0 < 40; decide) hp (by decide) o0 (by decide) o1).mono fun e W' ⟨d, he, st⟩ => ?_
  have bel : Below W.heap.size W W' := st.below
  subst he
  exact ⟨_, rfl, _, _, _, [], _, [], hW', trodAll_mk1 (shut_bool Tryz.underlying4 _), (trodAll_cons_mk (Below.trod laidOut (by kernel_rfl) (of_decide_eq_true (by kernel_rfl)) h0 bel lt0) (trodAll_cons_mk (Below.trod laidOut (by kernel_rfl) (of_decide_eq_true (by kernel_rfl)) h1 bel lt1) trodAll_mk0)), rfl, bel.frame _, fun h => by cases h⟩
theorem over : Rows.treeOwnRow.holds Tryz.pinned (OpenSpec.ofChange Rows.treeOwnSpec) :=
  OpenClaim.holds_of_wide 4 Tryz.f4 rfl rfl rfl rfl rfl rfl rfl ⟨rfl, rfl, rfl, rfl, rfl⟩ rfl rfl rfl rfl rfl (by kernel_rfl) Tryz.func4 (by kernel_rfl)
    (of_decide_eq_true (by kernel_rfl)) (by unfold Func.isWrapper; first | (rw [if_pos (by decide +kernel)]; kernel_rfl) | (rw [if_neg (by decide +kernel)]; exact ⟨rfl, rfl⟩))
    (fun os started H enc _ => lifted os started H enc)
theorem proved : Rows.TreeOwnSaid := over
#print axioms proved
end Go.Proofs.YtgmgahphjiiceaaGreat.treeOwn
namespace Go.Proofs.YtgmgahphjiiceaaGreat
/-- The row, under a short name, for the claim. -/
theorem treeOwn_holds : Rows.TreeOwnSaid := treeOwn.proved
end Go.Proofs.YtgmgahphjiiceaaGreat
