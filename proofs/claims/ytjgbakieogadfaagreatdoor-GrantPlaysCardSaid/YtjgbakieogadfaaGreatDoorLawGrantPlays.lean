/-
  Proved: the law holdfast/holdfastlaw13.GrantPlays returns true for every input, and each argument reads behind the call as it read before; the tied card.
  Conditions: none of its own; the package variables that the row lists read as the program lays them.
-/
import Derived.Test.YtjgbakieogadfaaGreatDoorRows
import Derived.Test.YtjgbakieogadfaaGreatDoorCards
import Derived.Test.YtjgbakieogadfaaGreatDoorTie
import Derived.Test.YtjgbakieogadfaaGreatDoorWalks
import Derived.Test.YtjgbakieogadfaaGreatDoorLib26
import Derived.Test.YtjgbakieogadfaaGreatDoorGrantU
import Derived.ProofKit
import Derived.OpenShut
import Derived.ShutString
import Derived.ChangeOld
import Derived.Below
import Derived.SizedLaws
import Derived.Lib.LaidIn
import Derived.Deep.DeepHandedRow
import Derived.Deep.DeepWitnessRowRef
import Derived.JoinedCond
import Derived.SevenTiedAt
namespace Go.Proofs.YtjgbakieogadfaaGreatDoor.grantPlays
open Go.Proofs Go.ChangeShapes Go.WideShapes Go.ChangeAt Go.RowKit
open Go.ChangeMaps (open_string shut_string)
open L
set_option linter.unusedVariables false
theorem own : ownKnob Tryz.prog.godebug = none := by kernel_rfl
theorem laidOut : laidOutB Tryz.prog = true := by kernel_rfl
def lit1 : DataW Unit → Value
  | .lit (.int k n) => .int k n
  | _ => .bool false
def lits : DataW Unit → List Value
  | .agg xs => xs.map lit1
  | _ => []
def lits2 : DataW Unit → List Value
  | .agg xs => xs.flatMap lits
  | _ => []
noncomputable def laidWorld (os : Os) : World :=
  let w0 := World.holding Tryz.prog os ⟨#[], #[], []⟩
  let put (h : Array Obj) (g : Nat) (cs : Array Value) : Array Obj := h.modify g fun
    | .cells _ t frozen => .cells cs t frozen
    | o => o
  let h1 := put w0.heap 6 (lits Rows.laid_math_bits_deBruijn32tab).toArray
  let h2 := put h1 7 (lits Rows.laid_math_bits_deBruijn64tab).toArray
  let h3 := put h2 3 (lits Rows.laid_internal_strconv_uint64pow10).toArray
  let h4 := put h3 5 (lits2 Rows.laid_unicode_utf8_acceptRanges).toArray
  let h5 := put h4 4 (lits Rows.laid_unicode_utf8_first).toArray
  { w0 with heap := h5 }
abbrev theArgs : Array Value := #[.slice none 0 0]
theorem laid_met (os : Os) (args : Array Value) : laidMet Tryz.prog Rows.grantPlaysRow.laid ((laidWorld os).forCall (fun _ _ => 0) ⟨#[], args, []⟩).memory :=
  (LaidIn.of_run (l := [("math/bits.deBruijn32tab", Rows.laid_math_bits_deBruijn32tab), ("math/bits.deBruijn64tab", Rows.laid_math_bits_deBruijn64tab), ("internal/strconv.uint64pow10", Rows.laid_internal_strconv_uint64pow10), ("unicode/utf8.acceptRanges", Rows.laid_unicode_utf8_acceptRanges), ("unicode/utf8.first", Rows.laid_unicode_utf8_first)]) [6, 7, 3, 5, 4] 8 (by kernel_rfl) (by kernel_rfl) (by kernel_rfl) (by kernel_rfl)).met
theorem witness_row (os : Os) {H : Type} (enc : TypeId × Value → H) :
    (OpenSpec.ofChange Rows.grantPlaysSpec).preRow enc Tryz.prog Tryz.f4 Rows.grantPlaysRow.domain false Rows.grantPlaysRow.laid ((laidWorld os).forCall (fun _ _ => 0) ⟨#[], theArgs, []⟩).memory theArgs := by
  have hw : (DataW.whole enc Tryz.prog ((laidWorld os).forCall (fun _ _ => 0) ⟨#[], theArgs, []⟩).memory Tryz.f4.params.toList (OpenSpec.ofChange Rows.grantPlaysSpec).vars false theArgs.toList 8).map (fun x => (x.1, x.2.1)) =
      some ([.nil], []) := by kernel_rfl
  obtain ⟨⟨x1, x2, x3⟩, hx, hx1⟩ := Option.map_eq_some_iff.1 hw
  simp only [Prod.mk.injEq] at hx1
  obtain ⟨rfl, rfl⟩ := hx1
  exact OpenSpec.preRow_of_cond 8 hx (by kernel_rfl) (fun k hk => by cases hk) (by kernel_rfl) (laid_met os _)
set_option maxRecDepth 100000 in
theorem lifted (os : Os) (started : os.Started) (H : Type) (enc : TypeId × Value → H) (F : Stop.Interp) :
    ReturnsInHanded {} Tryz.checked os 4 .any ((OpenSpec.ofChange Rows.grantPlaysSpec).preRow enc Tryz.prog Tryz.f4 Rows.grantPlaysRow.domain false Rows.grantPlaysRow.laid) (((OpenSpec.ofChange Rows.grantPlaysSpec).at F).post enc Tryz.prog Tryz.f4 false true false false) := by
  refine returnsInHanded_of_row (C := Tryz.checked) (s := (OpenSpec.ofChange Rows.grantPlaysSpec)) own started (by kernel_rfl) Tryz.func4
    (witness_row_atRef (enc := enc) (C := Tryz.checked) false (laidWorld os) theArgs rfl (by kernel_rfl) (by kernel_rfl) (by kernel_rfl) (witness_row os enc)) ?_
  intro W base args ds gs before hval0 hW hcnd _ hsz0 hL hsh _
  have hval : ∀ (j : Nat) t v, Tryz.f4.params[j]? = some t → args[j]? = some v → Value.okWide Tryz.prog W .any base t v := hval0
  have hW' := hW
  obtain ⟨p, q, hA0, hV, rfl, hfz, hnd⟩ := hW
  have hA : DataW.TrodAll enc Tryz.prog W 0 (fun _ => true) true Tryz.f4.params.toList args.toList ds p := hA0
  rw [Tryz.params4] at hA hval
  obtain ⟨v0, vs0, d0, ds0, p0, q0, hargs, rfl, rfl, h0, r0⟩ := trodAll_cons hA
  obtain ⟨rfl, rfl, rfl⟩ := trodAll_nil r0
  obtain rfl : args = #[v0] := by cases args; simp_all
  obtain ⟨rfl, rfl⟩ := trodVars_none hV
  have lt0 : ∀ x ∈ p0, x.block < W.heap.size := by obtain ⟨m, hm⟩ := h0; exact DataW.trod_lt m _ _ _ hm
  have hc0 : Cell.okWide Tryz.prog W .any base 22 v0 := by have := (hval 0 22 v0 rfl rfl); simpa only [Value.okWide, Tryz.underlying22] using this
  obtain ⟨x0, o0, k0⟩ : ∃ xs : List S_holdfastlaw13_Deed, Vw E27 0 W (fun _ => 0) v0 xs ∧ ∀ a ∈ xs, ok27 a := by
    obtain ⟨fuel, hf⟩ := h0
    obtain ⟨a, len, cap, rfl⟩ := okWide_slice Tryz.underlying22 (hval 0 22 v0 rfl rfl)
    exact open_flat (E := E27) Tryz.underlying22 (by kernel_rfl) rd27 hc0 hf _ (fun _ => rfl)
  have og3 : Arr E115 0 W (fun _ => 0) (.pointer (some ⟨3, 0, none⟩)) tab3 := tab_arr (k := .u64) (zs := tab3.map fun x => (x.toNat : Int)) hL (.tail _ (.tail _ (.head _))) (by kernel_rfl) (by kernel_rfl) (by kernel_rfl) Tryz.underlying190 Tryz.underlying115 (by kernel_rfl) (by kernel_rfl) (by decide) (by kernel_rfl) rfl
  have og7 : Arr E5 0 W (fun _ => 0) (.pointer (some ⟨7, 0, none⟩)) tab7 := tab_arr (k := .u8) (zs := tab7.map fun x => (x.toNat : Int)) hL (.tail _ (.head _)) (by kernel_rfl) (by kernel_rfl) (by kernel_rfl) Tryz.underlying205 Tryz.underlying5 (by kernel_rfl) (by kernel_rfl) (by decide) (by kernel_rfl) rfl
  clear hA0 hval0 hsz0
  obtain ⟨K, hp⟩ := row_plays x0 k0
  refine (W4 K W (fun _ => 0) (fun _ => by decide) hp (by decide) o0 (by decide) og3 (by decide) og7).mono fun e W' ⟨d, he, st⟩ => ?_
  have bel : Below W.heap.size W W' := ⟨st.os, st.tape, st.output, st.size, fun k hk => st.blk k hk (by simp)⟩
  subst he
  exact ⟨_, rfl, _, _, _, [], _, [], hW', trodAll_mk1 (shut_bool Tryz.underlying4 _), (trodAll_cons_mk (Below.trod laidOut (by kernel_rfl) (of_decide_eq_true (by kernel_rfl)) h0 bel lt0) trodAll_mk0), rfl, bel.frame _, fun h => by cases h⟩
theorem proved : Rows.GrantPlaysSaid :=
  OpenClaim.holds_of_cond 4 Tryz.f4 rfl rfl rfl rfl rfl rfl rfl ⟨rfl, rfl, rfl, rfl, rfl⟩ rfl rfl rfl rfl rfl (by kernel_rfl) Tryz.func4 (by kernel_rfl)
    (of_decide_eq_true (by kernel_rfl)) (by unfold Func.isWrapper; first | (rw [if_pos (by decide +kernel)]; kernel_rfl) | (rw [if_neg (by decide +kernel)]; exact ⟨rfl, rfl⟩))
    (fun os started H enc _ F0 => by rw [OpenClaim.pre_eq_preRow]; exact lifted os started H enc F0)
theorem card : Rows.GrantPlaysCardSaid :=
  Claim7.holds_tied_plain_at .later [] [.data, .data, .data, .data, .pinned] true (true, "24c488b6b7eeb0fc7933562f1b41911b8a60e1a5491d92da9d37ab8824f30b17") true
    proved (fun _ h => by cases h) (by kernel_rfl) (fun _ h => by cases h) grantPlays_row_tie rfl ⟨rfl, rfl⟩ (by kernel_rfl) rfl
    (fun f fn hf hfn => by
      obtain rfl : f = 4 := Option.some.inj ((show Tryz.prog.funcNamed "holdfast/holdfastlaw13.GrantPlays" = some 4 by kernel_rfl).symm.trans hf) |>.symm
      obtain rfl : fn = Tryz.f4 := (Option.some.inj (Tryz.func4.symm.trans hfn)).symm
      exact ⟨by kernel_rfl, fun j t ht => by
        rw [Tryz.params4] at ht
        have h3 : t ∈ [22] := List.mem_of_getElem? (by simpa using ht)
        simp only [List.mem_cons, List.not_mem_nil, or_false] at h3
        rcases h3 with rfl
        · exact (show Tryz.prog.wantsStandIn 22 = false by kernel_rfl)⟩)
    (by kernel_rfl)
#print axioms card
end Go.Proofs.YtjgbakieogadfaaGreatDoor.grantPlays
namespace Go.Proofs.YtjgbakieogadfaaGreatDoor
/-- The tied card, under a short name, for the claim. -/
theorem grantPlays_holds : Rows.GrantPlaysCardSaid := grantPlays.card
end Go.Proofs.YtjgbakieogadfaaGreatDoor
