/-
  Proved: the law holdfast/holdfastlaw09.KeysGone returns true for every input, and each argument reads behind the call as it read before; the tied card.
  Conditions: none of its own; the package variables that the row lists read as the program lays them.
-/
import Derived.Test.YtjgbakieogadfabDoorRows
import Derived.Test.YtjgbakieogadfabDoorCards
import Derived.Test.YtjgbakieogadfabDoorTie
import Derived.Test.YtjgbakieogadfabDoorWalks
import Derived.Test.YtjgbakieogadfabDoorLib26
import Derived.Test.YtjgbakieogadfabDoorKeyGone
import Derived.ProofKit
import Derived.OpenShut
import Derived.ShutString
import Derived.ChangeOld
import Derived.Below
import Derived.SizedLaws
import Derived.Lib.LaidIn
import Derived.Deep.DeepHandedRow
import Derived.Deep.DeepWitnessRowRef
import Derived.JoinedCond
import Derived.SevenTiedAt
namespace Go.Proofs.YtjgbakieogadfabDoor.keysGone
open Go.Proofs Go.ChangeShapes Go.WideShapes Go.ChangeAt Go.RowKit
open Go.ChangeMaps (open_string shut_string)
open L
set_option linter.unusedVariables false
theorem own : ownKnob Tryd.prog.godebug = none := by kernel_rfl
theorem laidOut : laidOutB Tryd.prog = true := by kernel_rfl
def lit1 : DataW Unit → Value
  | .lit (.int k n) => .int k n
  | _ => .bool false
def lits : DataW Unit → List Value
  | .agg xs => xs.map lit1
  | _ => []
def lits2 : DataW Unit → List Value
  | .agg xs => xs.flatMap lits
  | _ => []
noncomputable def laidWorld (os : Os) : World :=
  let w0 := World.holding Tryd.prog os ⟨#[], #[], []⟩
  let put (h : Array Obj) (g : Nat) (cs : Array Value) : Array Obj := h.modify g fun
    | .cells _ t frozen => .cells cs t frozen
    | o => o
  let h1 := put w0.heap 4 (lits Rows.laid_math_bits_deBruijn32tab).toArray
  let h2 := put h1 5 (lits Rows.laid_math_bits_deBruijn64tab).toArray
  let h3 := put h2 0 (lits Rows.laid_internal_strconv_uint64pow10).toArray
  let h4 := put h3 2 (lits2 Rows.laid_unicode_utf8_acceptRanges).toArray
  let h5 := put h4 1 (lits Rows.laid_unicode_utf8_first).toArray
  { w0 with heap := h5 }
abbrev theArgs : Array Value := #[.agg #[.int .u8 0, .int .u8 0, .int .u8 0, .int .u8 0, .int .u8 0, .int .u8 0, .int .u8 0, .int .u8 0, .int .u8 0, .int .u8 0, .int .u8 0, .int .u8 0, .int .u8 0, .int .u8 0, .int .u8 0, .int .u8 0, .int .u8 0, .int .u8 0, .int .u8 0, .int .u8 0, .int .u8 0, .int .u8 0, .int .u8 0, .int .u8 0, .int .u8 0, .int .u8 0, .int .u8 0, .int .u8 0, .int .u8 0, .int .u8 0, .int .u8 0, .int .u8 0], .slice none 0 0]
theorem laid_met (os : Os) (args : Array Value) : laidMet Tryd.prog Rows.keysGoneRow.laid ((laidWorld os).forCall (fun _ _ => 0) ⟨#[], args, []⟩).memory :=
  (LaidIn.of_run (l := [("math/bits.deBruijn32tab", Rows.laid_math_bits_deBruijn32tab), ("math/bits.deBruijn64tab", Rows.laid_math_bits_deBruijn64tab), ("internal/strconv.uint64pow10", Rows.laid_internal_strconv_uint64pow10), ("unicode/utf8.acceptRanges", Rows.laid_unicode_utf8_acceptRanges), ("unicode/utf8.first", Rows.laid_unicode_utf8_first)]) [4, 5, 0, 2, 1] 8 (by kernel_rfl) (by kernel_rfl) (by kernel_rfl) (by kernel_rfl)).met
theorem witness_row (os : Os) {H : Type} (enc : TypeId × Value → H) :
    (OpenSpec.ofChange Rows.keysGoneSpec).preRow enc Tryd.prog Tryd.f3 Rows.keysGoneRow.domain false Rows.keysGoneRow.laid ((laidWorld os).forCall (fun _ _ => 0) ⟨#[], theArgs, []⟩).memory theArgs := by
  have hw : (DataW.whole enc Tryd.prog ((laidWorld os).forCall (fun _ _ => 0) ⟨#[], theArgs, []⟩).memory Tryd.f3.params.toList (OpenSpec.ofChange Rows.keysGoneSpec).vars false theArgs.toList 8).map (fun x => (x.1, x.2.1)) =
      some ([.agg [.lit (.int .u8 0), .lit (.int .u8 0), .lit (.int .u8 0), .lit (.int .u8 0), .lit (.int .u8 0), .lit (.int .u8 0), .lit (.int .u8 0), .lit (.int .u8 0), .lit (.int .u8 0), .lit (.int .u8 0), .lit (.int .u8 0), .lit (.int .u8 0), .lit (.int .u8 0), .lit (.int .u8 0), .lit (.int .u8 0), .lit (.int .u8 0), .lit (.int .u8 0), .lit (.int .u8 0), .lit (.int .u8 0), .lit (.int .u8 0), .lit (.int .u8 0), .lit (.int .u8 0), .lit (.int .u8 0), .lit (.int .u8 0), .lit (.int .u8 0), .lit (.int .u8 0), .lit (.int .u8 0), .lit (.int .u8 0), .lit (.int .u8 0), .lit (.int .u8 0), .lit (.int .u8 0), .lit (.int .u8 0)], .nil], []) := by kernel_rfl
  obtain ⟨⟨x1, x2, x3⟩, hx, hx1⟩ := Option.map_eq_some_iff.1 hw
  simp only [Prod.mk.injEq] at hx1
  obtain ⟨rfl, rfl⟩ := hx1
  exact OpenSpec.preRow_of_cond 8 hx (by kernel_rfl) (fun k hk => by cases hk) (by kernel_rfl) (laid_met os _)
set_option maxRecDepth 100000 in
theorem lifted (os : Os) (started : os.Started) (H : Type) (enc : TypeId × Value → H) (F : Stop.Interp) :
    ReturnsInHanded {} Tryd.checked os 3 .any ((OpenSpec.ofChange Rows.keysGoneSpec).preRow enc Tryd.prog Tryd.f3 Rows.keysGoneRow.domain false Rows.keysGoneRow.laid) (((OpenSpec.ofChange Rows.keysGoneSpec).at F).post enc Tryd.prog Tryd.f3 false true false false) := by
  refine returnsInHanded_of_row (C := Tryd.checked) (s := (OpenSpec.ofChange Rows.keysGoneSpec)) own started (by kernel_rfl) Tryd.func3
    (witness_row_atRef (enc := enc) (C := Tryd.checked) false (laidWorld os) theArgs rfl (by kernel_rfl) (by kernel_rfl) (by kernel_rfl) (witness_row os enc)) ?_
  intro W base args ds gs before hval0 hW hcnd _ hsz0 hL hsh _
  have hval : ∀ (j : Nat) t v, Tryd.f3.params[j]? = some t → args[j]? = some v → Value.okWide Tryd.prog W .any base t v := hval0
  have hW' := hW
  obtain ⟨p, q, hA0, hV, rfl, hfz, hnd⟩ := hW
  have hA : DataW.TrodAll enc Tryd.prog W 0 (fun _ => true) true Tryd.f3.params.toList args.toList ds p := hA0
  rw [Tryd.params3] at hA hval
  obtain ⟨v0, vs0, d0, ds0, p0, q0, hargs, rfl, rfl, h0, r0⟩ := trodAll_cons hA
  obtain ⟨v1, vs1, d1, ds1, p1, q1, rfl, rfl, rfl, h1, r1⟩ := trodAll_cons r0
  obtain ⟨rfl, rfl, rfl⟩ := trodAll_nil r1
  obtain rfl : args = #[v0, v1] := by cases args; simp_all
  obtain ⟨rfl, rfl⟩ := trodVars_none hV
  have lt0 : ∀ x ∈ p0, x.block < W.heap.size := by obtain ⟨m, hm⟩ := h0; exact DataW.trod_lt m _ _ _ hm
  obtain ⟨x0, rfl, hl0⟩ := ok_arr8 Tryd.underlying23 Tryd.underlying5 (by kernel_rfl) (by kernel_rfl) (hval 0 23 v0 rfl rfl)
  have lt1 : ∀ x ∈ p1, x.block < W.heap.size := by obtain ⟨m, hm⟩ := h1; exact DataW.trod_lt m _ _ _ hm
  have hc1 : Cell.okWide Tryd.prog W .any base 24 v1 := by have := (hval 1 24 v1 rfl rfl); simpa only [Value.okWide, Tryd.underlying24] using this
  obtain ⟨x1, o1⟩ : ∃ bs : List UInt8, Vw (eU8 5) 0 W c0 v1 bs := by
    obtain ⟨fuel, hf⟩ := h1
    obtain ⟨a, len, cap, rfl⟩ := okWide_slice Tryd.underlying24 (hval 1 24 v1 rfl rfl)
    exact open_bytes Tryd.underlying24 Tryd.underlying5 (by kernel_rfl) hc1 hf
  have og0 : Arr E45 0 W (fun _ => 0) (.pointer (some ⟨0, 0, none⟩)) tab0 := tab_arr (k := .u64) (zs := tab0.map fun x => (x.toNat : Int)) hL (.tail _ (.tail _ (.head _))) (by kernel_rfl) (by kernel_rfl) (by kernel_rfl) Tryd.underlying103 Tryd.underlying45 (by kernel_rfl) (by kernel_rfl) (by decide) (by kernel_rfl) rfl
  have og5 : Arr E5 0 W (fun _ => 0) (.pointer (some ⟨5, 0, none⟩)) tab5 := tab_arr (k := .u8) (zs := tab5.map fun x => (x.toNat : Int)) hL (.tail _ (.head _)) (by kernel_rfl) (by kernel_rfl) (by kernel_rfl) Tryd.underlying76 Tryd.underlying5 (by kernel_rfl) (by kernel_rfl) (by decide) (by kernel_rfl) rfl
  clear hA0 hval0 hsz0
  obtain ⟨K, hp⟩ := law_gone x0 x1 hl0
  refine (W3 K W (fun _ => 0) (fun _ => by decide) hp hl0 (by decide) o1 (by decide) og0 (by decide) og5).mono fun e W' ⟨d, he, st⟩ => ?_
  have bel : Below W.heap.size W W' := ⟨st.os, st.tape, st.output, st.size, fun k hk => st.blk k hk (by simp)⟩
  subst he
  exact ⟨_, rfl, _, _, _, [], _, [], hW', trodAll_mk1 (shut_bool Tryd.underlying4 _), (trodAll_cons_mk (Below.trod laidOut (by kernel_rfl) (of_decide_eq_true (by kernel_rfl)) h0 bel lt0) (trodAll_cons_mk (Below.trod laidOut (by kernel_rfl) (of_decide_eq_true (by kernel_rfl)) h1 bel lt1) trodAll_mk0)), rfl, bel.frame _, fun h => by cases h⟩
theorem proved : Rows.KeysGoneSaid :=
  OpenClaim.holds_of_cond 3 Tryd.f3 rfl rfl rfl rfl rfl rfl rfl ⟨rfl, rfl, rfl, rfl, rfl⟩ rfl rfl rfl rfl rfl (by kernel_rfl) Tryd.func3 (by kernel_rfl)
    (of_decide_eq_true (by kernel_rfl)) (by unfold Func.isWrapper; first | (rw [if_pos (by decide +kernel)]; kernel_rfl) | (rw [if_neg (by decide +kernel)]; exact ⟨rfl, rfl⟩))
    (fun os started H enc _ F0 => by rw [OpenClaim.pre_eq_preRow]; exact lifted os started H enc F0)
theorem card : Rows.KeysGoneCardSaid :=
  Claim7.holds_tied_plain_at .later [] [.data, .data, .data, .data, .pinned] true (true, "088b8d187804aa3eb7bc1c34524d3da11ac5880c9941dcbcfeb99821d2ec9df8") false
    proved (fun _ h => by cases h) (by kernel_rfl) (fun _ h => by cases h) keysGone_row_tie rfl ⟨rfl, rfl⟩ (by kernel_rfl) rfl
    (fun f fn hf hfn => by
      obtain rfl : f = 3 := Option.some.inj ((show Tryd.prog.funcNamed "holdfast/holdfastlaw09.KeysGone" = some 3 by kernel_rfl).symm.trans hf) |>.symm
      obtain rfl : fn = Tryd.f3 := (Option.some.inj (Tryd.func3.symm.trans hfn)).symm
      exact ⟨by kernel_rfl, fun j t ht => by
        rw [Tryd.params3] at ht
        have h3 : t ∈ [23, 24] := List.mem_of_getElem? (by simpa using ht)
        simp only [List.mem_cons, List.not_mem_nil, or_false] at h3
        rcases h3 with rfl | rfl
        · exact (show Tryd.prog.wantsStandIn 23 = false by kernel_rfl)
        · exact (show Tryd.prog.wantsStandIn 24 = false by kernel_rfl)⟩)
    (by kernel_rfl)
#print axioms card
end Go.Proofs.YtjgbakieogadfabDoor.keysGone
namespace Go.Proofs.YtjgbakieogadfabDoor
/-- The tied card, under a short name, for the claim. -/
theorem keysGone_holds : Rows.KeysGoneCardSaid := keysGone.card
end Go.Proofs.YtjgbakieogadfabDoor
