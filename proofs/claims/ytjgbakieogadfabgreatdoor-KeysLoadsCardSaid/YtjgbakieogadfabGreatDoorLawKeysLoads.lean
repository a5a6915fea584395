/-
  Proved: the law holdfast/holdfastlaw09.KeysLoads returns true for every input, and each argument reads behind the call as it read before; the tied card.
  Conditions: none of its own; the package variables that the row lists read as the program lays them.
-/
import Derived.Test.YtjgbakieogadfabGreatDoorRows
import Derived.Test.YtjgbakieogadfabGreatDoorCards
import Derived.Test.YtjgbakieogadfabGreatDoorTie
import Derived.Test.YtjgbakieogadfabGreatDoorWalks
import Derived.Test.YtjgbakieogadfabGreatDoorLib27
import Derived.Test.YtjgbakieogadfabGreatDoorLoadJ
import Derived.ProofKit
import Derived.OpenShut
import Derived.ShutString
import Derived.ChangeOld
import Derived.Below
import Derived.SizedLaws
import Derived.Lib.LaidIn
import Derived.Deep.DeepHandedRow
import Derived.Deep.DeepWitnessRowRef
import Derived.JoinedCond
import Derived.SevenTiedAt
namespace Go.Proofs.YtjgbakieogadfabGreatDoor.keysLoads
open Go.Proofs Go.ChangeShapes Go.WideShapes Go.ChangeAt Go.RowKit
open Go.ChangeMaps (open_string shut_string)
open L
set_option linter.unusedVariables false
theorem own : ownKnob Tryz.prog.godebug = none := by kernel_rfl
theorem laidOut : laidOutB Tryz.prog = true := by kernel_rfl
def lit1 : DataW Unit → Value
  | .lit (.int k n) => .int k n
  | _ => .bool false
def lits : DataW Unit → List Value
  | .agg xs => xs.map lit1
  | _ => []
def lits2 : DataW Unit → List Value
  | .agg xs => xs.flatMap lits
  | _ => []
noncomputable def laidWorld (os : Os) : World :=
  let w0 := World.holding Tryz.prog os ⟨#[], #[], []⟩
  let put (h : Array Obj) (g : Nat) (cs : Array Value) : Array Obj := h.modify g fun
    | .cells _ t frozen => .cells cs t frozen
    | o => o
  let h1 := put w0.heap 6 (lits Rows.laid_math_bits_deBruijn32tab).toArray
  let h2 := put h1 7 (lits Rows.laid_math_bits_deBruijn64tab).toArray
  let h3 := put h2 0 (lits Rows.laid_internal_strconv_uint64pow10).toArray
  let h4 := put h3 3 (lits2 Rows.laid_unicode_utf8_acceptRanges).toArray
  let h5 := (put h4 5 #[.iface 208 (.pointer (some ⟨13, 0, none⟩))]).push (.cells #[.string ⟨#[118, 97, 108, 117, 101, 32, 111, 117, 116, 32, 111, 102, 32, 114, 97, 110, 103, 101]⟩] 210)
  let h6 := (put h5 4 #[.iface 208 (.pointer (some ⟨14, 0, none⟩))]).push (.cells #[.string ⟨#[105, 110, 118, 97, 108, 105, 100, 32, 115, 121, 110, 116, 97, 120]⟩] 210)
  let h7 := put h6 2 (lits Rows.laid_unicode_utf8_first).toArray
  { w0 with heap := h7 }
abbrev theArgs : Array Value := #[.agg #[.int .u8 0, .int .u8 0, .int .u8 0, .int .u8 0, .int .u8 0, .int .u8 0, .int .u8 0, .int .u8 0, .int .u8 0, .int .u8 0, .int .u8 0, .int .u8 0, .int .u8 0, .int .u8 0, .int .u8 0, .int .u8 0, .int .u8 0, .int .u8 0, .int .u8 0, .int .u8 0, .int .u8 0, .int .u8 0, .int .u8 0, .int .u8 0, .int .u8 0, .int .u8 0, .int .u8 0, .int .u8 0, .int .u8 0, .int .u8 0, .int .u8 0, .int .u8 0], .slice none 0 0, .slice none 0 0]
theorem laid_met (os : Os) (args : Array Value) : laidMet Tryz.prog Rows.keysLoadsRow.laid ((laidWorld os).forCall (fun _ _ => 0) ⟨#[], args, []⟩).memory :=
  (LaidIn.of_run (l := [("math/bits.deBruijn32tab", Rows.laid_math_bits_deBruijn32tab), ("math/bits.deBruijn64tab", Rows.laid_math_bits_deBruijn64tab), ("internal/strconv.uint64pow10", Rows.laid_internal_strconv_uint64pow10), ("unicode/utf8.acceptRanges", Rows.laid_unicode_utf8_acceptRanges), ("strconv.ErrRange", Rows.laid_strconv_ErrRange), ("strconv.ErrSyntax", Rows.laid_strconv_ErrSyntax), ("unicode/utf8.first", Rows.laid_unicode_utf8_first)]) [6, 7, 0, 3, 5, 4, 2, 13, 14] 8 (by kernel_rfl) (by kernel_rfl) (by kernel_rfl) (by kernel_rfl)).met
theorem witness_row (os : Os) {H : Type} (enc : TypeId × Value → H) :
    (OpenSpec.ofChange Rows.keysLoadsSpec).preRow enc Tryz.prog Tryz.f8 Rows.keysLoadsRow.domain false Rows.keysLoadsRow.laid ((laidWorld os).forCall (fun _ _ => 0) ⟨#[], theArgs, []⟩).memory theArgs := by
  have hw : (DataW.whole enc Tryz.prog ((laidWorld os).forCall (fun _ _ => 0) ⟨#[], theArgs, []⟩).memory Tryz.f8.params.toList (OpenSpec.ofChange Rows.keysLoadsSpec).vars false theArgs.toList 8).map (fun x => (x.1, x.2.1)) =
      some ([.agg [.lit (.int .u8 0), .lit (.int .u8 0), .lit (.int .u8 0), .lit (.int .u8 0), .lit (.int .u8 0), .lit (.int .u8 0), .lit (.int .u8 0), .lit (.int .u8 0), .lit (.int .u8 0), .lit (.int .u8 0), .lit (.int .u8 0), .lit (.int .u8 0), .lit (.int .u8 0), .lit (.int .u8 0), .lit (.int .u8 0), .lit (.int .u8 0), .lit (.int .u8 0), .lit (.int .u8 0), .lit (.int .u8 0), .lit (.int .u8 0), .lit (.int .u8 0), .lit (.int .u8 0), .lit (.int .u8 0), .lit (.int .u8 0), .lit (.int .u8 0), .lit (.int .u8 0), .lit (.int .u8 0), .lit (.int .u8 0), .lit (.int .u8 0), .lit (.int .u8 0), .lit (.int .u8 0), .lit (.int .u8 0)], .nil, .nil], []) := by kernel_rfl
  obtain ⟨⟨x1, x2, x3⟩, hx, hx1⟩ := Option.map_eq_some_iff.1 hw
  simp only [Prod.mk.injEq] at hx1
  obtain ⟨rfl, rfl⟩ := hx1
  exact OpenSpec.preRow_of_cond 8 hx (by kernel_rfl) (fun k hk => by cases hk) (by kernel_rfl) (laid_met os _)
set_option maxRecDepth 100000 in
theorem lifted (os : Os) (started : os.Started) (H : Type) (enc : TypeId × Value → H) (F : Stop.Interp) :
    ReturnsInHanded {} Tryz.checked os 8 .any ((OpenSpec.ofChange Rows.keysLoadsSpec).preRow enc Tryz.prog Tryz.f8 Rows.keysLoadsRow.domain false Rows.keysLoadsRow.laid) (((OpenSpec.ofChange Rows.keysLoadsSpec).at F).post enc Tryz.prog Tryz.f8 false true false false) := by
  refine returnsInHanded_of_row (C := Tryz.checked) (s := (OpenSpec.ofChange Rows.keysLoadsSpec)) own started (by kernel_rfl) Tryz.func8
    (witness_row_atRef (enc := enc) (C := Tryz.checked) false (laidWorld os) theArgs rfl (by kernel_rfl) (by kernel_rfl) (by kernel_rfl) (witness_row os enc)) ?_
  intro W base args ds gs before hval0 hW hcnd _ hsz0 hL hsh _
  have hval : ∀ (j : Nat) t v, Tryz.f8.params[j]? = some t → args[j]? = some v → Value.okWide Tryz.prog W .any base t v := hval0
  have hW' := hW
  obtain ⟨p, q, hA0, hV, rfl, hfz, hnd⟩ := hW
  have hA : DataW.TrodAll enc Tryz.prog W 0 (fun _ => true) true Tryz.f8.params.toList args.toList ds p := hA0
  rw [Tryz.params8] at hA hval
  obtain ⟨v0, vs0, d0, ds0, p0, q0, hargs, rfl, rfl, h0, r0⟩ := trodAll_cons hA
  obtain ⟨v1, vs1, d1, ds1, p1, q1, rfl, rfl, rfl, h1, r1⟩ := trodAll_cons r0
  obtain ⟨v2, vs2, d2, ds2, p2, q2, rfl, rfl, rfl, h2, r2⟩ := trodAll_cons r1
  obtain ⟨rfl, rfl, rfl⟩ := trodAll_nil r2
  obtain rfl : args = #[v0, v1, v2] := by cases args; simp_all
  obtain ⟨rfl, rfl⟩ := trodVars_none hV
  have hsz := hsz0
  rw [Tryz.params8] at hsz
  have lt0 : ∀ x ∈ p0, x.block < W.heap.size := by obtain ⟨m, hm⟩ := h0; exact DataW.trod_lt m _ _ _ hm
  obtain ⟨x0, rfl, hl0⟩ := ok_arr8 Tryz.underlying23 Tryz.underlying5 (by kernel_rfl) (by kernel_rfl) (hval 0 23 v0 rfl rfl)
  have lt1 : ∀ x ∈ p1, x.block < W.heap.size := by obtain ⟨m, hm⟩ := h1; exact DataW.trod_lt m _ _ _ hm
  obtain ⟨sl1, x1, hv1, o1, k1, n1⟩ : ∃ (sl : Sl) (xs : List S_api_Row), v1 = sl.val ∧ VwD E78 E9 g78 1 W (fun _ => 1) sl.val xs ∧ (∀ a ∈ xs, ok78 a) ∧ xs.length * 40 ≤ 140737488351232 := by
    obtain ⟨fuel, hf⟩ := h1
    obtain ⟨a, len, cap, rfl⟩ := okWide_slice Tryz.underlying48 (hval 1 48 v1 rfl rfl)
    obtain ⟨sl, xs, h1, h2, h3, h4⟩ := open_deep (E := E78) (E' := E9) (g := g78) (ok := ok78) (c := fun _ => 1) Tryz.underlying48 (by kernel_rfl) (fun _ => rfl) (rdD78 fun _ => rfl) hf (wEach_at hsz (j := 1) rfl rfl)
    replace h4 : xs.length * Tryz.prog.bytesOf 78 ≤ 140737488351232 := h4
    rw [show Tryz.prog.bytesOf 78 = 40 from by kernel_rfl] at h4
    exact ⟨sl, xs, (List.cons.inj h1).1, h2, h3, h4⟩
  subst hv1
  have lt2 : ∀ x ∈ p2, x.block < W.heap.size := by obtain ⟨m, hm⟩ := h2; exact DataW.trod_lt m _ _ _ hm
  obtain ⟨sl2, x2, hv2, o2, k2, n2⟩ : ∃ (sl : Sl) (xs : List S_hl09_Deed), v2 = sl.val ∧ VwD E27 E5 g27 1 W (fun _ => 1) sl.val xs ∧ (∀ a ∈ xs, ok27 a) ∧ xs.length * 80 ≤ 140737488351232 := by
    obtain ⟨fuel, hf⟩ := h2
    obtain ⟨a, len, cap, rfl⟩ := okWide_slice Tryz.underlying24 (hval 2 24 v2 rfl rfl)
    obtain ⟨sl, xs, h1, h2, h3, h4⟩ := open_deep (E := E27) (E' := E5) (g := g27) (ok := ok27) (c := fun _ => 1) Tryz.underlying24 (by kernel_rfl) (fun _ => rfl) (rdD27 fun _ => rfl) hf (wEach_at hsz (j := 2) rfl rfl)
    replace h4 : xs.length * Tryz.prog.bytesOf 27 ≤ 140737488351232 := h4
    rw [show Tryz.prog.bytesOf 27 = 80 from by kernel_rfl] at h4
    exact ⟨sl, xs, (List.cons.inj h1).1, h2, h3, h4⟩
  subst hv2
  have og0 : Arr E76 0 W (fun _ => 0) (.pointer (some ⟨0, 0, none⟩)) tab0 := tab_arr (k := .u64) (zs := tab0.map fun x => (x.toNat : Int)) hL (.tail _ (.tail _ (.head _))) (by kernel_rfl) (by kernel_rfl) (by kernel_rfl) Tryz.underlying168 Tryz.underlying76 (by kernel_rfl) (by kernel_rfl) (by decide) (by kernel_rfl) rfl
  have og7 : Arr E5 0 W (fun _ => 0) (.pointer (some ⟨7, 0, none⟩)) tab7 := tab_arr (k := .u8) (zs := tab7.map fun x => (x.toNat : Int)) hL (.tail _ (.head _)) (by kernel_rfl) (by kernel_rfl) (by kernel_rfl) Tryz.underlying122 Tryz.underlying5 (by kernel_rfl) (by kernel_rfl) (by decide) (by kernel_rfl) rfl
  clear hA0 hval0 hsz0 hsz
  obtain ⟨K, hp⟩ := row_loads x0 x1 x2 hl0 k1 n1 k2 n2
  refine (W8 K W (fun _ => 1) (fun _ => by decide) hp hl0 (by decide) o1 (by decide) o2 (by decide) (og0.tr (j := 1) fun _ _ => rfl) (by decide) (og7.tr (j := 1) fun _ _ => rfl)).mono fun e W' ⟨d, he, st⟩ => ?_
  have bel : Below W.heap.size W W' := ⟨st.os, st.tape, st.output, st.size, fun k hk => st.blk k hk (by simp)⟩
  subst he
  exact ⟨_, rfl, _, _, _, [], _, [], hW', trodAll_mk1 (shut_bool Tryz.underlying4 _), (trodAll_cons_mk (Below.trod laidOut (by kernel_rfl) (of_decide_eq_true (by kernel_rfl)) h0 bel lt0) (trodAll_cons_mk (Below.trod laidOut (by kernel_rfl) (of_decide_eq_true (by kernel_rfl)) h1 bel lt1) (trodAll_cons_mk (Below.trod laidOut (by kernel_rfl) (of_decide_eq_true (by kernel_rfl)) h2 bel lt2) trodAll_mk0))), rfl, bel.frame _, fun h => by cases h⟩
theorem proved : Rows.KeysLoadsSaid :=
  OpenClaim.holds_of_cond 8 Tryz.f8 rfl rfl rfl rfl rfl rfl rfl ⟨rfl, rfl, rfl, rfl, rfl⟩ rfl rfl rfl rfl rfl (by kernel_rfl) Tryz.func8 (by kernel_rfl)
    (of_decide_eq_true (by kernel_rfl)) (by unfold Func.isWrapper; first | (rw [if_pos (by decide +kernel)]; kernel_rfl) | (rw [if_neg (by decide +kernel)]; exact ⟨rfl, rfl⟩))
    (fun os started H enc _ F0 => by rw [OpenClaim.pre_eq_preRow]; exact lifted os started H enc F0)
theorem card : Rows.KeysLoadsCardSaid :=
  Claim7.holds_tied_plain_at .later [] [.data, .data, .data, .data, .sentinel, .sentinel, .pinned] true (true, "3a625acd238a1e09d4ddd7e48b6f338c161950d9d9622e98e38ad291098f520e") true
    proved (fun _ h => by cases h) (by kernel_rfl) (fun _ h => by cases h) keysLoads_row_tie rfl ⟨rfl, rfl⟩ (by kernel_rfl) rfl
    (fun f fn hf hfn => by
      obtain rfl : f = 8 := Option.some.inj ((show Tryz.prog.funcNamed "holdfast/holdfastlaw09.KeysLoads" = some 8 by kernel_rfl).symm.trans hf) |>.symm
      obtain rfl : fn = Tryz.f8 := (Option.some.inj (Tryz.func8.symm.trans hfn)).symm
      exact ⟨by kernel_rfl, fun j t ht => by
        rw [Tryz.params8] at ht
        have h3 : t ∈ [23, 48, 24] := List.mem_of_getElem? (by simpa using ht)
        simp only [List.mem_cons, List.not_mem_nil, or_false] at h3
        rcases h3 with rfl | rfl | rfl
        · exact (show Tryz.prog.wantsStandIn 23 = false by kernel_rfl)
        · exact (show Tryz.prog.wantsStandIn 48 = false by kernel_rfl)
        · exact (show Tryz.prog.wantsStandIn 24 = false by kernel_rfl)⟩)
    (by kernel_rfl)
#print axioms card
end Go.Proofs.YtjgbakieogadfabGreatDoor.keysLoads
namespace Go.Proofs.YtjgbakieogadfabGreatDoor
/-- The tied card, under a short name, for the claim. -/
theorem keysLoads_holds : Rows.KeysLoadsCardSaid := keysLoads.card
end Go.Proofs.YtjgbakieogadfabGreatDoor
