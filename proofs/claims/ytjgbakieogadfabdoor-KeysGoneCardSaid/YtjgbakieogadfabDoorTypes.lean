import Derived.Test.YtjgbakieogadfabDoorLib25
import Derived.Test.YtjgbakieogadfabDoorProg
import Derived.Test.YtjgbakieogadfabDoorPure
import Derived.Test.YtjgbakieogadfabDoorShelf
namespace Go.Proofs.YtjgbakieogadfabDoor
open Go Go.Proofs L
theorem I3 : Tryd.prog.info? 3 = some Tryd.t3 := by kernel_rfl
theorem I4 : Tryd.prog.info? 4 = some Tryd.t4 := by kernel_rfl
theorem I5 : Tryd.prog.info? 5 = some Tryd.t5 := by kernel_rfl
theorem I9 : Tryd.prog.info? 9 = some Tryd.t9 := by kernel_rfl
theorem I24 : Tryd.prog.info? 24 = some Tryd.t24 := by kernel_rfl
theorem I45 : Tryd.prog.info? 45 = some Tryd.t45 := by kernel_rfl
theorem I48 : Tryd.prog.info? 48 = some Tryd.t48 := by kernel_rfl
theorem I92 : Tryd.prog.info? 92 = some Tryd.t92 := by kernel_rfl
theorem hmix : mixed Tryd.prog := by unfold mixed; kernel_rfl
abbrev E3 := eI 3
abbrev E4 := eB 4
abbrev E5 := eU8 5
abbrev E9 := eS 9
abbrev E24 := eL 24
abbrev E45 := eU64 45
abbrev E48 : Enc S_keys_purpose := ⟨48, 2, fun x => [vS x.tenant, vS x.name], fun _ => rfl, by decide, fun _ v hv => by
  simp only [List.mem_cons, List.not_mem_nil, or_false] at hv
  rcases hv with rfl | rfl <;> rfl⟩
abbrev E92 := eU32 92
abbrev kv9 : List UInt8 → Value := fun x => vS x
abbrev kv48 : S_keys_purpose → Value := fun x => .agg (E48.e x).toArray
abbrev vv3 : Int → Value := fun x => vI x
abbrev vv4 : Bool → Value := fun x => vB x
theorem q9 (d : Nat) (a b : List UInt8) (w : World) : (Op.equalIn (d + 1) 9 (vS a) (vS b)).run Tryd.prog w = .ok (decide (a = b)) w := eq_str Tryd.underlying9 d a b w
theorem q48 (d : Nat) (a b : S_keys_purpose) (w : World) : (Op.equalIn (d + 2) 48 (.agg (E48.e a).toArray) (.agg (E48.e b).toArray)).run Tryd.prog w = .ok (decide (a = b)) w := by
  have h0 := run_equalIn_st (P := Tryd.prog) w (d + 1) 48 _ (E48.e a).toArray (E48.e b).toArray Tryd.underlying48 (by kernel_rfl)
  have h1 := h0.trans (eqSt_cons rfl (by kernel_rfl) (by kernel_rfl) (q9 (d + 0) a.tenant b.tenant w) (eqSt_cons rfl (by kernel_rfl) (by kernel_rfl) (q9 (d + 0) a.name b.name w) (eqSt_nil w _ _ _)))
  have e : (decide (a.tenant = b.tenant) && (decide (a.name = b.name) && true)) = decide (a = b) := by cases a; cases b; rw [Bool.eq_iff_iff]; simp
  rw [e] at h1
  exact h1
theorem K9 : KL Tryd.prog 9 kv9 := KL.str Tryd.underlying9
theorem K48 : KL Tryd.prog 48 kv48 := KL.ask Tryd.underlying48 (fun b x w => ((run_ckSt (P := Tryd.prog) w b 9999 48 _ (E48.e x).toArray Tryd.underlying48).trans (ckSt_cons (by kernel_rfl) (ck_str Tryd.underlying9 b 9998 x.tenant w) (ckSt_cons (by kernel_rfl) (ck_str Tryd.underlying9 b 9998 x.name w) (ckSt_nil w b 9999 _))))) (fun _ _ => rfl) (fun a b w => (q48 9998 a b w).trans (by congr 1; rw [decide_eq_decide]; exact eq_comm)) (fun a => by simp [Instr.sameBits, bytes_beq])
end Go.Proofs.YtjgbakieogadfabDoor
