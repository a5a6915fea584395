import Derived.Test.YtjgbakieogadfaaGreatDoorLib29
import Derived.Test.YtjgbakieogadfaaGreatDoorProg
import Derived.Test.YtjgbakieogadfaaGreatDoorPure
import Derived.Test.YtjgbakieogadfaaGreatDoorShelf
namespace Go.Proofs.YtjgbakieogadfaaGreatDoor
open Go Go.Proofs L
theorem I3 : Tryz.prog.info? 3 = some Tryz.t3 := by kernel_rfl
theorem I5 : Tryz.prog.info? 5 = some Tryz.t5 := by kernel_rfl
theorem I9 : Tryz.prog.info? 9 = some Tryz.t9 := by kernel_rfl
theorem I24 : Tryz.prog.info? 24 = some Tryz.t24 := by kernel_rfl
theorem I25 : Tryz.prog.info? 25 = some Tryz.t25 := by kernel_rfl
theorem I27 : Tryz.prog.info? 27 = some Tryz.t27 := by kernel_rfl
theorem I43 : Tryz.prog.info? 43 = some Tryz.t43 := by kernel_rfl
theorem I47 : Tryz.prog.info? 47 = some Tryz.t47 := by kernel_rfl
theorem I74 : Tryz.prog.info? 74 = some Tryz.t74 := by kernel_rfl
theorem I77 : Tryz.prog.info? 77 = some Tryz.t77 := by kernel_rfl
theorem I80 : Tryz.prog.info? 80 = some Tryz.t80 := by kernel_rfl
theorem I115 : Tryz.prog.info? 115 = some Tryz.t115 := by kernel_rfl
theorem hmix : mixed Tryz.prog := by unfold mixed; kernel_rfl
abbrev E3 := eI 3
abbrev E5 := eU8 5
abbrev E9 := eS 9
abbrev E24 : Enc S_api_Owner := ⟨24, 2, fun x => [vS x.Tenant, vS x.User], fun _ => rfl, by decide, fun _ v hv => by
  simp only [List.mem_cons, List.not_mem_nil, or_false] at hv
  rcases hv with rfl | rfl <;> rfl⟩
abbrev E25 := eU8 25
abbrev E27 : Enc S_holdfastlaw13_Deed := ⟨27, 6, fun x => [vI x.Kind, vS x.Owner.Tenant, vS x.Owner.User, vS x.Client, vS x.Redirect, vU8 x.Scopes], fun _ => rfl, by decide, fun _ v hv => by
  simp only [List.mem_cons, List.not_mem_nil, or_false] at hv
  rcases hv with rfl | rfl | rfl | rfl | rfl | rfl <;> rfl⟩
abbrev E43 : Enc S_api_Client := ⟨43, 4, fun x => [vS x.Tenant, vS x.Name, vS x.Redirect, vU8 x.Scopes], fun _ => rfl, by decide, fun _ v hv => by
  simp only [List.mem_cons, List.not_mem_nil, or_false] at hv
  rcases hv with rfl | rfl | rfl | rfl <;> rfl⟩
abbrev E47 : Enc S_api_Consent := ⟨47, 4, fun x => [vS x.Owner.Tenant, vS x.Owner.User, vS x.Client, vU8 x.Scopes], fun _ => rfl, by decide, fun _ v hv => by
  simp only [List.mem_cons, List.not_mem_nil, or_false] at hv
  rcases hv with rfl | rfl | rfl | rfl <;> rfl⟩
abbrev E74 : Enc S_grant_name := ⟨74, 2, fun x => [vS x.tenant, vS x.name], fun _ => rfl, by decide, fun _ v hv => by
  simp only [List.mem_cons, List.not_mem_nil, or_false] at hv
  rcases hv with rfl | rfl <;> rfl⟩
abbrev E77 : Enc S_grant_use := ⟨77, 3, fun x => [vS x.Owner.Tenant, vS x.Owner.User, vS x.client], fun _ => rfl, by decide, fun _ v hv => by
  simp only [List.mem_cons, List.not_mem_nil, or_false] at hv
  rcases hv with rfl | rfl | rfl <;> rfl⟩
abbrev E80 : Enc (S_api_Row × Sl) := ⟨80, 2, fun x => [vS x.1.Key, x.2.val], fun _ => rfl, by decide, fun _ v hv => by
  simp only [List.mem_cons, List.not_mem_nil, or_false] at hv
  rcases hv with rfl | rfl <;> rfl⟩
abbrev g80 : S_api_Row → List (List UInt8) := fun x => x.Columns
abbrev E115 := eU64 115
abbrev kv9 : List UInt8 → Value := fun x => vS x
abbrev kv74 : S_grant_name → Value := fun x => .agg (E74.e x).toArray
abbrev kv77 : S_grant_use → Value := fun x => .agg (E77.e x).toArray
abbrev vv3 : Int → Value := fun x => vI x
abbrev vv25 : UInt8 → Value := fun x => vU8 x
abbrev vv43 : S_api_Client → Value := fun x => .agg (E43.e x).toArray
theorem q9 (d : Nat) (a b : List UInt8) (w : World) : (Op.equalIn (d + 1) 9 (vS a) (vS b)).run Tryz.prog w = .ok (decide (a = b)) w := eq_str Tryz.underlying9 d a b w
theorem q24 (d : Nat) (a b : S_api_Owner) (w : World) : (Op.equalIn (d + 2) 24 (.agg (E24.e a).toArray) (.agg (E24.e b).toArray)).run Tryz.prog w = .ok (decide (a = b)) w := by
  have h0 := run_equalIn_st (P := Tryz.prog) w (d + 1) 24 _ (E24.e a).toArray (E24.e b).toArray Tryz.underlying24 (by kernel_rfl)
  have h1 := h0.trans (eqSt_cons rfl (by kernel_rfl) (by kernel_rfl) (q9 (d + 0) a.Tenant b.Tenant w) (eqSt_cons rfl (by kernel_rfl) (by kernel_rfl) (q9 (d + 0) a.User b.User w) (eqSt_nil w _ _ _)))
  have e : (decide (a.Tenant = b.Tenant) && (decide (a.User = b.User) && true)) = decide (a = b) := by cases a; cases b; rw [Bool.eq_iff_iff]; simp
  rw [e] at h1
  exact h1
theorem q74 (d : Nat) (a b : S_grant_name) (w : World) : (Op.equalIn (d + 2) 74 (.agg (E74.e a).toArray) (.agg (E74.e b).toArray)).run Tryz.prog w = .ok (decide (a = b)) w := by
  have h0 := run_equalIn_st (P := Tryz.prog) w (d + 1) 74 _ (E74.e a).toArray (E74.e b).toArray Tryz.underlying74 (by kernel_rfl)
  have h1 := h0.trans (eqSt_cons rfl (by kernel_rfl) (by kernel_rfl) (q9 (d + 0) a.tenant b.tenant w) (eqSt_cons rfl (by kernel_rfl) (by kernel_rfl) (q9 (d + 0) a.name b.name w) (eqSt_nil w _ _ _)))
  have e : (decide (a.tenant = b.tenant) && (decide (a.name = b.name) && true)) = decide (a = b) := by cases a; cases b; rw [Bool.eq_iff_iff]; simp
  rw [e] at h1
  exact h1
theorem q77 (d : Nat) (a b : S_grant_use) (w : World) : (Op.equalIn (d + 3) 77 (.agg (E77.e a).toArray) (.agg (E77.e b).toArray)).run Tryz.prog w = .ok (decide (a = b)) w := by
  have h0 := run_equalIn_st (P := Tryz.prog) w (d + 2) 77 _ (E77.e a).toArray (E77.e b).toArray Tryz.underlying77 (by kernel_rfl)
  have h1 := h0.trans (eqSt_cons rfl (by kernel_rfl) (by kernel_rfl) (q24 (d + 0) a.Owner b.Owner w) (eqSt_cons rfl (by kernel_rfl) (by kernel_rfl) (q9 (d + 1) a.client b.client w) (eqSt_nil w _ _ _)))
  have e : (decide (a.Owner = b.Owner) && (decide (a.client = b.client) && true)) = decide (a = b) := by cases a; cases b; rw [Bool.eq_iff_iff]; simp
  rw [e] at h1
  exact h1
theorem K9 : KL Tryz.prog 9 kv9 := KL.str Tryz.underlying9
theorem K74 : KL Tryz.prog 74 kv74 := KL.ask Tryz.underlying74 (fun b x w => ((run_ckSt (P := Tryz.prog) w b 9999 74 _ (E74.e x).toArray Tryz.underlying74).trans (ckSt_cons (by kernel_rfl) (ck_str Tryz.underlying9 b 9998 x.tenant w) (ckSt_cons (by kernel_rfl) (ck_str Tryz.underlying9 b 9998 x.name w) (ckSt_nil w b 9999 _))))) (fun _ _ => rfl) (fun a b w => (q74 9998 a b w).trans (by congr 1; rw [decide_eq_decide]; exact eq_comm)) (fun a => by simp [Instr.sameBits, bytes_beq])
theorem K77 : KL Tryz.prog 77 kv77 := KL.ask Tryz.underlying77 (fun b x w => ((run_ckSt (P := Tryz.prog) w b 9999 77 _ (E77.e x).toArray Tryz.underlying77).trans (ckSt_cons (by kernel_rfl) ((run_ckSt (P := Tryz.prog) w b 9998 24 _ (E24.e x.Owner).toArray Tryz.underlying24).trans (ckSt_cons (by kernel_rfl) (ck_str Tryz.underlying9 b 9997 x.Owner.Tenant w) (ckSt_cons (by kernel_rfl) (ck_str Tryz.underlying9 b 9997 x.Owner.User w) (ckSt_nil w b 9998 _)))) (ckSt_cons (by kernel_rfl) (ck_str Tryz.underlying9 b 9998 x.client w) (ckSt_nil w b 9999 _))))) (fun _ _ => rfl) (fun a b w => (q77 9997 a b w).trans (by congr 1; rw [decide_eq_decide]; exact eq_comm)) (fun a => by simp [Instr.sameBits, bytes_beq])
end Go.Proofs.YtjgbakieogadfaaGreatDoor
