import Derived.Test.YtjgbakieogadfaaDoorLib22
import Derived.Test.YtjgbakieogadfaaDoorProg
import Derived.Test.YtjgbakieogadfaaDoorPure
import Derived.Test.YtjgbakieogadfaaDoorShelf
namespace Go.Proofs.YtjgbakieogadfaaDoor
open Go Go.Proofs L
theorem I3 : Tryd.prog.info? 3 = some Tryd.t3 := by kernel_rfl
theorem I5 : Tryd.prog.info? 5 = some Tryd.t5 := by kernel_rfl
theorem I9 : Tryd.prog.info? 9 = some Tryd.t9 := by kernel_rfl
theorem I26 : Tryd.prog.info? 26 = some Tryd.t26 := by kernel_rfl
theorem I30 : Tryd.prog.info? 30 = some Tryd.t30 := by kernel_rfl
theorem I32 : Tryd.prog.info? 32 = some Tryd.t32 := by kernel_rfl
theorem I35 : Tryd.prog.info? 35 = some Tryd.t35 := by kernel_rfl
theorem I44 : Tryd.prog.info? 44 = some Tryd.t44 := by kernel_rfl
theorem I64 : Tryd.prog.info? 64 = some Tryd.t64 := by kernel_rfl
theorem I67 : Tryd.prog.info? 67 = some Tryd.t67 := by kernel_rfl
theorem hmix : mixed Tryd.prog := by unfold mixed; kernel_rfl
abbrev E3 := eI 3
abbrev E5 := eU8 5
abbrev E9 := eS 9
abbrev E26 : Enc S_api_Owner := ⟨26, 2, fun x => [vS x.Tenant, vS x.User], fun _ => rfl, by decide, fun _ v hv => by
  simp only [List.mem_cons, List.not_mem_nil, or_false] at hv
  rcases hv with rfl | rfl <;> rfl⟩
abbrev E30 := eU8 30
abbrev E32 : Enc S_api_Client := ⟨32, 4, fun x => [vS x.Tenant, vS x.Name, vS x.Redirect, vU8 x.Scopes], fun _ => rfl, by decide, fun _ v hv => by
  simp only [List.mem_cons, List.not_mem_nil, or_false] at hv
  rcases hv with rfl | rfl | rfl | rfl <;> rfl⟩
abbrev E35 : Enc S_api_Consent := ⟨35, 4, fun x => [vS x.Owner.Tenant, vS x.Owner.User, vS x.Client, vU8 x.Scopes], fun _ => rfl, by decide, fun _ v hv => by
  simp only [List.mem_cons, List.not_mem_nil, or_false] at hv
  rcases hv with rfl | rfl | rfl | rfl <;> rfl⟩
abbrev E44 : Enc S_holdfastlaw13_Deed := ⟨44, 6, fun x => [vI x.Kind, vS x.Owner.Tenant, vS x.Owner.User, vS x.Client, vS x.Redirect, vU8 x.Scopes], fun _ => rfl, by decide, fun _ v hv => by
  simp only [List.mem_cons, List.not_mem_nil, or_false] at hv
  rcases hv with rfl | rfl | rfl | rfl | rfl | rfl <;> rfl⟩
abbrev E64 : Enc S_grant_name := ⟨64, 2, fun x => [vS x.tenant, vS x.name], fun _ => rfl, by decide, fun _ v hv => by
  simp only [List.mem_cons, List.not_mem_nil, or_false] at hv
  rcases hv with rfl | rfl <;> rfl⟩
abbrev E67 : Enc S_grant_use := ⟨67, 3, fun x => [vS x.Owner.Tenant, vS x.Owner.User, vS x.client], fun _ => rfl, by decide, fun _ v hv => by
  simp only [List.mem_cons, List.not_mem_nil, or_false] at hv
  rcases hv with rfl | rfl | rfl <;> rfl⟩
abbrev kv9 : List UInt8 → Value := fun x => vS x
abbrev kv64 : S_grant_name → Value := fun x => .agg (E64.e x).toArray
abbrev kv67 : S_grant_use → Value := fun x => .agg (E67.e x).toArray
abbrev vv3 : Int → Value := fun x => vI x
abbrev vv30 : UInt8 → Value := fun x => vU8 x
abbrev vv32 : S_api_Client → Value := fun x => .agg (E32.e x).toArray
theorem q9 (d : Nat) (a b : List UInt8) (w : World) : (Op.equalIn (d + 1) 9 (vS a) (vS b)).run Tryd.prog w = .ok (decide (a = b)) w := eq_str Tryd.underlying9 d a b w
theorem q26 (d : Nat) (a b : S_api_Owner) (w : World) : (Op.equalIn (d + 2) 26 (.agg (E26.e a).toArray) (.agg (E26.e b).toArray)).run Tryd.prog w = .ok (decide (a = b)) w := by
  have h0 := run_equalIn_st (P := Tryd.prog) w (d + 1) 26 _ (E26.e a).toArray (E26.e b).toArray Tryd.underlying26 (by kernel_rfl)
  have h1 := h0.trans (eqSt_cons rfl (by kernel_rfl) (by kernel_rfl) (q9 (d + 0) a.Tenant b.Tenant w) (eqSt_cons rfl (by kernel_rfl) (by kernel_rfl) (q9 (d + 0) a.User b.User w) (eqSt_nil w _ _ _)))
  have e : (decide (a.Tenant = b.Tenant) && (decide (a.User = b.User) && true)) = decide (a = b) := by cases a; cases b; rw [Bool.eq_iff_iff]; simp
  rw [e] at h1
  exact h1
theorem q30 (d : Nat) (a b : UInt8) (w : World) : (Op.equalIn (d + 1) 30 (vU8 a) (vU8 b)).run Tryd.prog w = .ok (decide (a = b)) w := eq_u8 Tryd.underlying30 d a b w
theorem q35 (d : Nat) (a b : S_api_Consent) (w : World) : (Op.equalIn (d + 3) 35 (.agg (E35.e a).toArray) (.agg (E35.e b).toArray)).run Tryd.prog w = .ok (decide (a = b)) w := by
  have h0 := run_equalIn_st (P := Tryd.prog) w (d + 2) 35 _ (E35.e a).toArray (E35.e b).toArray Tryd.underlying35 (by kernel_rfl)
  have h1 := h0.trans (eqSt_cons rfl (by kernel_rfl) (by kernel_rfl) (q26 (d + 0) a.Owner b.Owner w) (eqSt_cons rfl (by kernel_rfl) (by kernel_rfl) (q9 (d + 1) a.Client b.Client w) (eqSt_cons rfl (by kernel_rfl) (by kernel_rfl) (q30 (d + 1) a.Scopes b.Scopes w) (eqSt_nil w _ _ _))))
  have e : (decide (a.Owner = b.Owner) && (decide (a.Client = b.Client) && (decide (a.Scopes = b.Scopes) && true))) = decide (a = b) := by cases a; cases b; rw [Bool.eq_iff_iff]; simp
  rw [e] at h1
  exact h1
theorem q64 (d : Nat) (a b : S_grant_name) (w : World) : (Op.equalIn (d + 2) 64 (.agg (E64.e a).toArray) (.agg (E64.e b).toArray)).run Tryd.prog w = .ok (decide (a = b)) w := by
  have h0 := run_equalIn_st (P := Tryd.prog) w (d + 1) 64 _ (E64.e a).toArray (E64.e b).toArray Tryd.underlying64 (by kernel_rfl)
  have h1 := h0.trans (eqSt_cons rfl (by kernel_rfl) (by kernel_rfl) (q9 (d + 0) a.tenant b.tenant w) (eqSt_cons rfl (by kernel_rfl) (by kernel_rfl) (q9 (d + 0) a.name b.name w) (eqSt_nil w _ _ _)))
  have e : (decide (a.tenant = b.tenant) && (decide (a.name = b.name) && true)) = decide (a = b) := by cases a; cases b; rw [Bool.eq_iff_iff]; simp
  rw [e] at h1
  exact h1
theorem q67 (d : Nat) (a b : S_grant_use) (w : World) : (Op.equalIn (d + 3) 67 (.agg (E67.e a).toArray) (.agg (E67.e b).toArray)).run Tryd.prog w = .ok (decide (a = b)) w := by
  have h0 := run_equalIn_st (P := Tryd.prog) w (d + 2) 67 _ (E67.e a).toArray (E67.e b).toArray Tryd.underlying67 (by kernel_rfl)
  have h1 := h0.trans (eqSt_cons rfl (by kernel_rfl) (by kernel_rfl) (q26 (d + 0) a.Owner b.Owner w) (eqSt_cons rfl (by kernel_rfl) (by kernel_rfl) (q9 (d + 1) a.client b.client w) (eqSt_nil w _ _ _)))
  have e : (decide (a.Owner = b.Owner) && (decide (a.client = b.client) && true)) = decide (a = b) := by cases a; cases b; rw [Bool.eq_iff_iff]; simp
  rw [e] at h1
  exact h1
theorem K9 : KL Tryd.prog 9 kv9 := KL.str Tryd.underlying9
theorem K64 : KL Tryd.prog 64 kv64 := KL.ask Tryd.underlying64 (fun b x w => ((run_ckSt (P := Tryd.prog) w b 9999 64 _ (E64.e x).toArray Tryd.underlying64).trans (ckSt_cons (by kernel_rfl) (ck_str Tryd.underlying9 b 9998 x.tenant w) (ckSt_cons (by kernel_rfl) (ck_str Tryd.underlying9 b 9998 x.name w) (ckSt_nil w b 9999 _))))) (fun _ _ => rfl) (fun a b w => (q64 9998 a b w).trans (by congr 1; rw [decide_eq_decide]; exact eq_comm)) (fun a => by simp [Instr.sameBits, bytes_beq])
theorem K67 : KL Tryd.prog 67 kv67 := KL.ask Tryd.underlying67 (fun b x w => ((run_ckSt (P := Tryd.prog) w b 9999 67 _ (E67.e x).toArray Tryd.underlying67).trans (ckSt_cons (by kernel_rfl) ((run_ckSt (P := Tryd.prog) w b 9998 26 _ (E26.e x.Owner).toArray Tryd.underlying26).trans (ckSt_cons (by kernel_rfl) (ck_str Tryd.underlying9 b 9997 x.Owner.Tenant w) (ckSt_cons (by kernel_rfl) (ck_str Tryd.underlying9 b 9997 x.Owner.User w) (ckSt_nil w b 9998 _)))) (ckSt_cons (by kernel_rfl) (ck_str Tryd.underlying9 b 9998 x.client w) (ckSt_nil w b 9999 _))))) (fun _ _ => rfl) (fun a b w => (q67 9997 a b w).trans (by congr 1; rw [decide_eq_decide]; exact eq_comm)) (fun a => by simp [Instr.sameBits, bytes_beq])
end Go.Proofs.YtjgbakieogadfaaDoor
