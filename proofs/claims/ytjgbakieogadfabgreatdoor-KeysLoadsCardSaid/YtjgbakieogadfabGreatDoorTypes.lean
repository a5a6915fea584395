import Derived.Test.YtjgbakieogadfabGreatDoorLib29
import Derived.Test.YtjgbakieogadfabGreatDoorProg
import Derived.Test.YtjgbakieogadfabGreatDoorPure
import Derived.Test.YtjgbakieogadfabGreatDoorShelf
namespace Go.Proofs.YtjgbakieogadfabGreatDoor
open Go Go.Proofs L
theorem I3:Tryz.prog.info? 3 = some Tryz.t3:=by kernel_rfl
theorem I4:Tryz.prog.info? 4 = some Tryz.t4:=by kernel_rfl
theorem I5:Tryz.prog.info? 5 = some Tryz.t5:=by kernel_rfl
theorem I9:Tryz.prog.info? 9 = some Tryz.t9:=by kernel_rfl
theorem I25:Tryz.prog.info? 25 = some Tryz.t25:=by kernel_rfl
theorem I27:Tryz.prog.info? 27 = some Tryz.t27:=by kernel_rfl
theorem I71:Tryz.prog.info? 71 = some Tryz.t71:=by kernel_rfl
theorem I76:Tryz.prog.info? 76 = some Tryz.t76:=by kernel_rfl
theorem I78:Tryz.prog.info? 78 = some Tryz.t78:=by kernel_rfl
theorem I85:Tryz.prog.info? 85 = some Tryz.t85:=by kernel_rfl
theorem I132:Tryz.prog.info? 132 = some Tryz.t132:=by kernel_rfl
theorem hmix:mixed Tryz.prog:=by unfold mixed; kernel_rfl
abbrev E3:=eI 3
abbrev E4:=eB 4
abbrev E5:=eU8 5
abbrev E9:=eS 9
abbrev E25:=eL 25
abbrev E27:Enc (S_hl09_Deed×Sl):=⟨27,6,fun x=>[vI x.1.Kind,vS x.1.Tenant,vS x.1.Purpose,x.2.val,vI x.1.N_,vB x.1.Last],fun _=>rfl,by decide,fun _ v hv=>by
  simp only [List.mem_cons,List.not_mem_nil,or_false] at hv
  rcases hv with rfl | rfl | rfl | rfl | rfl | rfl <;> rfl⟩
abbrev g27:S_hl09_Deed→List UInt8:=fun x=>x.Bytes
abbrev E71:Enc S_keys_purpose:=⟨71,2,fun x=>[vS x.tenant,vS x.name],fun _=>rfl,by decide,fun _ v hv=>by
  simp only [List.mem_cons,List.not_mem_nil,or_false] at hv
  rcases hv with rfl | rfl <;> rfl⟩
abbrev E76:=eU64 76
abbrev E78:Enc (S_api_Row×Sl):=⟨78,2,fun x=>[vS x.1.Key,x.2.val],fun _=>rfl,by decide,fun _ v hv=>by
  simp only [List.mem_cons,List.not_mem_nil,or_false] at hv
  rcases hv with rfl | rfl <;> rfl⟩
abbrev g78:S_api_Row→List (List UInt8):=fun x=>x.Columns
abbrev E85:Enc S_hr09_version:=⟨85,3,fun x=>[vS x.tenant,vS x.purpose,vI x.n],fun _=>rfl,by decide,fun _ v hv=>by
  simp only [List.mem_cons,List.not_mem_nil,or_false] at hv
  rcases hv with rfl | rfl | rfl <;> rfl⟩
abbrev E132:=eU32 132
abbrev kv9:List UInt8→Value:=fun x=>vS x
abbrev kv71:S_keys_purpose→Value:=fun x => .agg (E71.e x).toArray
abbrev vv3:Int→Value:=fun x=>vI x
abbrev vv4:Bool→Value:=fun x=>vB x
theorem q9 (d:Nat) (a b:List UInt8) (w:World):(Op.equalIn (d+1) 9 (vS a) (vS b)).run Tryz.prog w = .ok (decide (a = b)) w:=eq_str Tryz.underlying9 d a b w
theorem q71 (d:Nat) (a b:S_keys_purpose) (w:World):(Op.equalIn (d+2) 71 (.agg (E71.e a).toArray) (.agg (E71.e b).toArray)).run Tryz.prog w = .ok (decide (a = b)) w:=by
  have h0:=run_equalIn_st (P:=Tryz.prog) w (d+1) 71 _ (E71.e a).toArray (E71.e b).toArray Tryz.underlying71 (by kernel_rfl)
  have h1:=h0.trans (eqSt_cons rfl (by kernel_rfl) (by kernel_rfl) (q9 (d+0) a.tenant b.tenant w) (eqSt_cons rfl (by kernel_rfl) (by kernel_rfl) (q9 (d+0) a.name b.name w) (eqSt_nil w _ _ _)))
  have e:(decide (a.tenant = b.tenant)&&(decide (a.name = b.name)&&true)) = decide (a = b):=by cases a; cases b; rw [Bool.eq_iff_iff]; simp
  rw [e] at h1
  exact h1
theorem K9:KL Tryz.prog 9 kv9:=KL.str Tryz.underlying9
theorem K71:KL Tryz.prog 71 kv71:=KL.ask Tryz.underlying71 (fun b x w=>((run_ckSt (P:=Tryz.prog) w b 9999 71 _ (E71.e x).toArray Tryz.underlying71).trans (ckSt_cons (by kernel_rfl) (ck_str Tryz.underlying9 b 9998 x.tenant w) (ckSt_cons (by kernel_rfl) (ck_str Tryz.underlying9 b 9998 x.name w) (ckSt_nil w b 9999 _))))) (fun _ _=>rfl) (fun a b w=>(q71 9998 a b w).trans (by congr 1; rw [decide_eq_decide]; exact eq_comm)) (fun a=>by simp [Instr.sameBits,bytes_beq])
end Go.Proofs.YtjgbakieogadfabGreatDoor
