import Derived.Test.YtgmgahphjiiceaaGreatLib41
import Derived.Test.YtgmgahphjiiceaaGreatProg
import Derived.Test.YtgmgahphjiiceaaGreatPure
namespace Go.Proofs.YtgmgahphjiiceaaGreat
open Go Go.Proofs L
theorem I3 : Tryz.prog.info? 3 = some Tryz.t3 := by kernel_rfl
theorem I5 : Tryz.prog.info? 5 = some Tryz.t5 := by kernel_rfl
theorem I31 : Tryz.prog.info? 31 = some Tryz.t31 := by kernel_rfl
theorem I64 : Tryz.prog.info? 64 = some Tryz.t64 := by kernel_rfl
theorem I72 : Tryz.prog.info? 72 = some Tryz.t72 := by kernel_rfl
theorem hmix : mixed Tryz.prog := by unfold mixed; kernel_rfl
abbrev E3 := eI 3
abbrev E5 := eU8 5
abbrev E31 : Enc (List UInt8 × Sl) := eD 31
abbrev g31 : List UInt8 → List UInt8 := fun x => x
abbrev E64 : Enc (S_api_Pair × Sl × Sl) := ⟨64, 2, fun x => [x.2.1.val, x.2.2.val], fun _ => rfl, by decide, fun _ v hv => by
  simp only [List.mem_cons,List.not_mem_nil,or_false] at hv
  rcases hv with rfl | rfl <;> rfl⟩
abbrev g64 : S_api_Pair → List UInt8 := fun x => x.Key
abbrev h64 : S_api_Pair → List UInt8 := fun x => x.Value
abbrev E72 : Enc (S_tree_entry × Sl × Sl) := ⟨72, 3, fun x => [x.2.1.val, x.2.2.val, vI x.1.page], fun _ => rfl, by decide, fun _ v hv => by
  simp only [List.mem_cons,List.not_mem_nil,or_false] at hv
  rcases hv with rfl | rfl | rfl <;> rfl⟩
abbrev g72 : S_tree_entry → List UInt8 := fun x => x.key
abbrev h72 : S_tree_entry → List UInt8 := fun x => x.value
abbrev E76 : Enc S_tree_head := ⟨76, 3, fun x => [vI x.root, vI x.free, vI x.fresh], fun _ => rfl, by decide, fun _ v hv => by
  simp only [List.mem_cons,List.not_mem_nil,or_false] at hv
  rcases hv with rfl | rfl | rfl <;> rfl⟩
abbrev E92 : Enc S_tree_fault := ⟨92, 1, fun x => [vI x.e], fun _ => rfl, by decide, fun _ v hv => by
  simp only [List.mem_cons,List.not_mem_nil,or_false] at hv
  rcases hv with rfl <;> rfl⟩
abbrev E187 : Enc (S_block_write × Sl) := ⟨187, 2, fun x => [vI x.1.n, x.2.val], fun _ => rfl, by decide, fun _ v hv => by
  simp only [List.mem_cons,List.not_mem_nil,or_false] at hv
  rcases hv with rfl | rfl <;> rfl⟩
abbrev g187 : S_block_write → List UInt8 := fun x => x.was
abbrev kv3 : Int → Value := fun x => vI x
abbrev vv3 : Int → Value := fun x => vI x
abbrev vv4 : Bool → Value := fun x => vB x
theorem K3 : KL Tryz.prog 3 kv3 := KL.int Tryz.underlying3
end Go.Proofs.YtgmgahphjiiceaaGreat
