/-
  Values as Lean data,and what the operators make of them. No program in sight.
-/
import Derived.Test.YtgmgahphjiiceaaGreatLib1
namespace Go.Proofs.YtgmgahphjiiceaaGreat.L
open Go

abbrev vI (n : Int) : Value := .int .i64 n
abbrev vU8 (x : UInt8) : Value := .int .u8 (x.toNat : Int)
abbrev vU64 (x : UInt64) : Value := .int .u64 (x.toNat : Int)
abbrev vB (b : Bool) : Value := .bool b
abbrev vS (l : List UInt8) : Value := .string ⟨l.toArray⟩

def W (n : Int) : Int := IntKind.i64.wrap n
theorem W_ite (n : Int) : W n = if 9223372036854775808 ≤ n % 18446744073709551616 then n % 18446744073709551616 - 18446744073709551616 else n % 18446744073709551616 := by
  have h:W n=if (true && decide (9223372036854775808≤n % 18446744073709551616))=true then n % 18446744073709551616 - 18446744073709551616 else n % 18446744073709551616:=rfl
  rw [h];simp only [Bool.true_and,decide_eq_true_eq]
theorem W_id {n : Int} (h0 : -9223372036854775808 ≤ n) (h1 : n ≤ 9223372036854775807) : W n = n := by
  rw [W_ite];split <;> omega
theorem beq_dec {α : Type} [BEq α] [LawfulBEq α] [DecidableEq α] (a b : α) : (a == b) = decide (a = b) := by
  rw [Bool.eq_iff_iff];simp
def Bin (op : BinOp) (a b v : Value) : Prop := ∀ (P : Program) (w : World) (t : TypeId) (x y : Operand),
  (do eqGuard op t x y a b;binOp op t a b:Sem Value).run P w = .ok v w

section
variable {x y : Int}
theorem guard_int {op : BinOp} {k k' : IntKind} {t : TypeId} {p q : Operand} : eqGuard op t p q (.int k x) (.int k' y) = pure () := by
  unfold eqGuard;split <;> rfl
theorem bin_int {op : BinOp} {k k' : IntKind} {v : Value} (h : ∀ (P : Program) (w : World) (t : TypeId), (binOp op t (.int k x) (.int k' y)).run P w = .ok v w) : Bin op (.int k x) (.int k' y) v := by
  intro P w t p q
  rw [guard_int,Sem.run_bind];exact h P w t
theorem bI_add : Bin .add (vI x) (vI y) (vI (W (x + y))) := bin_int fun _ _ _ => rfl
theorem bI_sub : Bin .sub (vI x) (vI y) (vI (W (x - y))) := bin_int fun _ _ _ => rfl
theorem bI_mul : Bin .mul (vI x) (vI y) (vI (W (x * y))) := bin_int fun _ _ _ => rfl
theorem bI_lss : Bin .lss (vI x) (vI y) (vB (decide (x < y))) := bin_int fun _ _ _ => rfl
theorem bI_leq : Bin .leq (vI x) (vI y) (vB (decide (x ≤ y))) := bin_int fun _ _ _ => rfl
theorem bI_gtr : Bin .gtr (vI x) (vI y) (vB (decide (y < x))) := bin_int fun _ _ _ => rfl
theorem bI_geq : Bin .geq (vI x) (vI y) (vB (decide (y ≤ x))) := bin_int fun _ _ _ => rfl
theorem bI_eql : Bin .eql (vI x) (vI y) (vB (decide (x = y))) := bin_int fun _ _ _ => by
  show Result.ok (Value.bool (x == y)) _=_;simp [beq_dec]
theorem bI_neq : Bin .neq (vI x) (vI y) (vB (!decide (x = y))) := bin_int fun _ _ _ => by
  show Result.ok (Value.bool (x != y)) _=_;simp [bne,beq_dec]
def shlI (x : Int) (n : Nat) : Int := W (x * 2 ^ min n 64)
def shrI (x : Int) (n : Nat) : Int := x.fdiv (2 ^ min n 64)
def orI (x y : Int) : Int := W ((BitVec.ofInt 64 x ||| BitVec.ofInt 64 y).toNat : Int)
theorem bI_or : Bin .or (vI x) (vI y) (vI (orI x y)) := bin_int fun _ _ _ => rfl
theorem bI_shl {k : IntKind} (h : 0 ≤ y) : Bin .shl (vI x) (.int k y) (vI (shlI x y.toNat)) := bin_int fun P w t => by
  show (Op.shift .shl .i64 x k y).run P w=_;unfold Op.shift;rw [if_neg (by omega)];rfl
theorem bI_shr {k : IntKind} (h : 0 ≤ y) : Bin .shr (vI x) (.int k y) (vI (shrI x y.toNat)) := bin_int fun P w t => by
  show (Op.shift .shr .i64 x k y).run P w=_;unfold Op.shift;rw [if_neg (by omega)];rfl
end

section
variable {x y : UInt8} {z : Int}
theorem w8 (n : Int) : IntKind.u8.wrap n = n % 256 := rfl
theorem u8_of {n : Int} {x : UInt8} (h : n % 256 = x.toNat) : Value.int .u8 (IntKind.u8.wrap n) = vU8 x := by rw [w8, h]
theorem b8_eql : Bin .eql (vU8 x) (vU8 y) (vB (decide (x = y))) := bin_int fun P w t => by
  show Result.ok (Value.bool (_ == _)) w=_;simp only [beq_dec,Int.natCast_inj,UInt8.toNat_inj]
theorem b8_neq : Bin .neq (vU8 x) (vU8 y) (vB (!decide (x = y))) := bin_int fun P w t => by
  show Result.ok (Value.bool (_ != _)) w=_;simp only [bne,beq_dec,Int.natCast_inj,UInt8.toNat_inj]
end

section
variable {x y : UInt32} {z : Int}
theorem shr_min {b v n : Nat} (hv : v < 2 ^ b) : v / 2 ^ min n b = v / 2 ^ n := by
  rcases Nat.le_total n b with h | h
  · rw [Nat.min_eq_left h]
  · rw [Nat.min_eq_right h,Nat.div_eq_of_lt hv,Nat.div_eq_of_lt (Nat.lt_of_lt_of_le hv (Nat.pow_le_pow_right (by omega) h))]
theorem fdiv_pow (v n : Nat) : Int.fdiv (v : Int) (2 ^ n) = ((v / 2 ^ n : Nat) : Int) := by
  rw [Int.fdiv_eq_ediv_of_nonneg _ (by exact_mod_cast Nat.zero_le _)];push_cast;rfl
end
section
variable {x y : UInt8} {z : Int}
end
section
variable {x y : UInt64} {z : Int}
theorem w64u (n : Int) : IntKind.u64.wrap n = n % 18446744073709551616 := rfl
theorem u64_of {n : Int} {x : UInt64} (h : n % 18446744073709551616 = x.toNat) : Value.int .u64 (IntKind.u64.wrap n) = vU64 x := by rw [w64u, h]
theorem b64_geq : Bin .geq (vU64 x) (vU64 y) (vB (decide (y ≤ x))) := bin_int fun P w t => by
  show Result.ok (Value.bool (decide _)) w=_;simp [UInt64.le_iff_toNat_le]
def shr64 (x : UInt64) (n : Nat) : UInt64 := ⟨x.toBitVec >>> n⟩
theorem b64_shr {k : IntKind} (h : 0 ≤ z) : Bin .shr (vU64 x) (.int k z) (vU64 (shr64 x z.toNat)) := bin_int fun P w t => by
  show (Op.shift .shr .u64 _ k z).run P w=_;unfold Op.shift;rw [if_neg (by omega)]
  show Result.ok (Value.int .u64 (Int.fdiv (x.toNat:Int) (2 ^ min z.toNat 64))) w=_
  rw [fdiv_pow,shr_min x.toNat_lt]
  have:(shr64 x z.toNat).toNat=x.toNat / 2 ^ z.toNat:=by
    show (x.toBitVec >>> z.toNat).toNat=_;simp [BitVec.toNat_ushiftRight,Nat.shiftRight_eq_div_pow]
  rw [← this]
end

theorem toList_mk (l : List UInt8) : (ByteArray.mk l.toArray).toList = l := ByteArray.toList_mk l
section
variable {x y : List UInt8}
theorem bin_str {op : BinOp} {v : Value} (h : ∀ (P : Program) (w : World), (Op.stringOp op ⟨x.toArray⟩ ⟨y.toArray⟩).run P w = .ok v w) : Bin op (vS x) (vS y) v := by
  intro P w t p q
  have:eqGuard op t p q (vS x) (vS y)=pure ():=by unfold eqGuard;split <;> rfl
  rw [this,Sem.run_bind]
  have:binOp op t (vS x) (vS y)=Op.stringOp op ⟨x.toArray⟩ ⟨y.toArray⟩:=by cases op <;> rfl
  simp only [Sem.run_pure,Result.andThen_ok,this,h]
theorem bS_eql : Bin .eql (vS x) (vS y) (vB (decide (x = y))) := bin_str fun P w => by
  simp only [Op.stringOp,toList_mk,Sem.run_pure,beq_dec]
end
end Go.Proofs.YtgmgahphjiiceaaGreat.L
