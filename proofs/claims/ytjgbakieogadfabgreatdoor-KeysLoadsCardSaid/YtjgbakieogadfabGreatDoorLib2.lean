/-
  Values as Lean data,and what the operators make of them. No program in sight.
-/
import Derived.Test.YtjgbakieogadfabGreatDoorLib1
namespace Go.Proofs.YtjgbakieogadfabGreatDoor.L
open Go

abbrev vI (n:Int):Value := .int .i64 n
abbrev vU8 (x:UInt8):Value := .int .u8 (x.toNat:Int)
abbrev vU32 (x:UInt32):Value := .int .u32 (x.toNat:Int)
abbrev vU64 (x:UInt64):Value := .int .u64 (x.toNat:Int)
abbrev vR (n:Int):Value := .int .i32 n
abbrev vB (b:Bool):Value := .bool b
abbrev vS (l:List UInt8):Value := .string ⟨l.toArray⟩

def W (n:Int):Int:=IntKind.i64.wrap n
theorem W_ite (n:Int):W n=if 9223372036854775808≤n % 18446744073709551616 then n % 18446744073709551616-18446744073709551616 else n % 18446744073709551616:=by
  have h:W n=if (true&&decide (9223372036854775808≤n % 18446744073709551616))=true then n % 18446744073709551616-18446744073709551616 else n % 18446744073709551616:=rfl
  rw [h];simp only [Bool.true_and,decide_eq_true_eq]
theorem W_id {n:Int} (h0 : -9223372036854775808≤n) (h1:n≤9223372036854775807):W n=n:=by
  rw [W_ite];split <;> omega
theorem beq_dec {α:Type} [BEq α] [LawfulBEq α] [DecidableEq α] (a b:α):(a == b)=decide (a=b):=by
  rw [Bool.eq_iff_iff];simp
def Bin (op:BinOp) (a b v:Value):Prop:=∀ (P:Program) (w:World) (t:TypeId) (x y:Operand),
  (do eqGuard op t x y a b;binOp op t a b:Sem Value).run P w = .ok v w

section
variable {x y:Int}
theorem guard_int {op:BinOp} {k k':IntKind} {t:TypeId} {p q:Operand} : eqGuard op t p q (.int k x) (.int k' y)=pure ():=by
  unfold eqGuard;split <;> rfl
theorem bin_int {op:BinOp} {k k':IntKind} {v:Value} (h:∀ (P:Program) (w:World) (t:TypeId),(binOp op t (.int k x) (.int k' y)).run P w = .ok v w):Bin op (.int k x) (.int k' y) v:=by
  intro P w t p q
  rw [guard_int,Sem.run_bind];exact h P w t
theorem bI_add:Bin .add (vI x) (vI y) (vI (W (x+y))):=bin_int fun _ _ _=>rfl
theorem bI_sub:Bin .sub (vI x) (vI y) (vI (W (x-y))):=bin_int fun _ _ _=>rfl
theorem bI_mul:Bin .mul (vI x) (vI y) (vI (W (x*y))):=bin_int fun _ _ _=>rfl
theorem bI_lss:Bin .lss (vI x) (vI y) (vB (decide (x<y))):=bin_int fun _ _ _=>rfl
theorem bI_leq:Bin .leq (vI x) (vI y) (vB (decide (x≤y))):=bin_int fun _ _ _=>rfl
theorem bI_gtr:Bin .gtr (vI x) (vI y) (vB (decide (y<x))):=bin_int fun _ _ _=>rfl
theorem bI_geq:Bin .geq (vI x) (vI y) (vB (decide (y≤x))):=bin_int fun _ _ _=>rfl
theorem bI_eql:Bin .eql (vI x) (vI y) (vB (decide (x=y))):=bin_int fun _ _ _=>by
  show Result.ok (Value.bool (x == y)) _=_;simp [beq_dec]
theorem bI_neq:Bin .neq (vI x) (vI y) (vB (!decide (x=y))):=bin_int fun _ _ _=>by
  show Result.ok (Value.bool (x != y)) _=_;simp [bne,beq_dec]
theorem bI_quo (h:y ≠ 0):Bin .quo (vI x) (vI y) (vI (W (x.tdiv y))):=bin_int fun P w t=>by
  show (Op.intDiv .quo .i64 x y).run P w=_;unfold Op.intDiv;rw [if_neg h];rfl
theorem bI_rem (h:y ≠ 0):Bin .rem (vI x) (vI y) (vI (x.tmod y)):=bin_int fun P w t=>by
  show (Op.intDiv .rem .i64 x y).run P w=_;unfold Op.intDiv;rw [if_neg h];rfl
def shrI (x:Int) (n:Nat):Int:=x.fdiv (2 ^ min n 64)
def andI (x y:Int):Int:=W ((BitVec.ofInt 64 x &&& BitVec.ofInt 64 y).toNat:Int)
theorem bI_and:Bin .and (vI x) (vI y) (vI (andI x y)):=bin_int fun _ _ _=>rfl
theorem bI_shr {k:IntKind} (h:0≤y):Bin .shr (vI x) (.int k y) (vI (shrI x y.toNat)):=bin_int fun P w t=>by
  show (Op.shift .shr .i64 x k y).run P w=_;unfold Op.shift;rw [if_neg (by omega)];rfl
end

section
variable {x y:UInt8} {z:Int}
theorem w8 (n:Int):IntKind.u8.wrap n=n % 256:=rfl
theorem u8_of {n:Int} {x:UInt8} (h:n % 256=x.toNat):Value.int .u8 (IntKind.u8.wrap n)=vU8 x:=by rw [w8,h]
theorem b8_add:Bin .add (vU8 x) (vU8 y) (vU8 (x+y)):=bin_int fun P w t=>by
  show Result.ok (Value.int .u8 (IntKind.u8.wrap _)) w=_;rw [u8_of (x:=x+y)];rw [UInt8.toNat_add];omega
theorem b8_sub:Bin .sub (vU8 x) (vU8 y) (vU8 (x-y)):=bin_int fun P w t=>by
  have:=x.toNat_lt;have:=y.toNat_lt
  show Result.ok (Value.int .u8 (IntKind.u8.wrap _)) w=_;rw [u8_of (x:=x-y)];rw [UInt8.toNat_sub];omega
theorem b8_leq:Bin .leq (vU8 x) (vU8 y) (vB (decide (x≤y))):=bin_int fun P w t=>by
  show Result.ok (Value.bool (decide _)) w=_;simp [UInt8.le_iff_toNat_le]
theorem b8_geq:Bin .geq (vU8 x) (vU8 y) (vB (decide (y≤x))):=bin_int fun P w t=>by
  show Result.ok (Value.bool (decide _)) w=_;simp [UInt8.le_iff_toNat_le]
theorem b8_eql:Bin .eql (vU8 x) (vU8 y) (vB (decide (x=y))):=bin_int fun P w t=>by
  show Result.ok (Value.bool (_ == _)) w=_;simp only [beq_dec,Int.natCast_inj,UInt8.toNat_inj]
theorem b8_neq:Bin .neq (vU8 x) (vU8 y) (vB (!decide (x=y))):=bin_int fun P w t=>by
  show Result.ok (Value.bool (_ != _)) w=_;simp only [bne,beq_dec,Int.natCast_inj,UInt8.toNat_inj]
theorem bv8 (x:UInt8):BitVec.ofInt 8 (x.toNat:Int)=x.toBitVec:=by
  rw [BitVec.ofInt_natCast];apply BitVec.eq_of_toNat_eq;rw [BitVec.toNat_ofNat,UInt8.toNat_toBitVec];exact Nat.mod_eq_of_lt x.toNat_lt
theorem back8 (r:BitVec 8):Value.int .u8 (IntKind.u8.wrap (r.toNat:Int))=vU8 ⟨r⟩:=by
  apply u8_of;have:=r.isLt;show _=((r.toNat:Nat):Int);omega
theorem b8_or:Bin .or (vU8 x) (vU8 y) (vU8 (x ||| y)):=bin_int fun P w t=>by
  show Result.ok (Value.int .u8 (IntKind.u8.wrap ((BitVec.ofInt 8 _ ||| BitVec.ofInt 8 _).toNat:Int))) w=_;rw [bv8,bv8,back8];rfl
theorem b8_xor:Bin .xor (vU8 x) (vU8 y) (vU8 (x ^^^ y)):=bin_int fun P w t=>by
  show Result.ok (Value.int .u8 (IntKind.u8.wrap ((BitVec.ofInt 8 _ ^^^ BitVec.ofInt 8 _).toNat:Int))) w=_;rw [bv8,bv8,back8];rfl
end

section
variable {x y:UInt32} {z:Int}
theorem w32 (n:Int):IntKind.u32.wrap n=n % 4294967296:=rfl
theorem u32_of {n:Int} {x:UInt32} (h:n % 4294967296=x.toNat):Value.int .u32 (IntKind.u32.wrap n)=vU32 x:=by rw [w32,h]
theorem b32_add:Bin .add (vU32 x) (vU32 y) (vU32 (x+y)):=bin_int fun P w t=>by
  show Result.ok (Value.int .u32 (IntKind.u32.wrap _)) w=_;rw [u32_of (x:=x+y)];rw [UInt32.toNat_add];omega
theorem bv32 (x:UInt32):BitVec.ofInt 32 (x.toNat:Int)=x.toBitVec:=by
  rw [BitVec.ofInt_natCast];apply BitVec.eq_of_toNat_eq;rw [BitVec.toNat_ofNat,UInt32.toNat_toBitVec];exact Nat.mod_eq_of_lt x.toNat_lt
theorem back32 (r:BitVec 32):Value.int .u32 (IntKind.u32.wrap (r.toNat:Int))=vU32 ⟨r⟩:=by
  apply u32_of;have:=r.isLt;show _=((r.toNat:Nat):Int);omega
theorem b32_and:Bin .and (vU32 x) (vU32 y) (vU32 (x &&& y)):=bin_int fun P w t=>by
  show Result.ok (Value.int .u32 (IntKind.u32.wrap ((BitVec.ofInt 32 _ &&& BitVec.ofInt 32 _).toNat:Int))) w=_;rw [bv32,bv32,back32];rfl
theorem b32_or:Bin .or (vU32 x) (vU32 y) (vU32 (x ||| y)):=bin_int fun P w t=>by
  show Result.ok (Value.int .u32 (IntKind.u32.wrap ((BitVec.ofInt 32 _ ||| BitVec.ofInt 32 _).toNat:Int))) w=_;rw [bv32,bv32,back32];rfl
theorem b32_xor:Bin .xor (vU32 x) (vU32 y) (vU32 (x ^^^ y)):=bin_int fun P w t=>by
  show Result.ok (Value.int .u32 (IntKind.u32.wrap ((BitVec.ofInt 32 _ ^^^ BitVec.ofInt 32 _).toNat:Int))) w=_;rw [bv32,bv32,back32];rfl
def shl32 (x:UInt32) (n:Nat):UInt32:=⟨x.toBitVec <<< n⟩
def shr32 (x:UInt32) (n:Nat):UInt32:=⟨x.toBitVec >>> n⟩
theorem shl_min {b v n:Nat} : v*2 ^ min n b % 2 ^ b=v*2 ^ n % 2 ^ b:=by
  rcases Nat.le_total n b with h | h
  · rw [Nat.min_eq_left h]
  · rw [Nat.min_eq_right h,Nat.mul_mod_left]
    obtain ⟨k,rfl⟩:=Nat.exists_eq_add_of_le h
    rw [Nat.pow_add,Nat.mul_comm (2 ^ b),← Nat.mul_assoc,Nat.mul_mod_left]
theorem shr_min {b v n:Nat} (hv:v<2 ^ b):v / 2 ^ min n b=v / 2 ^ n:=by
  rcases Nat.le_total n b with h | h
  · rw [Nat.min_eq_left h]
  · rw [Nat.min_eq_right h,Nat.div_eq_of_lt hv,Nat.div_eq_of_lt (Nat.lt_of_lt_of_le hv (Nat.pow_le_pow_right (by omega) h))]
theorem fdiv_pow (v n:Nat):Int.fdiv (v:Int) (2 ^ n)=((v / 2 ^ n:Nat):Int):=by
  rw [Int.fdiv_eq_ediv_of_nonneg _ (by exact_mod_cast Nat.zero_le _)];push_cast;rfl
theorem shl_val {b v n:Nat} {k:IntKind} (hk:∀ m:Int,k.wrap m=m % ((2 ^ b:Nat):Int)) (r:BitVec b) (hr:r=BitVec.ofNat b v <<< n) (hv:v<2 ^ b) :
    k.wrap ((v:Int)*2 ^ min n b)=(r.toNat:Int):=by
  rw [hk,hr]
  have:((v:Int)*2 ^ min n b)=((v*2 ^ min n b:Nat):Int):=by push_cast;rfl
  rw [this,← Int.natCast_emod,shl_min]
  simp [BitVec.toNat_shiftLeft,Nat.shiftLeft_eq,Nat.mod_eq_of_lt hv]
theorem b32_shl {k:IntKind} (h:0≤z):Bin .shl (vU32 x) (.int k z) (vU32 (shl32 x z.toNat)):=bin_int fun P w t=>by
  show (Op.shift .shl .u32 _ k z).run P w=_;unfold Op.shift;rw [if_neg (by omega)]
  show Result.ok (Value.int .u32 (IntKind.u32.wrap ((x.toNat:Int)*2 ^ min z.toNat 32))) w=_
  rw [shl_val (b:=32) (fun m=>w32 m) (x.toBitVec <<< z.toNat) _ x.toNat_lt]
  · rfl
  · congr 1;apply BitVec.eq_of_toNat_eq;simp
theorem b32_shr {k:IntKind} (h:0≤z):Bin .shr (vU32 x) (.int k z) (vU32 (shr32 x z.toNat)):=bin_int fun P w t=>by
  show (Op.shift .shr .u32 _ k z).run P w=_;unfold Op.shift;rw [if_neg (by omega)]
  show Result.ok (Value.int .u32 (Int.fdiv (x.toNat:Int) (2 ^ min z.toNat 32))) w=_
  rw [fdiv_pow,shr_min x.toNat_lt]
  have:(shr32 x z.toNat).toNat=x.toNat / 2 ^ z.toNat:=by
    show (x.toBitVec >>> z.toNat).toNat=_;simp [BitVec.toNat_ushiftRight,Nat.shiftRight_eq_div_pow]
  rw [← this]
end
section
variable {x y:UInt8} {z:Int}
end
section
variable {x y:UInt64} {z:Int}
theorem w64u (n:Int):IntKind.u64.wrap n=n % 18446744073709551616:=rfl
theorem u64_of {n:Int} {x:UInt64} (h:n % 18446744073709551616=x.toNat):Value.int .u64 (IntKind.u64.wrap n)=vU64 x:=by rw [w64u,h]
theorem b64_add:Bin .add (vU64 x) (vU64 y) (vU64 (x+y)):=bin_int fun P w t=>by
  show Result.ok (Value.int .u64 (IntKind.u64.wrap _)) w=_;rw [u64_of (x:=x+y)];rw [UInt64.toNat_add];omega
theorem b64_mul:Bin .mul (vU64 x) (vU64 y) (vU64 (x*y)):=bin_int fun P w t=>by
  show Result.ok (Value.int .u64 (IntKind.u64.wrap _)) w=_;rw [u64_of (x:=x*y)];rw [UInt64.toNat_mul,← Int.natCast_mul];omega
theorem b64_sub:Bin .sub (vU64 x) (vU64 y) (vU64 (x-y)):=bin_int fun P w t=>by
  have:=x.toNat_lt;have:=y.toNat_lt
  show Result.ok (Value.int .u64 (IntKind.u64.wrap _)) w=_;rw [u64_of (x:=x-y)];rw [UInt64.toNat_sub];omega
theorem b64_geq:Bin .geq (vU64 x) (vU64 y) (vB (decide (y≤x))):=bin_int fun P w t=>by
  show Result.ok (Value.bool (decide _)) w=_;simp [UInt64.le_iff_toNat_le]
theorem bv64 (x:UInt64):BitVec.ofInt 64 (x.toNat:Int)=x.toBitVec:=by
  rw [BitVec.ofInt_natCast];apply BitVec.eq_of_toNat_eq;rw [BitVec.toNat_ofNat,UInt64.toNat_toBitVec];exact Nat.mod_eq_of_lt x.toNat_lt
theorem back64 (r:BitVec 64):Value.int .u64 (IntKind.u64.wrap (r.toNat:Int))=vU64 ⟨r⟩:=by
  apply u64_of;have:=r.isLt;show _=((r.toNat:Nat):Int);omega
theorem b64_and:Bin .and (vU64 x) (vU64 y) (vU64 (x &&& y)):=bin_int fun P w t=>by
  show Result.ok (Value.int .u64 (IntKind.u64.wrap ((BitVec.ofInt 64 _ &&& BitVec.ofInt 64 _).toNat:Int))) w=_;rw [bv64,bv64,back64];rfl
theorem b64_or:Bin .or (vU64 x) (vU64 y) (vU64 (x ||| y)):=bin_int fun P w t=>by
  show Result.ok (Value.int .u64 (IntKind.u64.wrap ((BitVec.ofInt 64 _ ||| BitVec.ofInt 64 _).toNat:Int))) w=_;rw [bv64,bv64,back64];rfl
theorem b64_lss:Bin .lss (vU64 x) (vU64 y) (vB (decide (x<y))):=bin_int fun P w t=>by
  show Result.ok (Value.bool (decide _)) w=_;simp [UInt64.lt_iff_toNat_lt]
theorem b64_gtr:Bin .gtr (vU64 x) (vU64 y) (vB (decide (y<x))):=bin_int fun P w t=>by
  show Result.ok (Value.bool (decide _)) w=_;simp [UInt64.lt_iff_toNat_lt]
theorem b64_eql:Bin .eql (vU64 x) (vU64 y) (vB (decide (x=y))):=bin_int fun P w t=>by
  show Result.ok (Value.bool (_ == _)) w=_;simp only [beq_dec,Int.natCast_inj,UInt64.toNat_inj]
def shl64 (x:UInt64) (n:Nat):UInt64:=⟨x.toBitVec <<< n⟩
def shr64 (x:UInt64) (n:Nat):UInt64:=⟨x.toBitVec >>> n⟩
theorem b64_shl {k:IntKind} (h:0≤z):Bin .shl (vU64 x) (.int k z) (vU64 (shl64 x z.toNat)):=bin_int fun P w t=>by
  show (Op.shift .shl .u64 _ k z).run P w=_;unfold Op.shift;rw [if_neg (by omega)]
  show Result.ok (Value.int .u64 (IntKind.u64.wrap ((x.toNat:Int)*2 ^ min z.toNat 64))) w=_
  rw [shl_val (b:=64) (fun m=>w64u m) (x.toBitVec <<< z.toNat) _ x.toNat_lt]
  · rfl
  · congr 1;apply BitVec.eq_of_toNat_eq;simp
theorem b64_shr {k:IntKind} (h:0≤z):Bin .shr (vU64 x) (.int k z) (vU64 (shr64 x z.toNat)):=bin_int fun P w t=>by
  show (Op.shift .shr .u64 _ k z).run P w=_;unfold Op.shift;rw [if_neg (by omega)]
  show Result.ok (Value.int .u64 (Int.fdiv (x.toNat:Int) (2 ^ min z.toNat 64))) w=_
  rw [fdiv_pow,shr_min x.toNat_lt]
  have:(shr64 x z.toNat).toNat=x.toNat / 2 ^ z.toNat:=by
    show (x.toBitVec >>> z.toNat).toNat=_;simp [BitVec.toNat_ushiftRight,Nat.shiftRight_eq_div_pow]
  rw [← this]
end

theorem toList_mk (l:List UInt8):(ByteArray.mk l.toArray).toList=l:=ByteArray.toList_mk l
def ltS (x y:List UInt8):Bool:=Op.bytesLess x y
section
variable {x y:List UInt8}
theorem bin_str {op:BinOp} {v:Value} (h:∀ (P:Program) (w:World),(Op.stringOp op ⟨x.toArray⟩ ⟨y.toArray⟩).run P w = .ok v w):Bin op (vS x) (vS y) v:=by
  intro P w t p q
  have:eqGuard op t p q (vS x) (vS y)=pure ():=by unfold eqGuard;split <;> rfl
  rw [this,Sem.run_bind]
  have:binOp op t (vS x) (vS y)=Op.stringOp op ⟨x.toArray⟩ ⟨y.toArray⟩:=by cases op <;> rfl
  simp only [Sem.run_pure,Result.andThen_ok,this,h]
theorem bS_eql:Bin .eql (vS x) (vS y) (vB (decide (x=y))):=bin_str fun P w=>by
  simp only [Op.stringOp,toList_mk,Sem.run_pure,beq_dec]
theorem bS_neq:Bin .neq (vS x) (vS y) (vB (!decide (x=y))):=bin_str fun P w=>by
  simp only [Op.stringOp,toList_mk,Sem.run_pure,beq_dec]
theorem bS_lss:Bin .lss (vS x) (vS y) (vB (ltS x y)):=bin_str fun P w=>by
  simp only [Op.stringOp,toList_mk,Sem.run_pure,ltS]
theorem bS_geq:Bin .geq (vS x) (vS y) (vB (!ltS x y)):=bin_str fun P w=>by
  simp only [Op.stringOp,toList_mk,Sem.run_pure,ltS]
theorem bS_gtr:Bin .gtr (vS x) (vS y) (vB (!(ltS x y||decide (x=y)))):=bin_str fun P w=>by
  simp only [Op.stringOp,toList_mk,Sem.run_pure,ltS,beq_dec]
theorem bS_add (h:x.length+y.length≤9223372036854775807):Bin .add (vS x) (vS y) (vS (x ++ y)):=bin_str fun P w=>by
  unfold Op.stringOp
  have hs:((ByteArray.mk x.toArray).size+(ByteArray.mk y.toArray).size)=x.length+y.length:=by simp [ByteArray.size]
  rw [hs]
  simp only [show IntKind.max .i64=9223372036854775807 from rfl]
  rw [if_neg (by omega)]
  simp only [Sem.run_pure]
  have:∀ a b:ByteArray,a.data=b.data→a=b:=fun a b h=>by cases a;cases b;simp_all
  rw [this (_++_) ⟨(x++y).toArray⟩ (by simp)]
end
end Go.Proofs.YtjgbakieogadfabGreatDoor.L
