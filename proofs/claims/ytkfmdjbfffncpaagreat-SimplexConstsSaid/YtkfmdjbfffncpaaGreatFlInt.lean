/- Whole numbers: what the operations on them yield. -/
import Derived.Test.YtkfmdjbfffncpaaGreatFlRun
set_option linter.unusedVariables false
namespace Go.Fl
open Go.RowKit

def cmpB (op : BinOp) (a b : Int) : Bool :=
  match op with
  | .eql => a == b
  | .neq => a != b
  | .lss => decide (a < b)
  | .leq => decide (a ≤ b)
  | .gtr => decide (a > b)
  | .geq => decide (a ≥ b)
  | _ => false
def isCmp (op : BinOp) : Bool :=
  match op with
  | .eql | .neq | .lss | .leq | .gtr | .geq => true
  | _ => false

theorem wrap_i64 {z : Int} (h0 : -9223372036854775808 ≤ z) (h1 : z ≤ 9223372036854775807) : IntKind.i64.wrap z = z := IntWalk.i64_in _ ⟨h0, h1⟩

section
variable {P : Program} {cx : Cx} {ops : Array Oper} {o : Oper} {σi : St}

theorem run_int (op : BinOp) (T : TypeId) (x y : Operand) (k k' : IntKind) (a b : Int) (w : World) : (do eqGuard op T x y (.int k a) (.int k' b); binOp op T (.int k a) (.int k' b) : Sem Value).run P w = (binOp op T (.int k a) (.int k' b)).run P w := by
  have : (eqGuard op T x y (.int k a) (.int k' b)).run P w = .ok () w := by
    unfold eqGuard
    split <;> rfl
  rw [Sem.run_bind, this]; rfl

theorem op_cmp (op : BinOp) (T : TypeId) (x y : Operand) (U : TypeId) (k : IntKind) (a b : Int) (r : Bool) (ho : o.op = .binOp op T x y U) (hc : isCmp op = true) (hd : ∀ d, o.dst = some d → d < cx.N) (hx : SV σi x = .v (.int k a)) (hy : SV σi y = .v (.int k b)) (hr : cmpB op a b = r) :
    OpW P cx ops o σi ⟨.v (.bool r), [], [], []⟩ := by
  refine op_bin op T x y U _ _ _ ho hd hx hy (fun w => ?_) rfl
  rw [run_int]
  subst hr
  cases op <;> first | (simp [isCmp] at hc; done) | (simp [binOp, Op.intCmp, cmpB])
theorem op_add (T : TypeId) (x y : Operand) (U : TypeId) (k : IntKind) (a b z : Int) (ho : o.op = .binOp .add T x y U) (hd : ∀ d, o.dst = some d → d < cx.N) (hx : SV σi x = .v (.int k a)) (hy : SV σi y = .v (.int k b)) (hz : k.wrap (a + b) = z) :
    OpW P cx ops o σi ⟨.v (.int k z), [], [], []⟩ := by
  refine op_bin .add T x y U _ _ _ ho hd hx hy (fun w => ?_) rfl
  rw [run_int]; simp [binOp, Op.intArith, hz]
theorem op_sub (T : TypeId) (x y : Operand) (U : TypeId) (k : IntKind) (a b z : Int) (ho : o.op = .binOp .sub T x y U) (hd : ∀ d, o.dst = some d → d < cx.N) (hx : SV σi x = .v (.int k a)) (hy : SV σi y = .v (.int k b)) (hz : k.wrap (a - b) = z) :
    OpW P cx ops o σi ⟨.v (.int k z), [], [], []⟩ := by
  refine op_bin .sub T x y U _ _ _ ho hd hx hy (fun w => ?_) rfl
  rw [run_int]; simp [binOp, Op.intArith, hz]
theorem op_mul (T : TypeId) (x y : Operand) (U : TypeId) (k : IntKind) (a b z : Int) (ho : o.op = .binOp .mul T x y U) (hd : ∀ d, o.dst = some d → d < cx.N) (hx : SV σi x = .v (.int k a)) (hy : SV σi y = .v (.int k b)) (hz : k.wrap (a * b) = z) :
    OpW P cx ops o σi ⟨.v (.int k z), [], [], []⟩ := by
  refine op_bin .mul T x y U _ _ _ ho hd hx hy (fun w => ?_) rfl
  rw [run_int]; simp [binOp, Op.intArith, hz]
theorem op_quo (T : TypeId) (x y : Operand) (U : TypeId) (k : IntKind) (a b z : Int) (ho : o.op = .binOp .quo T x y U) (hd : ∀ d, o.dst = some d → d < cx.N) (hx : SV σi x = .v (.int k a)) (hy : SV σi y = .v (.int k b)) (h0 : b ≠ 0) (hz : k.wrap (a.tdiv b) = z) :
    OpW P cx ops o σi ⟨.v (.int k z), [], [], []⟩ := by
  refine op_bin .quo T x y U _ _ _ ho hd hx hy (fun w => ?_) rfl
  rw [run_int]; simp [binOp, Op.intDiv, h0, hz]
theorem op_rem (T : TypeId) (x y : Operand) (U : TypeId) (k : IntKind) (a b z : Int) (ho : o.op = .binOp .rem T x y U) (hd : ∀ d, o.dst = some d → d < cx.N) (hx : SV σi x = .v (.int k a)) (hy : SV σi y = .v (.int k b)) (h0 : b ≠ 0) (hz : a.tmod b = z) :
    OpW P cx ops o σi ⟨.v (.int k z), [], [], []⟩ := by
  refine op_bin .rem T x y U _ _ _ ho hd hx hy (fun w => ?_) rfl
  rw [run_int]; simp [binOp, Op.intDiv, h0, hz]
theorem op_shl (T : TypeId) (x y : Operand) (U : TypeId) (k k' : IntKind) (a b z : Int) (ho : o.op = .binOp .shl T x y U) (hd : ∀ d, o.dst = some d → d < cx.N) (hx : SV σi x = .v (.int k a)) (hy : SV σi y = .v (.int k' b)) (h0 : 0 ≤ b) (h1 : b ≤ k.bits) (hz : k.wrap (a * 2 ^ b.toNat) = z) :
    OpW P cx ops o σi ⟨.v (.int k z), [], [], []⟩ := by
  refine op_bin .shl T x y U _ _ _ ho hd hx hy (fun w => ?_) rfl
  rw [run_int]
  have : min b.toNat k.bits = b.toNat := by omega
  simp [binOp, Op.shift, show ¬ b < 0 by omega, this, hz]
theorem op_shr (T : TypeId) (x y : Operand) (U : TypeId) (k k' : IntKind) (a b z : Int) (ho : o.op = .binOp .shr T x y U) (hd : ∀ d, o.dst = some d → d < cx.N) (hx : SV σi x = .v (.int k a)) (hy : SV σi y = .v (.int k' b)) (h0 : 0 ≤ b) (h1 : b ≤ k.bits) (hz : a.fdiv (2 ^ b.toNat) = z) :
    OpW P cx ops o σi ⟨.v (.int k z), [], [], []⟩ := by
  refine op_bin .shr T x y U _ _ _ ho hd hx hy (fun w => ?_) rfl
  rw [run_int]
  have : min b.toNat k.bits = b.toNat := by omega
  simp [binOp, Op.shift, show ¬ b < 0 by omega, this, hz]
theorem op_bits (op : BinOp) (T : TypeId) (x y : Operand) (U : TypeId) (k : IntKind) (a b z : Int) (ho : o.op = .binOp op T x y U) (hop : op = .and ∨ op = .or ∨ op = .xor ∨ op = .andNot) (hd : ∀ d, o.dst = some d → d < cx.N) (hx : SV σi x = .v (.int k a)) (hy : SV σi y = .v (.int k b))
    (hz : ∀ w, (Op.intBits op k a b).run P w = .ok (.int k z) w) : OpW P cx ops o σi ⟨.v (.int k z), [], [], []⟩ := by
  refine op_bin op T x y U _ _ _ ho hd hx hy (fun w => ?_) rfl
  rw [run_int]
  rcases hop with rfl | rfl | rfl | rfl <;> simp [binOp, hz]
theorem op_not (T : TypeId) (x : Operand) (b r : Bool) (ho : o.op = .unOp .not T x) (hd : ∀ d, o.dst = some d → d < cx.N) (hx : SV σi x = .v (.bool b)) (hr : (!b) = r) : OpW P cx ops o σi ⟨.v (.bool r), [], [], []⟩ := by
  subst hr
  exact op_un .not T x _ _ ho hd hx (fun w => by simp [Op.unary]) rfl
theorem op_neg (T : TypeId) (x : Operand) (k : IntKind) (a z : Int) (ho : o.op = .unOp .neg T x) (hd : ∀ d, o.dst = some d → d < cx.N) (hx : SV σi x = .v (.int k a)) (hz : k.wrap (-a) = z) : OpW P cx ops o σi ⟨.v (.int k z), [], [], []⟩ := by
  subst hz
  exact op_un .neg T x _ _ ho hd hx (fun w => by simp [Op.unary, Op.intArith]) rfl
theorem op_iconv (S T : TypeId) (x : Operand) (k k' : IntKind) (a z : Int) (ho : o.op = .convert S T x) (hd : ∀ d, o.dst = some d → d < cx.N) (hx : SV σi x = .v (.int k a)) (hS : P.underlying S = some (.int k)) (hT : P.underlying T = some (.int k')) (hz : k'.wrap a = z) : OpW P cx ops o σi ⟨.v (.int k' z), [], [], []⟩ := by
  subst hz
  refine op_conv S T x _ _ ho hd hx (fun w => ?_) rfl
  simp [convert, run_underlying hS, run_underlying hT, Conv.intToInt]
end
end Go.Fl
