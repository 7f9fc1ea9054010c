/- Rules in the shape that the printer of walks uses. -/
import Derived.Test.YtkfmdjbfffncpaaGreatFlTy
set_option linter.unusedVariables false
namespace Go.Fl
open Go.RowKit
section
variable {P : Program} {cx : Cx} {ops : Array Oper} {o : Oper} {σi : St}
theorem op_lt (T : TypeId) (x y : Operand) (U : TypeId) (k : IntKind) (a b : Int) (ho : o.op = .binOp .lss T x y U) (hd : ∀ d, o.dst = some d → d < cx.N) (hx : SV σi x = .v (.int k a)) (hy : SV σi y = .v (.int k b)) : OpW P cx ops o σi ⟨.v (.bool (decide (a < b))), [], [], []⟩ :=
  op_cmp .lss T x y U k a b _ ho rfl hd hx hy rfl
theorem op_le (T : TypeId) (x y : Operand) (U : TypeId) (k : IntKind) (a b : Int) (ho : o.op = .binOp .leq T x y U) (hd : ∀ d, o.dst = some d → d < cx.N) (hx : SV σi x = .v (.int k a)) (hy : SV σi y = .v (.int k b)) : OpW P cx ops o σi ⟨.v (.bool (decide (a ≤ b))), [], [], []⟩ :=
  op_cmp .leq T x y U k a b _ ho rfl hd hx hy rfl
theorem op_gt (T : TypeId) (x y : Operand) (U : TypeId) (k : IntKind) (a b : Int) (ho : o.op = .binOp .gtr T x y U) (hd : ∀ d, o.dst = some d → d < cx.N) (hx : SV σi x = .v (.int k a)) (hy : SV σi y = .v (.int k b)) : OpW P cx ops o σi ⟨.v (.bool (decide (b < a))), [], [], []⟩ :=
  op_cmp .gtr T x y U k a b _ ho rfl hd hx hy rfl
theorem op_ge (T : TypeId) (x y : Operand) (U : TypeId) (k : IntKind) (a b : Int) (ho : o.op = .binOp .geq T x y U) (hd : ∀ d, o.dst = some d → d < cx.N) (hx : SV σi x = .v (.int k a)) (hy : SV σi y = .v (.int k b)) : OpW P cx ops o σi ⟨.v (.bool (decide (b ≤ a))), [], [], []⟩ :=
  op_cmp .geq T x y U k a b _ ho rfl hd hx hy rfl
theorem op_eq (T : TypeId) (x y : Operand) (U : TypeId) (k : IntKind) (a b : Int) (ho : o.op = .binOp .eql T x y U) (hd : ∀ d, o.dst = some d → d < cx.N) (hx : SV σi x = .v (.int k a)) (hy : SV σi y = .v (.int k b)) : OpW P cx ops o σi ⟨.v (.bool (decide (a = b))), [], [], []⟩ :=
  op_cmp .eql T x y U k a b _ ho rfl hd hx hy (by simp [cmpB, BEq.beq])
theorem op_ne (T : TypeId) (x y : Operand) (U : TypeId) (k : IntKind) (a b : Int) (ho : o.op = .binOp .neq T x y U) (hd : ∀ d, o.dst = some d → d < cx.N) (hx : SV σi x = .v (.int k a)) (hy : SV σi y = .v (.int k b)) : OpW P cx ops o σi ⟨.v (.bool (!decide (a = b))), [], [], []⟩ :=
  op_cmp .neq T x y U k a b _ ho rfl hd hx hy (by simp [cmpB, bne, BEq.beq])
/-- i64 within bounds -/
theorem op_addN (T : TypeId) (x y : Operand) (U : TypeId) (a b : Int) (ho : o.op = .binOp .add T x y U) (hd : ∀ d, o.dst = some d → d < cx.N) (hx : SV σi x = .v (.int .i64 a)) (hy : SV σi y = .v (.int .i64 b)) (h0 : -9223372036854775808 ≤ a + b ∧ a + b ≤ 9223372036854775807) : OpW P cx ops o σi ⟨.v (.int .i64 (a + b)), [], [], []⟩ :=
  op_add T x y U .i64 a b _ ho hd hx hy (wrap_i64 h0.1 h0.2)
theorem op_subN (T : TypeId) (x y : Operand) (U : TypeId) (a b : Int) (ho : o.op = .binOp .sub T x y U) (hd : ∀ d, o.dst = some d → d < cx.N) (hx : SV σi x = .v (.int .i64 a)) (hy : SV σi y = .v (.int .i64 b)) (h0 : -9223372036854775808 ≤ a - b ∧ a - b ≤ 9223372036854775807) : OpW P cx ops o σi ⟨.v (.int .i64 (a - b)), [], [], []⟩ :=
  op_sub T x y U .i64 a b _ ho hd hx hy (wrap_i64 h0.1 h0.2)
/-- A cut of numbers, to a bound. -/
theorem op_slice_I (T : TypeId) (x : Operand) (lo hi : Option Operand) (l h : Option Int) (k : IntKind) (f : Bool) (e by' : Nat) (xs : List Int) (ho : o.op = .slice T x lo hi none) (hd : ∀ d, o.dst = some d → d < cx.N) (hx : SV σi x = .d (encI k f xs)) (hlo : bnd σi lo = some l) (hhi : bnd σi hi = some h)
    (hT : tEl P T = some (e, 1, by')) (hl : 0 ≤ l.getD 0 ∧ l.getD 0 ≤ h.getD xs.length) (hh : h.getD xs.length ≤ xs.length) :
    OpW P cx ops o σi ⟨.d (encI k f ((xs.drop (l.getD 0).toNat).take ((h.getD xs.length).toNat - (l.getD 0).toNat))), [], [], []⟩ := by
  have := op_slice (P := P) (cx := cx) (ops := ops) (o := o) (σi := σi) T x lo hi l h f xs.length e 1 by' (xs.map fun x => D.v (.int k x)) _ _ ho hd hx hlo hhi hT (by omega) hl hh (by simp) rfl rfl
  have e1 : D.s f ((h.getD xs.length).toNat - (l.getD 0).toNat) (List.take (((h.getD ↑xs.length).toNat - (l.getD 0).toNat) * 1) (List.drop ((l.getD 0).toNat * 1) (List.map (fun x => D.v (Value.int k x)) xs))) = encI k f ((xs.drop (l.getD 0).toNat).take ((h.getD xs.length).toNat - (l.getD 0).toNat)) := by
    unfold encI
    rw [Nat.mul_one, Nat.mul_one, ← List.map_drop, ← List.map_take]
    congr 1
    rw [List.length_take, List.length_drop]
    omega
  rw [e1] at this
  exact this
/-- The head of a cut. -/
theorem op_slice_to (T : TypeId) (x hi : Operand) (h : Int) (kk k : IntKind) (f : Bool) (e by' : Nat) (xs : List Int) (ho : o.op = .slice T x none (some hi) none) (hd : ∀ d, o.dst = some d → d < cx.N) (hx : SV σi x = .d (encI k f xs)) (hhi : SV σi hi = .v (.int kk h))
    (hT : tEl P T = some (e, 1, by')) (h0 : 0 ≤ h ∧ h ≤ xs.length) : OpW P cx ops o σi ⟨.d (encI k f (xs.take h.toNat)), [], [], []⟩ :=
  op_slice_I T x none (some hi) none (some h) k f e by' xs ho hd hx rfl (by simp only [bnd, hhi]) hT ⟨Int.le_refl _, h0.1⟩ h0.2
theorem op_slice_from (T : TypeId) (x lo : Operand) (l : Int) (kk k : IntKind) (f : Bool) (e by' : Nat) (xs : List Int) (ho : o.op = .slice T x (some lo) none none) (hd : ∀ d, o.dst = some d → d < cx.N) (hx : SV σi x = .d (encI k f xs)) (hlo : SV σi lo = .v (.int kk l))
    (hT : tEl P T = some (e, 1, by')) (h0 : 0 ≤ l ∧ l ≤ xs.length) : OpW P cx ops o σi ⟨.d (encI k f (xs.drop l.toNat)), [], [], []⟩ := by
  have := op_slice_I (P := P) (cx := cx) (ops := ops) (o := o) (σi := σi) T x (some lo) none (some l) none k f e by' xs ho hd hx (by simp only [bnd, hlo]) rfl hT h0 (Int.le_refl _)
  rw [List.take_of_length_le (by simp)] at this
  exact this
/-- One number read out of data. -/
theorem op_eload_I (T : TypeId) (x : Operand) (f : Bool) (d : D) (ds : List D) (ho : o.op = .load T x) (hd : ∀ d, o.dst = some d → d < cx.N) (hx : SV σi x = .d (.e f (d :: ds))) (hs : tSz P T = some (1, false)) : OpW P cx ops o σi ⟨.d d, [], [], []⟩ :=
  op_eload T x f _ d ho hd hx hs rfl
theorem CT.lo {g : FuncId} {args args' : List PX} {r : PV} (h : CT P g args r) (hl : args'.map PX.lo = args) : CT P g args' r := by
  subst hl
  intro okC w vs hv
  refine h okC w vs ⟨by simpa using hv.1, fun j u p h1 h2 => ?_⟩
  rw [List.getElem?_map, Option.map_eq_some_iff] at h2
  obtain ⟨p', hp, rfl⟩ := h2
  exact (hv.2 j u p' h1 hp).lo fun f k hk _ => hk
end
end Go.Fl
