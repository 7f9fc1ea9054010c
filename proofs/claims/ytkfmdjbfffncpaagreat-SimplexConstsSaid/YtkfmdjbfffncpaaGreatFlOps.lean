/- Operations that make a value and leave the world alone. -/
import Derived.Test.YtkfmdjbfffncpaaGreatFlWp
set_option linter.unusedVariables false
namespace Go.Fl
open Go.RowKit

section
variable {P : Program} {cx : Cx} {ops : Array Oper} {o : Oper} {σi : St}

/-- The operation itself, its guard apart. -/
def OpW (P : Program) (cx : Cx) (ops : Array Oper) (o : Oper) (σi : St) (ev : Ev) : Prop :=
  ∀ σ a w, (∀ t ∈ o.looksAt ops, σ.S t = σi.S t) → (∀ b ∈ ev.rd, σ.B b = σi.B b) → Free σ o.dst ev.nw → Con cx σ a w →
    ∀ (K : Act → World → Prop) (Q : Exit → Act → World → Prop), (∀ a' w', Con cx (σ.app o.dst ev) a' w' → K a' w') → o.wp P a w K Q

theorem OpOK.plain {ev : Ev} (hg : o.guard = none) (h : OpW P cx ops o σi ev) : OpOK P cx ops o σi ev := fun σ a w h1 h2 h3 h4 K Q hK => by
  rw [if_pos (by simp [Region.wanted, hg])]
  exact h σ a w h1 h2 h3 h4 K Q hK

theorem guard_yields {a : Act} {w : World} {σ : St} {g t : Nat} {want b : Bool} (hc : Con cx σ a w) (ht : (ops[g]?).bind (·.dst) = some t) (hs : σ.S t = .v (.bool b)) (hN : t < cx.N) : yielded ops a.tmps g = some b := by
  obtain ⟨μ, hc⟩ := hc
  have h1 := con_eval hc hs
  unfold yielded
  rw [ht]
  simp only [Option.bind_some]
  have : a.tmps[t]? = some (.bool b) := by
    have hlt : t < a.tmps.size := by rw [hc.size]; exact hN
    rw [Array.getD_eq_getD_getElem?, Array.getElem?_eq_getElem hlt] at h1
    rw [Array.getElem?_eq_getElem hlt]
    simpa using h1
  rw [this]
theorem OpOK.yes {ev : Ev} (g : Nat) (want : Bool) (t : Nat) (hg : o.guard = some (g, want)) (ht : (ops[g]?).bind (·.dst) = some t) (hN : t < cx.N) (hs : σi.S t = .v (.bool want)) (h : OpW P cx ops o σi ev) : OpOK P cx ops o σi ev := fun σ a w h1 h2 h3 h4 K Q hK => by
  have ha : σ.S t = .v (.bool want) := by
    rw [h1 t ?_, hs]
    unfold Oper.looksAt
    rw [hg]
    simp only [ht]
    exact List.mem_append_right _ (by simp)
  rw [if_pos (by simp [Region.wanted, hg, guard_yields (want := want) h4 ht ha hN])]
  exact h σ a w h1 h2 h3 h4 K Q hK

theorem conc_put {σ : St} {μ : Nat → Option Value} {a : Act} {w : World} {v : Value} {av : AV} (hc : Conc cx σ μ a w) (hd : ∀ d, o.dst = some d → d < cx.N) (h : RdA w (okOf cx σ μ) μ v av) :
    Con cx (σ.app o.dst ⟨av, [], [], []⟩) (a.put o.dst v) w := by
  have hok : okOf cx (σ.app o.dst ⟨av, [], [], []⟩) μ = okOf cx σ μ := by
    funext f k; simp [okOf, St.app, Ev.uB]
  refine ⟨μ, ?_, ?_, hc.below, fun t => ?_, fun b o' ho => ?_, fun b b' v v' k h1 h2 => ?_, hc.fixed, fun b v k h1 => hc.unfix b v k (by simpa [St.app, Ev.uB] using h1), hc.badfx, hc.named⟩
  · cases hd' : o.dst <;> simp [Act.put, hc.defers]
  · cases hd' : o.dst <;> simp [Act.put, hc.size]
  · rw [hok]
    cases hd' : o.dst with
    | none => simpa [Act.put, St.app, Ev.uS] using hc.slots t
    | some d =>
      have hlt := hd d hd'
      simp only [Act.put, St.app, Ev.uS]
      by_cases hdt : d = t
      · subst hdt
        simp only [if_true, Option.getD_some]
        rw [Array.getD_eq_getD_getElem?, Array.getElem?_setIfInBounds_self_of_lt (by rw [hc.size]; exact hlt)]
        exact h
      · have : ¬ (some d = some t) := fun e => hdt (by injection e)
        rw [if_neg this, Option.getD_none, Array.getD_eq_getD_getElem?, Array.getElem?_setIfInBounds_ne hdt, ← Array.getD_eq_getD_getElem?]
        exact hc.slots t
  · rw [hok]
    exact hc.objs b o' (by simpa [St.app, Ev.uB] using ho)
  · exact hc.apart b b' v v' k (by simpa [St.app, Ev.uB] using h1) (by simpa [St.app, Ev.uB] using h2)

theorem OpOK.no (g : Nat) (want : Bool) (t : Nat) (hg : o.guard = some (g, want)) (ht : (ops[g]?).bind (·.dst) = some t) (hN : t < cx.N) (hs : σi.S t = .v (.bool (!want))) (hd : ∀ d, o.dst = some d → d < cx.N) : OpOK P cx ops o σi ⟨.c .junk, [], [], []⟩ := fun σ a w h1 h2 h3 h4 K Q hK => by
  have ha : σ.S t = .v (.bool (!want)) := by
    rw [h1 t ?_, hs]
    unfold Oper.looksAt
    rw [hg]
    simp only [ht]
    exact List.mem_append_right _ (by simp)
  rw [if_neg (by simp [Region.wanted, hg, guard_yields (want := want) h4 ht ha hN])]
  obtain ⟨μ, h4⟩ := h4
  exact hK _ _ (conc_put h4 hd (.none _))

/-! ### Operands -/
def constX : Value → Ce
  | .slice none 0 0 => .nil
  | v => .one (.v v)
def SV (σ : St) : Operand → AV
  | .tmp t => σ.S t
  | .const v => if v.oneCell' then .c (constX v) else .c .junk
  | .global _ => .c .junk
  | .func f => .v (.func (.func f) #[] #[])
theorem constX_rd (w : World) (ok : Bool → Nat → Prop) (μ : Nat → Option Value) (v : Value) (h : v.oneCell' = true) : RdC w ok μ v (constX v) := by
  unfold constX
  split
  · exact .nil
  · exact .one _ _ (.v _ h)
theorem sv_rd {σ : St} {μ : Nat → Option Value} {a : Act} {w : World} (hc : Conc cx σ μ a w) (x : Operand) : RdA w (okOf cx σ μ) μ (a.eval x) (SV σ x) := by
  cases x with
  | tmp t => exact hc.slots t
  | const v =>
    simp only [SV]
    split
    · exact .c _ _ (constX_rd _ _ _ v (by assumption))
    · exact .none _
  | global g => exact .none _
  | func f => exact .c _ _ (.one _ _ (.v _ rfl))
/-- The operand is one that the operation looks at. -/
theorem sv_same {σ : St} (h : ∀ t ∈ o.looksAt ops, σ.S t = σi.S t) {x : Operand} (hx : x ∈ o.op.operands.toList) : SV σ x = SV σi x := by
  cases x with
  | tmp t =>
    refine h t ?_
    unfold Oper.looksAt
    exact List.mem_append_left _ (List.mem_filterMap.2 ⟨.tmp t, hx, rfl⟩)
  | _ => rfl

/-- An operation that yields a value, and leaves the world as it was. -/
theorem opw_val {av : AV} {rd : List Nat} (hd : ∀ d, o.dst = some d → d < cx.N)
    (h : ∀ (σ : St) (μ : Nat → Option Value) (a : Act) (w : World), (∀ t ∈ o.looksAt ops, σ.S t = σi.S t) → (∀ b ∈ rd, σ.B b = σi.B b) → Conc cx σ μ a w → ∃ v, (execOp a.eval o).run P w = .ok (.value v) w ∧ RdA w (okOf cx σ μ) μ v av) :
    OpW P cx ops o σi ⟨av, rd, [], []⟩ := fun σ a w h1 h2 h3 h4 K Q hK => by
  obtain ⟨μ, h4⟩ := h4
  obtain ⟨v, hr, hv⟩ := h σ μ a w h1 h2 h4
  unfold Oper.wp
  rw [hr, Oper.upon_value]
  exact hK _ _ (conc_put h4 hd hv)

theorem op_move (x : Operand) (av : AV) (ho : o.op = .move x) (hd : ∀ d, o.dst = some d → d < cx.N) (hx : SV σi x = av) : OpW P cx ops o σi ⟨av, [], [], []⟩ :=
  opw_val hd fun σ μ a w h1 _ hc => ⟨a.eval x, by simp [execOp, ho], by rw [← hx, ← sv_same h1 (x := x) (by simp [ho, Op.operands])]; exact sv_rd hc x⟩
theorem op_assign (x : Operand) (av : AV) (ho : o.op = .assign x) (hd : ∀ d, o.dst = some d → d < cx.N) (hx : SV σi x = av) : OpW P cx ops o σi ⟨av, [], [], []⟩ :=
  opw_val hd fun σ μ a w h1 _ hc => ⟨a.eval x, by simp [execOp, ho], by rw [← hx, ← sv_same h1 (x := x) (by simp [ho, Op.operands])]; exact sv_rd hc x⟩

/-- A plain operand's value. -/
theorem sv_v {σ : St} {μ : Nat → Option Value} {a : Act} {w : World} (hc : Conc cx σ μ a w) {x : Operand} {v : Value} (hx : SV σ x = .v v) : a.eval x = v := by
  have := sv_rd hc x
  rw [hx] at this
  generalize a.eval x = y at this ⊢
  cases this with
  | c _ _ h => cases h with
    | one _ _ h => cases h; rfl

theorem op_pick (c x y : Operand) (b : Bool) (av : AV) (ho : o.op = .pick c x y) (hd : ∀ d, o.dst = some d → d < cx.N) (hc : SV σi c = .v (.bool b)) (hx : (if b then SV σi x else SV σi y) = av) : OpW P cx ops o σi ⟨av, [], [], []⟩ :=
  opw_val hd fun σ μ a w h1 _ hcc => by
    have e1 := sv_v hcc ((sv_same h1 (x := c) (by simp [ho, Op.operands])).trans hc)
    refine ⟨if b then a.eval x else a.eval y, by simp [execOp, ho, e1, asBool], ?_⟩
    have e2 := sv_same h1 (x := x) (by simp [ho, Op.operands])
    have e3 := sv_same h1 (x := y) (by simp [ho, Op.operands])
    rw [← hx, ← e2, ← e3]
    cases b
    · exact sv_rd hcc y
    · exact sv_rd hcc x

theorem op_bin (op : BinOp) (T : TypeId) (x y : Operand) (U : TypeId) (vx vy v : Value) (ho : o.op = .binOp op T x y U) (hd : ∀ d, o.dst = some d → d < cx.N) (hx : SV σi x = .v vx) (hy : SV σi y = .v vy)
    (hr : ∀ w, (do eqGuard op T x y vx vy; binOp op T vx vy : Sem Value).run P w = .ok v w) (h1 : v.oneCell' = true) : OpW P cx ops o σi ⟨.v v, [], [], []⟩ :=
  opw_val hd fun σ μ a w hs _ hc => by
    have e1 := sv_v hc ((sv_same hs (x := x) (by simp [ho, Op.operands])).trans hx)
    have e2 := sv_v hc ((sv_same hs (x := y) (by simp [ho, Op.operands])).trans hy)
    refine ⟨v, ?_, .c _ _ (.one _ _ (.v _ h1))⟩
    simp only [execOp, ho, e1, e2, Sem.run_bind, hr, Result.andThen_ok, Sem.run_pure]
theorem op_un (op : UnOp) (T : TypeId) (x : Operand) (vx v : Value) (ho : o.op = .unOp op T x) (hd : ∀ d, o.dst = some d → d < cx.N) (hx : SV σi x = .v vx)
    (hr : ∀ w, (Op.unary op vx).run P w = .ok v w) (h1 : v.oneCell' = true) : OpW P cx ops o σi ⟨.v v, [], [], []⟩ :=
  opw_val hd fun σ μ a w hs _ hc => by
    have e1 := sv_v hc ((sv_same hs (x := x) (by simp [ho, Op.operands])).trans hx)
    refine ⟨v, ?_, .c _ _ (.one _ _ (.v _ h1))⟩
    simp only [execOp, ho, e1, Sem.run_bind, hr, Result.andThen_ok, Sem.run_pure]
theorem op_conv (S T : TypeId) (x : Operand) (vx v : Value) (ho : o.op = .convert S T x) (hd : ∀ d, o.dst = some d → d < cx.N) (hx : SV σi x = .v vx)
    (hr : ∀ w, (convert S T vx).run P w = .ok v w) (h1 : v.oneCell' = true) : OpW P cx ops o σi ⟨.v v, [], [], []⟩ :=
  opw_val hd fun σ μ a w hs _ hc => by
    have e1 := sv_v hc ((sv_same hs (x := x) (by simp [ho, Op.operands])).trans hx)
    refine ⟨v, ?_, .c _ _ (.one _ _ (.v _ h1))⟩
    simp only [execOp, ho, e1, Sem.run_bind, hr, Result.andThen_ok, Sem.run_pure]
theorem op_extract (x : Operand) (i : Nat) (xs : List X) (y : X) (av : AV) (ho : o.op = .extract x i) (hd : ∀ d, o.dst = some d → d < cx.N) (hx : SV σi x = .tup xs) (hi : xs[i]? = some y) (hy : y.av = av) : OpW P cx ops o σi ⟨av, [], [], []⟩ :=
  opw_val hd fun σ μ a w hs _ hc => by
    have e1 := (sv_same hs (x := x) (by simp [ho, Op.operands])).trans hx
    have h2 := sv_rd hc x
    rw [e1] at h2
    generalize hv : a.eval x = v at h2
    cases h2 with
    | tup us _ hl h =>
      have hlt : i < us.length := by have := (List.getElem?_eq_some_iff.1 hi).1; omega
      refine ⟨us[i], by simp [execOp, ho, hv, Instr.extract, hlt], ?_⟩
      subst hy
      have := h i _ y (List.getElem?_eq_getElem hlt) hi
      generalize us[i] = u at this ⊢
      cases this with
      | c _ _ h => exact .c _ _ h
      | agg _ _ h => exact .agg _ _ h
end
end Go.Fl
