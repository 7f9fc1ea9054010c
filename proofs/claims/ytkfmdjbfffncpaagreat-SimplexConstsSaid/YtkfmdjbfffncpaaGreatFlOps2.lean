/- More operations: values without names at large; parts of structs; functions with what they have bound; cuts of rows; append to and from what is there. -/
import Derived.Test.YtkfmdjbfffncpaaGreatFlInl
set_option linter.unusedVariables false
namespace Go.Fl
open Go.RowKit

/-! ### What needs no world -/
def runPure (P : Program) {α : Type} : Sem α → Option α
  | .pure a => some a
  | .program k => runPure P (k P)
  | _ => none
theorem runPure_run {P : Program} {α : Type} : ∀ (m : Sem α) (a : α), runPure P m = some a → ∀ w, m.run P w = .ok a w
  | .pure a, b, h, w => by simp only [runPure, Option.some.injEq] at h; subst h; rfl
  | .program k, b, h, w => by
    simp only [runPure] at h
    exact runPure_run (k P) b h w
  | .load .., b, h, w => by simp [runPure] at h
  | .store .., b, h, w => by simp [runPure] at h
  | .new .., b, h, w => by simp [runPure] at h
  | .shape .., b, h, w => by simp [runPure] at h
  | .freeze .., b, h, w => by simp [runPure] at h
  | .frozen .., b, h, w => by simp [runPure] at h
  | .getObj .., b, h, w => by simp [runPure] at h
  | .setObj .., b, h, w => by simp [runPure] at h
  | .choose .., b, h, w => by simp [runPure] at h
  | .sys .., b, h, w => by simp [runPure] at h
  | .mark .., b, h, w => by simp [runPure] at h
  | .halt .., b, h, w => by simp [runPure] at h

section
variable {P : Program} {cx : Cx} {ops : Array Oper} {o : Oper} {σi : St}

theorem op_binp (op : BinOp) (T : TypeId) (x y : Operand) (U : TypeId) (vx vy v : Value) (ho : o.op = .binOp op T x y U) (hd : ∀ d, o.dst = some d → d < cx.N) (hx : SV σi x = .v vx) (hy : SV σi y = .v vy)
    (hr : runPure P (do eqGuard op T x y vx vy; binOp op T vx vy : Sem Value) = some v) (h1 : v.oneCell' = true) : OpW P cx ops o σi ⟨.v v, [], [], []⟩ :=
  op_bin op T x y U vx vy v ho hd hx hy (runPure_run _ _ hr) h1
theorem op_unp (op : UnOp) (T : TypeId) (x : Operand) (vx v : Value) (ho : o.op = .unOp op T x) (hd : ∀ d, o.dst = some d → d < cx.N) (hx : SV σi x = .v vx)
    (hr : runPure P (Op.unary op vx) = some v) (h1 : v.oneCell' = true) : OpW P cx ops o σi ⟨.v v, [], [], []⟩ :=
  op_un op T x vx v ho hd hx (runPure_run _ _ hr) h1
theorem op_convp (S T : TypeId) (x : Operand) (vx v : Value) (ho : o.op = .convert S T x) (hd : ∀ d, o.dst = some d → d < cx.N) (hx : SV σi x = .v vx)
    (hr : runPure P (convert S T vx) = some v) (h1 : v.oneCell' = true) : OpW P cx ops o σi ⟨.v v, [], [], []⟩ :=
  op_conv S T x vx v ho hd hx (runPure_run _ _ hr) h1
theorem op_indexp (T : TypeId) (x i : Operand) (vx vi v : Value) (ho : o.op = .index T x i) (hd : ∀ d, o.dst = some d → d < cx.N) (hx : SV σi x = .v vx) (hi : SV σi i = .v vi)
    (hr : runPure P (Instr.index T vx vi) = some v) (h1 : v.oneCell' = true) : OpW P cx ops o σi ⟨.v v, [], [], []⟩ :=
  opw_val hd fun σ μ a w hs _ hc => by
    have e1 := sv_v hc ((sv_same hs (x := x) (by simp [ho, Op.operands])).trans hx)
    have e2 := sv_v hc ((sv_same hs (x := i) (by simp [ho, Op.operands])).trans hi)
    refine ⟨v, ?_, .c _ _ (.one _ _ (.v _ h1))⟩
    simp only [execOp, ho, e1, e2, Sem.run_bind, runPure_run _ _ hr, Result.andThen_ok, Sem.run_pure]

/-- A part of a struct by value. -/
theorem run_part_agg {w : World} {T z off : Nat} {us : List Value} (hs : tSz P T = some (z, true)) (hl : off + z ≤ us.length) : (part T us.toArray off).run P w = .ok (.agg ((us.drop off).take z).toArray) w := by
  unfold part
  simp only [Sem.run_bind, run_isAgg hs, Result.andThen_ok, if_true, run_sizeOf hs, Sem.run_pure]
  simp [List.extract_eq_take_drop]
theorem run_part_cell {w : World} {T z off : Nat} {us : List Value} {u : Value} (hs : tSz P T = some (z, false)) (hu : us[off]? = some u) : (part T us.toArray off).run P w = .ok u w := by
  unfold part
  simp only [Sem.run_bind, run_isAgg hs, Result.andThen_ok]
  simp [hu]
def tFdT (P : Program) (T f : Nat) : Option (Nat × Nat) :=
  match P.underlying T with
  | some (.struct fs) => (fs[f]?).map fun fl => (fl.offset, fl.type)
  | _ => none
def partC (P : Program) (T : TypeId) (cs : List Ce) (off : Nat) : Option AV :=
  match tSz P T with
  | some (z, true) => if off + z ≤ cs.length then some (.agg ((cs.drop off).take z)) else none
  | some (_, false) => (cs[off]?).map .c
  | none => none
theorem partC_ok {w : World} {ok : Bool → Nat → Prop} {μ : Nat → Option Value} {T : TypeId} {cs : List Ce} {us : List Value} {off : Nat} {av : AV} (h : partC P T cs off = some av) (hr : RdL w ok μ us cs) : ∃ v, (part T us.toArray off).run P w = .ok v w ∧ RdA w ok μ v av := by
  unfold partC at h
  split at h
  · rename_i z hz
    split at h
    · rename_i hl
      injection h with h; subst h
      exact ⟨_, run_part_agg hz (by rw [hr.1]; exact hl), .agg _ _ ((hr.drop off).take z)⟩
    · cases h
  · rename_i z hz
    rw [Option.map_eq_some_iff] at h
    obtain ⟨c, hc, rfl⟩ := h
    have hlt : off < us.length := by have := (List.getElem?_eq_some_iff.1 hc).1; rw [hr.1]; exact this
    exact ⟨_, run_part_cell hz (List.getElem?_eq_getElem hlt), .c _ _ (hr.2 off _ c (List.getElem?_eq_getElem hlt) hc)⟩
  · cases h
theorem sv_agg {σ : St} {μ : Nat → Option Value} {a : Act} {w : World} (hc : Conc cx σ μ a w) {x : Operand} {cs : List Ce} (hx : SV σ x = .agg cs) : ∃ us : List Value, a.eval x = .agg us.toArray ∧ RdL w (okOf cx σ μ) μ us cs := by
  have := sv_rd hc x
  rw [hx] at this
  generalize a.eval x = y at this ⊢
  cases this with
  | agg us _ h => exact ⟨us, rfl, h⟩
theorem op_fieldv (T : TypeId) (x : Operand) (f off U : Nat) (cs : List Ce) (av : AV) (ho : o.op = .field T x f) (hd : ∀ d, o.dst = some d → d < cx.N) (hx : SV σi x = .agg cs) (hf : tFdT P T f = some (off, U)) (hp : partC P U cs off = some av) : OpW P cx ops o σi ⟨av, [], [], []⟩ :=
  opw_val hd fun σ μ a w hs _ hc => by
    obtain ⟨us, e1, h1⟩ := sv_agg hc ((sv_same hs (x := x) (by simp [ho, Op.operands])).trans hx)
    obtain ⟨v, hv, hr⟩ := partC_ok hp h1
    refine ⟨v, ?_, hr⟩
    unfold tFdT at hf
    split at hf
    · rename_i fs hu
      rw [Option.map_eq_some_iff] at hf
      obtain ⟨fl, hfl, he⟩ := hf
      simp only [Prod.mk.injEq] at he
      obtain ⟨rfl, rfl⟩ := he
      simp only [execOp, ho, e1, Sem.run_bind, Instr.field, run_underlying hu, Result.andThen_ok, hfl, asAgg, Sem.run_pure, hv]
    · cases hf
def tArr (P : Program) (T : Nat) : Option (Nat × Nat × Nat) :=
  match P.underlying T with
  | some (.array n e) => match P.info? e with
    | some i => some (n, e, i.size)
    | none => none
  | _ => none
theorem op_indexv (T : TypeId) (x ix : Operand) (n e z : Nat) (k : IntKind) (i : Int) (cs : List Ce) (av : AV) (ho : o.op = .index T x ix) (hd : ∀ d, o.dst = some d → d < cx.N) (hx : SV σi x = .agg cs) (hi : SV σi ix = .v (.int k i)) (hT : tArr P T = some (n, e, z)) (h0 : 0 ≤ i) (h1 : i < n) (hp : partC P e cs (i.toNat * z) = some av) : OpW P cx ops o σi ⟨av, [], [], []⟩ :=
  opw_val hd fun σ μ a w hs _ hc => by
    obtain ⟨us, e1, h3⟩ := sv_agg hc ((sv_same hs (x := x) (by simp [ho, Op.operands])).trans hx)
    have e2 := sv_v hc ((sv_same hs (x := ix) (by simp [ho, Op.operands])).trans hi)
    obtain ⟨v, hv, hr⟩ := partC_ok hp h3
    refine ⟨v, ?_, hr⟩
    unfold tArr at hT
    split at hT
    · rename_i n' e' hu
      split at hT
      · rename_i inf hinf
        simp only [Option.some.injEq, Prod.mk.injEq] at hT
        obtain ⟨rfl, rfl, rfl⟩ := hT
        have hsz : (sizeOf e').run P w = .ok inf.size w := by simp [sizeOf, typeInfo, hinf]
        simp only [execOp, ho, e1, e2, Sem.run_bind, Instr.index, asIntOf, run_underlying hu, Result.andThen_ok, Sem.run_pure, if_pos (And.intro h0 h1), hsz, hv]
      · cases hT
    · cases hT

/-! ### Functions with what they have bound -/
def capC : AV → Option Cp
  | .c (.one d) => some (.d d)
  | .c (.ptr b o) => some (.ptr b o)
  | .c (.mp b) => some (.mp b)
  | .agg cs => (toDs cs).map .agg
  | _ => none
def capL (σ : St) : List Operand → Option (List Cp)
  | [] => some []
  | x :: r => match capC (SV σ x), capL σ r with
    | some p, some l => some (p :: l)
    | _, _ => none
theorem capC_rd {w : World} {ok : Bool → Nat → Prop} {μ : Nat → Option Value} {v : Value} {av : AV} {p : Cp} (h : RdA w ok μ v av) (hp : capC av = some p) : RdCp w ok μ v p := by
  cases h with
  | c v x h =>
    cases h <;> simp only [capC, Option.some.injEq, reduceCtorEq] at hp <;> subst hp
    · exact .d _ _ (by assumption)
    · exact .ptr _ _ _ _ (by assumption) (by assumption)
    · exact .mp _ _ (by assumption)
  | agg us cs h =>
    simp only [capC, Option.map_eq_some_iff] at hp
    obtain ⟨ds, hds, rfl⟩ := hp
    obtain ⟨h1, h2⟩ := rdl_ones (toDs_rd us cs ds h hds)
    exact .agg _ _ h1 h2
  | tup => simp [capC] at hp
  | none => simp [capC] at hp
theorem capL_rd {σ : St} {μ : Nat → Option Value} {a : Act} {w : World} (hc : Conc cx σ μ a w) : ∀ (xs : List Operand) (ps : List Cp), capL σ xs = some ps → RdCps w (okOf cx σ μ) μ (xs.map a.eval) ps
  | [], ps, h => by simp only [capL, Option.some.injEq] at h; subst h; exact ⟨rfl, fun j u p h => by simp at h⟩
  | x :: r, ps, h => by
    simp only [capL] at h
    split at h
    · rename_i p l h1 h2
      simp only [Option.some.injEq] at h
      subst h
      obtain ⟨i1, i2⟩ := capL_rd hc r l h2
      refine ⟨by simp [← i1], fun j u q hj hq => ?_⟩
      cases j with
      | zero => simp at hj hq; subst hj; subst hq; exact capC_rd (sv_rd hc x) h1
      | succ j => exact i2 j u q (by simpa using hj) (by simpa using hq)
    · cases h
theorem capL_same {σ : St} (h : ∀ t ∈ o.looksAt ops, σ.S t = σi.S t) : ∀ (xs : List Operand), (∀ x ∈ xs, x ∈ o.op.operands.toList) → capL σ xs = capL σi xs
  | [], _ => rfl
  | x :: r, hm => by
    simp only [capL]
    rw [sv_same h (hm x (List.mem_cons_self ..)), capL_same h r fun q hq => hm q (List.mem_cons_of_mem _ hq)]
theorem op_makeFunc (f : FuncId) (first captured : Array Operand) (ps qs : List Cp) (ho : o.op = .makeFunc (.func f) first captured) (hd : ∀ d, o.dst = some d → d < cx.N) (h1 : capL σi first.toList = some ps) (h2 : capL σi captured.toList = some qs) : OpW P cx ops o σi ⟨.c (.fn f ps qs), [], [], []⟩ :=
  opw_val hd fun σ μ a w hs _ hc => by
    have g1 := capL_rd hc _ _ ((capL_same hs first.toList (fun x hx => by simp only [ho, Op.operands, Array.toList_append, List.mem_append]; exact .inl hx)).trans h1)
    have g2 := capL_rd hc _ _ ((capL_same hs captured.toList (fun x hx => by simp only [ho, Op.operands, Array.toList_append, List.mem_append]; exact .inr hx)).trans h2)
    refine ⟨_, ?_, .c _ _ (.fn f ps qs _ _ g1 g2)⟩
    simp only [execOp, ho, Instr.makeFunc, Sem.run_bind, Sem.run_pure, Result.andThen_ok]
    rw [← List.map_toArray, ← List.map_toArray, Array.toArray_toList, Array.toArray_toList]

/-! ### Pointers and nil -/
theorem op_eqnil (neg : Bool) (T : TypeId) (x y : Operand) (U : TypeId) (e b off : Nat) (ho : o.op = .binOp (if neg then .neq else .eql) T x y U) (hd : ∀ d, o.dst = some d → d < cx.N) (hx : SV σi x = .c (.ptr b off)) (hy : SV σi y = .v (.pointer none)) (hT : P.underlying T = some (.pointer e)) :
    OpW P cx ops o σi ⟨.v (.bool neg), [], [], []⟩ :=
  opw_val hd fun σ μ a w hs _ hc => by
    obtain ⟨g, vb, e1, _, _⟩ := sv_ptr hc ((sv_same hs (x := x) (by simp [ho, Op.operands])).trans hx)
    have e2 := sv_v hc ((sv_same hs (x := y) (by simp [ho, Op.operands])).trans hy)
    refine ⟨.bool neg, ?_, .c _ _ (.one _ _ (.v _ rfl))⟩
    have h0 : (Op.equal T (.pointer (some ⟨g, off, none⟩)) (.pointer none)).run P w = .ok false w := by
      show (Op.equalIn (9999 + 1) T _ _).run P w = _
      rw [Op.equalIn]
      simp only [Sem.run_bind, run_underlying hT, Result.andThen_ok, Sem.run_pure]
    cases neg
    · simp only [execOp, ho, e1, e2]
      show (do let v ← (do (pure () : Sem Unit); (do pure (.bool (← Op.equal T (.pointer (some ⟨g, off, none⟩)) (.pointer none))) : Sem Value)); pure (Next.value v) : Sem Next).run P w = _
      simp only [Sem.run_bind, Sem.run_pure, Result.andThen_ok, h0]
    · simp only [execOp, ho, e1, e2]
      show (do let v ← (do (pure () : Sem Unit); (do pure (.bool (!(← Op.equal T (.pointer (some ⟨g, off, none⟩)) (.pointer none)))) : Sem Value)); pure (Next.value v) : Sem Next).run P w = _
      simp only [Sem.run_bind, Sem.run_pure, Result.andThen_ok, h0, Bool.not_false]

theorem op_beq (neg : Bool) (T : TypeId) (x y : Operand) (U : TypeId) (a b : Bool) (ho : o.op = .binOp (if neg then .neq else .eql) T x y U) (hd : ∀ d, o.dst = some d → d < cx.N) (hx : SV σi x = .v (.bool a)) (hy : SV σi y = .v (.bool b)) (hT : P.underlying T = some .bool) :
    OpW P cx ops o σi ⟨.v (.bool (if neg then !(a == b) else a == b)), [], [], []⟩ :=
  opw_val hd fun σ μ a' w hs _ hc => by
    have e1 := sv_v hc ((sv_same hs (x := x) (by simp [ho, Op.operands])).trans hx)
    have e2 := sv_v hc ((sv_same hs (x := y) (by simp [ho, Op.operands])).trans hy)
    refine ⟨.bool (if neg then !(a == b) else a == b), ?_, .c _ _ (.one _ _ (.v _ rfl))⟩
    have h0 : (Op.equal T (.bool a) (.bool b)).run P w = .ok (a == b) w := by
      show (Op.equalIn (9999 + 1) T _ _).run P w = _
      rw [Op.equalIn]
      simp only [Sem.run_bind, run_underlying hT, Result.andThen_ok, Sem.run_pure]
    cases neg
    · simp only [execOp, ho, e1, e2]
      show (do let v ← (do (pure () : Sem Unit); (do pure (.bool (← Op.equal T (.bool a) (.bool b))) : Sem Value)); pure (Next.value v) : Sem Next).run P w = _
      simp only [Sem.run_bind, Sem.run_pure, Result.andThen_ok, h0]
      rfl
    · simp only [execOp, ho, e1, e2]
      show (do let v ← (do (pure () : Sem Unit); (do pure (.bool (!(← Op.equal T (.bool a) (.bool b)))) : Sem Value)); pure (Next.value v) : Sem Next).run P w = _
      simp only [Sem.run_bind, Sem.run_pure, Result.andThen_ok, h0]
      rfl
theorem op_indexstr (T : TypeId) (x ix : Operand) (s : ByteArray) (k : IntKind) (i : Int) (b : UInt8) (ho : o.op = .index T x ix) (hd : ∀ d, o.dst = some d → d < cx.N) (hx : SV σi x = .v (.string s)) (hi : SV σi ix = .v (.int k i)) (hT : P.underlying T = some .string) (h0 : 0 ≤ i) (hb : s.data.toList[i.toNat]? = some b) :
    OpW P cx ops o σi ⟨.v (.int .u8 b.toNat), [], [], []⟩ :=
  opw_val hd fun σ μ a w hs _ hc => by
    have e1 := sv_v hc ((sv_same hs (x := x) (by simp [ho, Op.operands])).trans hx)
    have e2 := sv_v hc ((sv_same hs (x := ix) (by simp [ho, Op.operands])).trans hi)
    refine ⟨.int .u8 b.toNat, ?_, .c _ _ (.one _ _ (.v _ rfl))⟩
    have hs : s[i.toNat]? = some b := by
      rw [Array.getElem?_toList] at hb
      obtain ⟨hlt, hb⟩ := Array.getElem?_eq_some_iff.1 hb
      rw [getElem?_pos s i.toNat hlt]
      exact congrArg some hb
    simp only [execOp, ho, e1, e2, Sem.run_bind, Instr.index, asIntOf, run_underlying hT, Result.andThen_ok, Sem.run_pure, if_pos h0, hs]

/-! ### Cuts of rows -/
theorem sv_sl {σ : St} {μ : Nat → Option Value} {a : Act} {w : World} (hc : Conc cx σ μ a w) {x : Operand} {b off n : Nat} (hx : SV σ x = .c (.sl b off n)) : ∃ c g N C, a.eval x = .slice (some ⟨g, off, none⟩) n c ∧ n ≤ c ∧ c ≤ 9223372036854775807 ∧ μ b = some (.slice (some ⟨g, 0, none⟩) N C) := by
  have := sv_rd hc x
  rw [hx] at this
  generalize a.eval x = y at this ⊢
  cases this with
  | c _ _ h => cases h with
    | sl _ _ _ c g N C hn hm h => exact ⟨c, g, N, C, rfl, hn, hm, h⟩
theorem op_sllen (x : Operand) (T : TypeId) (b off n : Nat) (e z by' : Nat) (ho : o.op = .call { callee := .builtin .len, args := #[x], argTypes := #[T] }) (hd : ∀ d, o.dst = some d → d < cx.N) (hx : SV σi x = .c (.sl b off n)) (hT : tEl P T = some (e, z, by')) : OpW P cx ops o σi ⟨.v (.int .i64 n), [], [], []⟩ :=
  opw_val hd fun σ μ a w hs _ hc => by
    obtain ⟨c, g, N, C, e1, _⟩ := sv_sl hc ((sv_same hs (x := x) (by simp [ho, Op.operands, Call.operands])).trans hx)
    refine ⟨.int .i64 n, ?_, .c _ _ (.one _ _ (.v _ rfl))⟩
    exact exec_builtin (P := P) (w := w) (w1 := w) (n := .value (.int .i64 n)) ho rfl (by simp [builtin, Builtin.len_, e1, run_underlying (tEl_info hT).1, goInt])
theorem op_slindex (T : TypeId) (x ix : Operand) (b off n e z by' : Nat) (k : IntKind) (i : Int) (ho : o.op = .indexAddr T x ix) (hd : ∀ d, o.dst = some d → d < cx.N) (hx : SV σi x = .c (.sl b off n)) (hi : SV σi ix = .v (.int k i))
    (hT : tEl P T = some (e, z, by')) (h0 : 0 ≤ i) (h1 : i < n) : OpW P cx ops o σi ⟨.c (.ptr b (off + i.toNat * z)), [], [], []⟩ :=
  opw_val hd fun σ μ a w hs h2 hc => by
    obtain ⟨c, g, N, C, e1, hn, hm, hμ⟩ := sv_sl hc ((sv_same hs (x := x) (by simp [ho, Op.operands])).trans hx)
    have e2 := sv_v hc ((sv_same hs (x := ix) (by simp [ho, Op.operands])).trans hi)
    refine ⟨.pointer (some ⟨g, off + i.toNat * z, none⟩), ?_, .c _ _ (.ptr b _ g _ hμ rfl)⟩
    simp only [execOp, ho, e1, e2, Sem.run_bind, run_indexAt' hT _ n c k i h0 h1, Result.andThen_ok, Sem.run_pure, Addr.add_mid]
theorem bnd_val {σ : St} {μ : Nat → Option Value} {a : Act} {w : World} (hc : Conc cx σ μ a w) (hs : ∀ t ∈ o.looksAt ops, σ.S t = σi.S t) (q : Option Operand) (r : Option Int) (hq : ∀ y, q = some y → y ∈ o.op.operands.toList) (hb : bnd σi q = some r) : ∃ k, q.map a.eval = r.map (.int k) := by
  cases q with
  | none => simp only [bnd, Option.some.injEq] at hb; subst hb; exact ⟨.i64, rfl⟩
  | some y =>
    simp only [bnd] at hb
    split at hb
    · rename_i k i hy
      simp only [Option.some.injEq] at hb
      subst hb
      exact ⟨k, by simp [sv_v hc ((sv_same hs (x := y) (hq y rfl)).trans hy)]⟩
    · cases hb
/-- A cut with something in it. -/
theorem op_slslice (T : TypeId) (x : Operand) (lo hi : Option Operand) (l h : Option Int) (b off n e z by' m l0 : Nat) (ho : o.op = .slice T x lo hi none) (hd : ∀ d, o.dst = some d → d < cx.N) (hx : SV σi x = .c (.sl b off n)) (hlo : bnd σi lo = some l) (hhi : bnd σi hi = some h)
    (hT : tEl P T = some (e, z, by')) (hl : 0 ≤ l.getD 0 ∧ l.getD 0 < h.getD n) (hh : h.getD n ≤ n) (hm : (h.getD n).toNat - (l.getD 0).toNat = m) (hl0 : off + (l.getD 0).toNat * z = l0) : OpW P cx ops o σi ⟨.c (.sl b l0 m), [], [], []⟩ := by
  subst hm
  subst hl0
  refine opw_val hd fun σ μ a w hs h2 hc => ?_
  obtain ⟨c, g, N, C, e1, hn, hmx, hμ⟩ := sv_sl hc ((sv_same hs (x := x) (by simp [ho, Op.operands])).trans hx)
  obtain ⟨kl, el⟩ := bnd_val (o := o) (ops := ops) hc hs lo l (fun y hy => by subst hy; simp [ho, Op.operands]) hlo
  obtain ⟨kh, eh⟩ := bnd_val (o := o) (ops := ops) hc hs hi h (fun y hy => by subst hy; simp [ho, Op.operands]) hhi
  have hrun := run_sliceAt (P := P) (w := w) hT (some ⟨g, off, none⟩) n c kl kh l h (fun x hx => by subst hx; simp only [Option.getD_some] at hl; omega) (fun y hy => by subst hy; simp only [Option.getD_some] at hl hh; omega)
  have hs' : sliced (some ⟨g, off, none⟩) ((l.getD 0).toNat) ((h.getD n).toNat) c z = .slice (some ⟨g, off + (l.getD 0).toNat * z, none⟩) ((h.getD n).toNat - (l.getD 0).toNat) (c - (l.getD 0).toNat) := by
    unfold sliced
    rw [if_neg (by omega)]
    simp [Addr.add_mid]
  rw [hs'] at hrun
  refine ⟨_, ?_, .c _ _ (.sl b _ _ (c - (l.getD 0).toNat) g N C (by omega) (by omega) hμ)⟩
  simp only [execOp, ho, e1, el, eh, Option.map_none, Sem.run_bind, hrun, Result.andThen_ok, Sem.run_pure]
theorem op_rslice (T : TypeId) (x : Operand) (lo hi : Option Operand) (l h : Option Int) (b n e z by' m l0 E z' n' : Nat) (cs : List Ce) (ho : o.op = .slice T x lo hi none) (hd : ∀ d, o.dst = some d → d < cx.N) (hx : SV σi x = .c (.row b n)) (hb : σi.B b = some (.rw E z' n' cs)) (hlo : bnd σi lo = some l) (hhi : bnd σi hi = some h)
    (hT : tEl P T = some (e, z, by')) (hl : 0 ≤ l.getD 0 ∧ l.getD 0 < h.getD n) (hh : h.getD n ≤ n) (hm : (h.getD n).toNat - (l.getD 0).toNat = m) (hl0 : (l.getD 0).toNat * z = l0) : OpW P cx ops o σi ⟨.c (.sl b l0 m), [b], [], []⟩ := by
  subst hm
  subst hl0
  refine opw_val hd fun σ μ a w hs h2 hc => ?_
  obtain ⟨A, c, e1, hμ, hmx⟩ := sv_row hc ((sv_same hs (x := x) (by simp [ho, Op.operands])).trans hx)
  obtain ⟨v, us, g1, g2, g3⟩ := hc.objs b _ ((h2 b (by simp)).trans hb)
  rw [hμ] at g1
  injection g1 with g1
  subst g1
  rcases g2.2 with ⟨h9, _⟩ | ⟨g, cap, cur, h9, hb', hh', hcap, hmax, _⟩
  · exfalso; injection h9 with _ h9 _; omega
  · injection h9 with hA hn hc'
    subst hA
    subst hn
    subst hc'
    obtain ⟨kl, el⟩ := bnd_val (o := o) (ops := ops) hc hs lo l (fun y hy => by subst hy; simp [ho, Op.operands]) hlo
    obtain ⟨kh, eh⟩ := bnd_val (o := o) (ops := ops) hc hs hi h (fun y hy => by subst hy; simp [ho, Op.operands]) hhi
    have hrun := run_sliceAt (P := P) (w := w) hT (some ⟨g, 0, none⟩) n c kl kh l h (fun x hx => by subst hx; simp only [Option.getD_some] at hl; omega) (fun y hy => by subst hy; simp only [Option.getD_some] at hl hh; omega)
    have hs' : sliced (some ⟨g, 0, none⟩) ((l.getD 0).toNat) ((h.getD n).toNat) c z = .slice (some ⟨g, (l.getD 0).toNat * z, none⟩) ((h.getD n).toNat - (l.getD 0).toNat) (c - (l.getD 0).toNat) := by
      unfold sliced
      rw [if_neg (by omega)]
      simp [Addr.add_mid]
    rw [hs'] at hrun
    simp only [maxLen] at hmax
    refine ⟨_, ?_, .c _ _ (.sl b _ _ (c - (l.getD 0).toNat) g n c (by omega) (by omega) hμ)⟩
    simp only [execOp, ho, e1, el, eh, Option.map_none, Sem.run_bind, hrun, Result.andThen_ok, Sem.run_pure]
/-- A cut with nothing in it, of whatever. -/
def lenC : Ce → Option Nat
  | .row _ n => some n
  | .sl _ _ n => some n
  | .nil => some 0
  | .one (.s _ n _) => some n
  | _ => none
theorem op_slice0 (T : TypeId) (x : Operand) (lo hi : Option Operand) (l h : Option Int) (y : Ce) (n e z by' : Nat) (ho : o.op = .slice T x lo hi none) (hd : ∀ d, o.dst = some d → d < cx.N) (hx : SV σi x = .c y) (hy : lenC y = some n) (hrow : ∀ b k, y = .row b k → ∃ E z' n' cs, σi.B b = some (.rw E z' n' cs)) (hlo : bnd σi lo = some l) (hhi : bnd σi hi = some h)
    (hT : tEl P T = some (e, z, by')) (hl : 0 ≤ l.getD 0 ∧ l.getD 0 = h.getD n) (hh : h.getD n ≤ n) : OpW P cx ops o σi ⟨.d (.s true 0 []), y.nm, [], []⟩ := by
  refine opw_val hd fun σ μ a w hs h2 hc => ?_
  obtain ⟨A, c, e1, hn, hmx⟩ : ∃ A c, a.eval x = .slice A n c ∧ n ≤ c ∧ c ≤ 9223372036854775807 := by
    have hxs := (sv_same hs (x := x) (by simp [ho, Op.operands])).trans hx
    have := sv_rd hc x
    rw [hxs] at this
    generalize hv : a.eval x = v at this
    cases this with
    | c _ _ h' =>
      cases h' with
      | row b n' c A hm hμ =>
        simp only [lenC, Option.some.injEq] at hy
        subst hy
        obtain ⟨E, z', n'', cs, hB⟩ := hrow b n' rfl
        obtain ⟨v', us, g1, g2, g3⟩ := hc.objs b _ ((h2 b (by simp [Ce.nm])).trans hB)
        rw [hμ] at g1
        injection g1 with g1
        subst g1
        rcases g2.2 with ⟨h9, _⟩ | ⟨g, cap, cur, h9, _, _, hcap, hmax, _⟩
        · injection h9 with h10 h11 h12; subst h10; subst h11; subst h12; exact ⟨none, 0, rfl, by omega, by omega⟩
        · injection h9 with h10 h11 h12; subst h10; subst h11; subst h12; simp only [maxLen] at hmax; exact ⟨_, c, rfl, hcap, by omega⟩
      | sl b off n' c g N C hn hm hμ => simp only [lenC, Option.some.injEq] at hy; subst hy; exact ⟨_, c, rfl, hn, hm⟩
      | nil => simp only [lenC, Option.some.injEq] at hy; subst hy; exact ⟨none, 0, rfl, by omega, by omega⟩
      | one _ d hd' =>
        cases hd' with
        | s f A n' c ad us cs hn hm hA hl hok hcc hr => simp only [lenC, Option.some.injEq] at hy; subst hy; exact ⟨A, c, rfl, hn, hm⟩
        | _ => simp [lenC] at hy
      | _ => simp [lenC] at hy
    | none => simp [lenC] at hy
  obtain ⟨kl, el⟩ := bnd_val (o := o) (ops := ops) hc hs lo l (fun y hy => by subst hy; simp [ho, Op.operands]) hlo
  obtain ⟨kh, eh⟩ := bnd_val (o := o) (ops := ops) hc hs hi h (fun y hy => by subst hy; simp [ho, Op.operands]) hhi
  have hrun := run_sliceAt (P := P) (w := w) hT A n c kl kh l h (fun x hx => by subst hx; simp only [Option.getD_some] at hl; omega) (fun y hy => by subst hy; simp only [Option.getD_some] at hl hh; omega)
  refine ⟨sliced A ((l.getD 0).toNat) ((h.getD n).toNat) c z, ?_, ?_⟩
  · simp only [execOp, ho, e1, el, eh, Option.map_none, Sem.run_bind, hrun, Result.andThen_ok, Sem.run_pure]
  · have e0 : (h.getD ↑n).toNat - (l.getD 0).toNat = 0 := by omega
    unfold sliced
    rw [e0]
    exact .c _ _ (.one _ _ (.s true _ 0 _ default [] [] (by omega) (by omega) (by simp) rfl (by simp) (by simp) (by simp)))

/-! ### a[:n:n] -/
theorem run_sliceAt3 {w : World} {T e z by' : Nat} (hT : tEl P T = some (e, z, by')) (A : Option Addr) (n c : Nat) (kh km : IntKind) (h : Int) (h0 : 0 ≤ h) (h1 : h ≤ c) :
    (Instr.sliceAt T (.slice A n c) none (some (.int kh h)) (some (.int km h))).run P w = .ok (.slice A h.toNat h.toNat) w := by
  obtain ⟨hu, i, hi, hz, _⟩ := tEl_info hT
  have hel : P.elem T = e := by simp [Program.elem, hu]
  have hu' : P.underlying T = some (.slice (P.elem T)) := by rw [hel]; exact hu
  have hsz : (sizeOf (P.elem T)).run P w = .ok z w := by rw [hel]; simp [sizeOf, typeInfo, hi, hz]
  rw [run_sliceAt_slice (h := hu')]
  rw [run_slice_hm (ht := hu') (h0 := h0) (h2 := Int.le_refl _) (h3 := h1), hsz]
  have : (A.map fun x => x.add (0 * z)) = A := by cases A <;> simp [Addr.add]
  simp only [Result.andThen_ok, sliced, this, ite_self, Nat.sub_zero]
theorem op_slice3 (T : TypeId) (x hi mx : Operand) (kh km : IntKind) (h : Int) (y : Ce) (n e z by' : Nat) (av : AV) (ho : o.op = .slice T x none (some hi) (some mx)) (hd : ∀ d, o.dst = some d → d < cx.N) (hx : SV σi x = .c y) (hy : lenC y = some n) (hrow : ∀ b k, y = .row b k → ∃ E z' n' cs, σi.B b = some (.rw E z' n' cs)) (hh : SV σi hi = .v (.int kh h)) (hm : SV σi mx = .v (.int km h))
    (hT : tEl P T = some (e, z, by')) (h0 : 0 ≤ h) (h1 : h ≤ n) (hav : (if h = 0 then some (.d (.s true 0 [])) else match y with
      | .row b _ => some (.c (.sl b 0 h.toNat))
      | .sl b off _ => some (.c (.sl b off h.toNat))
      | .one (.s f k ds) => if ds.length = k * z then some (.d (.s f h.toNat (ds.take (h.toNat * z)))) else none
      | _ => none) = some av) : OpW P cx ops o σi ⟨av, y.nm, [], []⟩ := by
  refine opw_val hd fun σ μ a w hs h2 hc => ?_
  have e2 := sv_v hc ((sv_same hs (x := hi) (by simp [ho, Op.operands])).trans hh)
  have e3 := sv_v hc ((sv_same hs (x := mx) (by simp [ho, Op.operands])).trans hm)
  have hxs := (sv_same hs (x := x) (by simp [ho, Op.operands])).trans hx
  have hrd := sv_rd hc x
  rw [hxs] at hrd
  have fin : ∀ (A : Option Addr) (c : Nat), a.eval x = .slice A n c → n ≤ c → RdA w (okOf cx σ μ) μ (.slice A h.toNat h.toNat) av → ∃ v, (execOp a.eval o).run P w = .ok (.value v) w ∧ RdA w (okOf cx σ μ) μ v av := fun A c e1 hnc hr => by
    refine ⟨_, ?_, hr⟩
    have hrun := run_sliceAt3 (P := P) (w := w) hT A n c kh km h h0 (by omega)
    simp only [execOp, ho, e1, e2, e3, Option.map_none, Option.map_some, Sem.run_bind, hrun, Result.andThen_ok, Sem.run_pure]
  have empty : ∀ A : Option Addr, h = 0 → RdA w (okOf cx σ μ) μ (.slice A h.toNat h.toNat) av := fun A hz => by
    rw [if_pos hz] at hav
    injection hav with hav
    subst hav; subst hz
    exact .c _ _ (.one _ _ (.s true _ 0 _ default [] [] (by simp) (by simp) (by simp) rfl (by simp) (by simp) (by simp)))
  generalize hv : a.eval x = v at hrd
  cases hrd with
  | c _ _ h' =>
    cases h' with
    | row b n' c A hm' hμ =>
      simp only [lenC, Option.some.injEq] at hy
      subst hy
      obtain ⟨E, z', n'', cs, hB⟩ := hrow b n' rfl
      obtain ⟨v', us, g1, g2, g3⟩ := hc.objs b _ ((h2 b (by simp [Ce.nm])).trans hB)
      rw [hμ] at g1
      injection g1 with g1
      subst g1
      rcases g2.2 with ⟨h9, _⟩ | ⟨g, cap, cur, h9, _, _, hcap, hmax, _⟩
      · injection h9 with h10 h11 h12; subst h10; subst h11; subst h12
        exact fin none 0 hv (by omega) (empty none (by omega))
      · injection h9 with h10 h11 h12; subst h10; subst h11; subst h12
        refine fin _ c hv hcap ?_
        by_cases hz : h = 0
        · exact empty _ hz
        · rw [if_neg hz] at hav
          injection hav with hav
          subst hav
          exact .c _ _ (.sl b 0 _ _ g n' c (Nat.le_refl _) (by omega) hμ)
    | sl b off n' c g N C hn hm' hμ =>
      simp only [lenC, Option.some.injEq] at hy
      subst hy
      refine fin _ c hv hn ?_
      by_cases hz : h = 0
      · exact empty _ hz
      · rw [if_neg hz] at hav
        injection hav with hav
        subst hav
        exact .c _ _ (.sl b off _ _ g N C (Nat.le_refl _) (by omega) hμ)
    | nil => simp only [lenC, Option.some.injEq] at hy; subst hy; exact fin none 0 hv (by omega) (empty none (by omega))
    | one _ d hd' =>
      cases hd' with
      | s f A n' c ad us cs hn hm' hA hl hok hcc hr =>
        simp only [lenC, Option.some.injEq] at hy
        subst hy
        refine fin A c hv hn ?_
        by_cases hz : h = 0
        · exact empty _ hz
        · rw [if_neg hz] at hav
          simp only [] at hav
          split at hav
          · rename_i hlen
            injection hav with hav
            subst hav
            refine .c _ _ (.one _ _ (.s f A _ _ ad (us.take (h.toNat * z)) _ (Nat.le_refl _) (by omega) (fun h3 => hA (by rw [List.length_take] at h3; omega)) (by rw [List.length_take, List.length_take, hl]) (fun h3 => hok (by rw [List.length_take] at h3; omega)) (fun j u hj => ?_) (fun j u d q1 q2 => ?_)))
            · rw [List.getElem?_take] at hj
              split at hj
              · exact hcc j u hj
              · cases hj
            · rw [List.getElem?_take] at q1 q2
              split at q1
              · rename_i hj; rw [if_pos hj] at q2; exact hr j u d q1 q2
              · cases q1
          · cases hav
      | _ => simp [lenC] at hy
    | _ => simp [lenC] at hy
  | none => simp [lenC] at hy
end
end Go.Fl
