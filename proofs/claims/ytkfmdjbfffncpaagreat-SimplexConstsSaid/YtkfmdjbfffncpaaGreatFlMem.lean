/- Operations that look at memory. -/
import Derived.Test.YtkfmdjbfffncpaaGreatFlStep
set_option linter.unusedVariables false
namespace Go.Fl
open Go.RowKit

/-! ### Facts about types, as closed computations -/
def aggB : TypeDesc → Bool
  | .struct _ => true
  | .array _ _ => true
  | _ => false
def tSz (P : Program) (T : TypeId) : Option (Nat × Bool) :=
  match P.info? T, P.underlying T with
  | some i, some d => some (i.size, aggB d)
  | _, _ => none
def tEl (P : Program) (T : TypeId) : Option (TypeId × Nat × Nat) :=
  match P.underlying T with
  | some (.slice e) => match P.info? e with
    | some i => some (e, i.size, i.bytes)
    | none => none
  | _ => none
def tFd (P : Program) (T f : Nat) : Option (Nat × Nat × Bool) :=
  match P.underlying T with
  | some (.struct fs) => match fs[f]? with
    | some fl => match tSz P fl.type with
      | some (z, g) => some (fl.offset, z, g)
      | none => none
    | none => none
  | _ => none
def tZ (P : Program) (T : TypeId) : Option (List Value) :=
  match P.info? T with
  | some i => match i.zero with
    | some z => if z.cells.toList.all (·.oneCell') then some z.cells.toList else none
    | none => none
  | none => none

section
variable {P : Program}
theorem tSz_info {T : TypeId} {z : Nat} {g : Bool} (h : tSz P T = some (z, g)) : ∃ i d, P.info? T = some i ∧ P.underlying T = some d ∧ i.size = z ∧ aggB d = g := by
  unfold tSz at h
  split at h
  · rename_i i d h1 h2
    simp only [Option.some.injEq, Prod.mk.injEq] at h
    exact ⟨i, d, h1, h2, h.1, h.2⟩
  · cases h
theorem run_sizeOf {T : TypeId} {z : Nat} {g : Bool} (h : tSz P T = some (z, g)) (w : World) : (sizeOf T).run P w = .ok z w := by
  obtain ⟨i, d, h1, h2, h3, h4⟩ := tSz_info h
  simp [sizeOf, typeInfo, h1, h3]
theorem run_isAgg {T : TypeId} {z : Nat} {g : Bool} (h : tSz P T = some (z, g)) (w : World) : (isAgg T).run P w = .ok g w := by
  obtain ⟨i, d, h1, h2, h3, h4⟩ := tSz_info h
  unfold isAgg
  rw [Sem.run_bind, run_underlying h2 w]
  subst h4
  cases d <;> simp [aggB]

theorem run_load_agg (w : World) (ad : Addr) (T : TypeId) (cs : List Value) (hs : tSz P T = some (cs.length, true)) (hc : ∀ (j : Nat) (u : Value), cs[j]? = some u → w.cell? (ad.add j) = some u) :
    (Instr.loadAt T (.pointer (some ad))).run P w = .ok (.agg cs.toArray) w := by
  simp only [Instr.loadAt, Instr.sureAddr, loadVar, Sem.run_bind, Sem.run_pure, Result.andThen_ok, run_isAgg hs, run_sizeOf hs, if_true, run_loadCells_list (P := P) w ad cs hc]
theorem run_load_cell (w : World) (ad : Addr) (T : TypeId) (u : Value) (hs : tSz P T = some (1, false)) (hc : w.cell? ad = some u) :
    (Instr.loadAt T (.pointer (some ad))).run P w = .ok u w := by
  simp only [Instr.loadAt, Instr.sureAddr, loadVar, Sem.run_bind, Sem.run_pure, Result.andThen_ok, run_isAgg hs]
  simp [run_load, hc]
end

section
variable {P : Program} {cx : Cx} {ops : Array Oper} {o : Oper} {σi : St}

theorem list_cut {α : Type} {l : List α} {i n j : Nat} {u : α} (h : ((l.drop i).take n)[j]? = some u) : l[i + j]? = some u := by
  rw [List.getElem?_take] at h
  split at h
  · simpa using h
  · cases h


def O.cells : O → List Ce
  | .bx _ cs => cs
  | .rw _ _ _ cs => cs
  | _ => []
theorem hd0_blk {v : Value} {g : Nat} (h : hd0 v = some g) : blk v = some g := by
  unfold hd0 at h
  split at h <;> simp_all [blk]
/-- What lies in an object. -/
theorem obj_cells {σ : St} {μ : Nat → Option Value} {a : Act} {w : World} (hc : Conc cx σ μ a w) {b g : Nat} {ob : O} {vb : Value} (hb : σ.B b = some ob) (hμ : μ b = some vb) (hg : hd0 vb = some g) :
    ∃ us, RdL w (okOf cx σ μ) μ us ob.cells ∧ ∀ (j : Nat) (u : Value), us[j]? = some u → w.cell? ⟨g, j, none⟩ = some u ∧ w.frozen? ⟨g, j, none⟩ = false := by
  have := hc.objs b ob hb
  cases ob with
  | bx T cs =>
    obtain ⟨g', us, h1, h2, h3, h4⟩ := this
    rw [hμ] at h1
    injection h1 with h1
    subst h1
    have : g' = g := by simpa [hd0] using hg
    subst this
    exact ⟨us, h4, fun j u hj => ⟨by simp [World.cell?, h3, hj], by simp [World.frozen?, h3]⟩⟩
  | rw E z n cs =>
    obtain ⟨v, us, h1, h2, h3⟩ := this
    rw [hμ] at h1
    injection h1 with h1
    subst h1
    rcases h2.2 with ⟨rfl, _⟩ | ⟨g', cap, cur, rfl, hb', hh, _, _, _, ht⟩
    · simp [hd0] at hg
    · have : g' = g := by simpa [hd0] using hg
      subst this
      refine ⟨us, h3, fun j u hj => ?_⟩
      have hcur : cur[j]? = some u := by
        rw [← ht, List.getElem?_take] at hj
        split at hj
        · simpa using hj
        · cases hj
      exact ⟨by simp [World.cell?, hh, hcur], by simp [World.frozen?, hh]⟩
  | mp es clock => exact ⟨[], ⟨rfl, fun j u x h => by simp at h⟩, fun j u h => by simp at h⟩
  | it m since seen last => exact ⟨[], ⟨rfl, fun j u x h => by simp at h⟩, fun j u h => by simp at h⟩
  | itn => exact ⟨[], ⟨rfl, fun j u x h => by simp at h⟩, fun j u h => by simp at h⟩
theorem RdL.drop {w : World} {ok : Bool → Nat → Prop} {μ : Nat → Option Value} {us : List Value} {cs : List Ce} (h : RdL w ok μ us cs) (i : Nat) : RdL w ok μ (us.drop i) (cs.drop i) :=
  ⟨by rw [List.length_drop, List.length_drop, h.1], fun j u x h1 h2 => h.2 (i + j) u x (by simpa using h1) (by simpa using h2)⟩
theorem RdL.take {w : World} {ok : Bool → Nat → Prop} {μ : Nat → Option Value} {us : List Value} {cs : List Ce} (h : RdL w ok μ us cs) (n : Nat) : RdL w ok μ (us.take n) (cs.take n) :=
  ⟨by rw [List.length_take, List.length_take, h.1], fun j u x h1 h2 => by
    rw [List.getElem?_take] at h1 h2
    split at h1
    · rename_i hj; rw [if_pos hj] at h2; exact h.2 j u x h1 h2
    · cases h1⟩

/-- A pointer operand into an object. -/
theorem sv_ptr {σ : St} {μ : Nat → Option Value} {a : Act} {w : World} (hc : Conc cx σ μ a w) {x : Operand} {b off : Nat} (hx : SV σ x = .c (.ptr b off)) : ∃ g vb, a.eval x = .pointer (some ⟨g, off, none⟩) ∧ μ b = some vb ∧ hd0 vb = some g := by
  have := sv_rd hc x
  rw [hx] at this
  generalize a.eval x = y at this ⊢
  cases this with
  | c _ _ h => cases h with
    | ptr _ _ g vb h hg => exact ⟨g, vb, rfl, h, hg⟩

theorem op_load_agg (T : TypeId) (x : Operand) (b off : Nat) (ob : O) (cs : List Ce) (ho : o.op = .load T x) (hd : ∀ d, o.dst = some d → d < cx.N) (hx : SV σi x = .c (.ptr b off)) (hb : σi.B b = some ob)
    (hs : tSz P T = some (cs.length, true)) (hcs : (ob.cells.drop off).take cs.length = cs) : OpW P cx ops o σi ⟨.agg cs, [b], [], []⟩ :=
  opw_val hd fun σ μ a w h1 h2 hc => by
    obtain ⟨g, vb, e1, e2, e3⟩ := sv_ptr hc ((sv_same h1 (x := x) (by simp [ho, Op.operands])).trans hx)
    obtain ⟨us, h3, h4⟩ := obj_cells hc ((h2 b (by simp)).trans hb) e2 e3
    have h5 := (h3.drop off).take cs.length
    rw [hcs] at h5
    refine ⟨.agg ((us.drop off).take cs.length).toArray, ?_, .agg _ _ h5⟩
    have := run_load_agg (P := P) w ⟨g, off, none⟩ T ((us.drop off).take cs.length) (by rw [h5.1]; exact hs) (fun j u hj => by rw [Addr.add_mid]; exact (h4 _ u (list_cut hj)).1)
    simp only [execOp, ho, e1, Sem.run_bind, this, Result.andThen_ok, Sem.run_pure]
theorem op_load (T : TypeId) (x : Operand) (b off : Nat) (ob : O) (c : Ce) (ho : o.op = .load T x) (hd : ∀ d, o.dst = some d → d < cx.N) (hx : SV σi x = .c (.ptr b off)) (hb : σi.B b = some ob)
    (hs : tSz P T = some (1, false)) (hcs : ob.cells[off]? = some c) : OpW P cx ops o σi ⟨.c c, [b], [], []⟩ :=
  opw_val hd fun σ μ a w h1 h2 hc => by
    obtain ⟨g, vb, e1, e2, e3⟩ := sv_ptr hc ((sv_same h1 (x := x) (by simp [ho, Op.operands])).trans hx)
    obtain ⟨us, h3, h4⟩ := obj_cells hc ((h2 b (by simp)).trans hb) e2 e3
    have hlt : off < us.length := by have := (List.getElem?_eq_some_iff.1 hcs).1; rw [h3.1]; exact this
    refine ⟨us[off], ?_, .c _ _ (h3.2 off _ c (List.getElem?_eq_getElem hlt) hcs)⟩
    have := run_load_cell (P := P) w ⟨g, off, none⟩ T us[off] hs (h4 _ _ (List.getElem?_eq_getElem hlt)).1
    simp only [execOp, ho, e1, Sem.run_bind, this, Result.andThen_ok, Sem.run_pure]

/-- A pointer operand to cells that are only read. -/
theorem sv_e {σ : St} {μ : Nat → Option Value} {a : Act} {w : World} (hc : Conc cx σ μ a w) {x : Operand} {f : Bool} {ds : List D} (hx : SV σ x = .d (.e f ds)) : ∃ (ad : Addr) (us : List Value), a.eval x = .pointer (some ad) ∧ us.length = ds.length ∧ (0 < ds.length → okOf cx σ μ f ad.block) ∧
    (∀ (j : Nat) (u : Value), us[j]? = some u → w.cell? (ad.add j) = some u) ∧ ∀ (j : Nat) (u : Value) (d : D), us[j]? = some u → ds[j]? = some d → Rd w (okOf cx σ μ) u d := by
  have := sv_rd hc x
  rw [hx] at this
  generalize a.eval x = y at this ⊢
  cases this with
  | c _ _ h => cases h with
    | one _ _ h => cases h with
      | e _ ad us _ hl hok hcc hr => exact ⟨ad, us, rfl, hl, hok, hcc, hr⟩
theorem op_eload_agg (T : TypeId) (x : Operand) (f : Bool) (ds cs : List D) (ho : o.op = .load T x) (hd : ∀ d, o.dst = some d → d < cx.N) (hx : SV σi x = .d (.e f ds))
    (hs : tSz P T = some (cs.length, true)) (hcs : ds.take cs.length = cs) : OpW P cx ops o σi ⟨.agg (cs.map .one), [], [], []⟩ :=
  opw_val hd fun σ μ a w h1 h2 hc => by
    obtain ⟨ad, us, e1, hl, hok, hcc, hr⟩ := sv_e hc ((sv_same h1 (x := x) (by simp [ho, Op.operands])).trans hx)
    have h3 : RdL w (okOf cx σ μ) μ us (ds.map Ce.one) := ones_rdl hl hr
    have h5 := h3.take cs.length
    rw [← List.map_take, hcs] at h5
    refine ⟨.agg (us.take cs.length).toArray, ?_, .agg _ _ h5⟩
    have := run_load_agg (P := P) w ad T (us.take cs.length) (by have := h5.1; simp only [List.length_map] at this; rw [this]; exact hs) (fun j u hj => by
      rw [List.getElem?_take] at hj
      split at hj
      · exact hcc j u hj
      · cases hj)
    simp only [execOp, ho, e1, Sem.run_bind, this, Result.andThen_ok, Sem.run_pure]
theorem op_eload (T : TypeId) (x : Operand) (f : Bool) (ds : List D) (d : D) (ho : o.op = .load T x) (hd : ∀ d, o.dst = some d → d < cx.N) (hx : SV σi x = .d (.e f ds))
    (hs : tSz P T = some (1, false)) (hcs : ds[0]? = some d) : OpW P cx ops o σi ⟨.d d, [], [], []⟩ :=
  opw_val hd fun σ μ a w h1 h2 hc => by
    obtain ⟨ad, us, e1, hl, hok, hcc, hr⟩ := sv_e hc ((sv_same h1 (x := x) (by simp [ho, Op.operands])).trans hx)
    have hlt : 0 < us.length := by have := (List.getElem?_eq_some_iff.1 hcs).1; omega
    have h0 := List.getElem?_eq_getElem hlt
    refine ⟨us[0], ?_, .c _ _ (.one _ _ (hr 0 _ d h0 hcs))⟩
    have := run_load_cell (P := P) w ad T us[0] hs (by have := hcc 0 _ h0; simpa [Addr.add] using this)
    simp only [execOp, ho, e1, Sem.run_bind, this, Result.andThen_ok, Sem.run_pure]

theorem run_fieldAt {w : World} {T f off z : Nat} {g : Bool} (h : tFd P T f = some (off, z, g)) (hz : z ≠ 0) (ad : Addr) : (Instr.fieldAt T (.pointer (some ad)) f).run P w = .ok (.pointer (some (ad.add off))) w := by
  unfold tFd at h
  split at h
  · rename_i fs hu
    split at h
    · rename_i fl hf
      split at h
      · rename_i z' g' hs
        simp only [Option.some.injEq, Prod.mk.injEq] at h
        obtain ⟨rfl, rfl, rfl⟩ := h
        simp [Instr.fieldAt, run_underlying hu, hf, Instr.sureAddr, fieldPlace, run_sizeOf hs, hz]
      · cases h
    · cases h
  · cases h
theorem op_field (T : TypeId) (x : Operand) (f b off fo z : Nat) (g : Bool) (ho : o.op = .fieldAddr T x f) (hd : ∀ d, o.dst = some d → d < cx.N) (hx : SV σi x = .c (.ptr b off)) (hf : tFd P T f = some (fo, z, g)) (hz : (z == 0) = false) :
    OpW P cx ops o σi ⟨.c (.ptr b (off + fo)), [], [], []⟩ :=
  opw_val hd fun σ μ a w h1 h2 hc => by
    obtain ⟨k, vb, e1, e2, e3⟩ := sv_ptr hc ((sv_same h1 (x := x) (by simp [ho, Op.operands])).trans hx)
    refine ⟨_, ?_, .c _ _ (.ptr b (off + fo) k vb e2 e3)⟩
    simp only [execOp, ho, e1, Sem.run_bind, run_fieldAt hf (by simpa using hz), Result.andThen_ok, Sem.run_pure, Addr.add_mid]
theorem op_efield (T : TypeId) (x : Operand) (f fo z : Nat) (g fl : Bool) (ds : List D) (ho : o.op = .fieldAddr T x f) (hd : ∀ d, o.dst = some d → d < cx.N) (hx : SV σi x = .d (.e fl ds)) (hf : tFd P T f = some (fo, z, g)) (hz : (z == 0) = false) :
    OpW P cx ops o σi ⟨.d (.e fl (ds.drop fo)), [], [], []⟩ :=
  opw_val hd fun σ μ a w h1 h2 hc => by
    obtain ⟨ad, us, e1, hl, hok, hcc, hr⟩ := sv_e hc ((sv_same h1 (x := x) (by simp [ho, Op.operands])).trans hx)
    refine ⟨.pointer (some (ad.add fo)), ?_, .c _ _ (.one _ _ (.e fl (ad.add fo) (us.drop fo) (ds.drop fo) (by simp [hl]) (fun h => by rw [add_block]; exact hok (by simp at h; omega)) (fun j u hj => by rw [add_add']; exact hcc _ u (by simpa using hj)) (fun j u d h1 h2 => hr (fo + j) u d (by simpa using h1) (by simpa using h2))))⟩
    simp only [execOp, ho, e1, Sem.run_bind, run_fieldAt hf (by simpa using hz), Result.andThen_ok, Sem.run_pure]

theorem tEl_info {T e z by' : Nat} (h : tEl P T = some (e, z, by')) : P.underlying T = some (.slice e) ∧ ∃ i, P.info? e = some i ∧ i.size = z ∧ i.bytes = by' := by
  unfold tEl at h
  split at h
  · rename_i e' hu
    split at h
    · rename_i i hi
      simp only [Option.some.injEq, Prod.mk.injEq] at h
      obtain ⟨rfl, rfl, rfl⟩ := h
      exact ⟨hu, i, hi, rfl, rfl⟩
    · cases h
  · cases h
theorem run_indexAt' {w : World} {T e z by' : Nat} (h : tEl P T = some (e, z, by')) (ad : Addr) (n c : Nat) (k : IntKind) (i : Int) (h0 : 0 ≤ i) (h1 : i < n) : (Instr.indexAt T (.slice (some ad) n c) (.int k i)).run P w = .ok (.pointer (some (ad.add (i.toNat * z)))) w := by
  obtain ⟨hu, inf, hi, hz, _⟩ := tEl_info h
  simp [Instr.indexAt, run_underlying hu, asIntOf, h0, h1, sizeOf, typeInfo, hi, hz]
/-- A slice operand that is read. -/
theorem sv_s {σ : St} {μ : Nat → Option Value} {a : Act} {w : World} (hc : Conc cx σ μ a w) {x : Operand} {f : Bool} {n : Nat} {ds : List D} (hx : SV σ x = .d (.s f n ds)) : ∃ (A : Option Addr) (c : Nat) (ad : Addr) (us : List Value), a.eval x = .slice A n c ∧ n ≤ c ∧ c ≤ 9223372036854775807 ∧ (0 < ds.length → A = some ad) ∧ us.length = ds.length ∧ (0 < ds.length → okOf cx σ μ f ad.block) ∧
    (∀ (j : Nat) (u : Value), us[j]? = some u → w.cell? (ad.add j) = some u) ∧ ∀ (j : Nat) (u : Value) (d : D), us[j]? = some u → ds[j]? = some d → Rd w (okOf cx σ μ) u d := by
  have := sv_rd hc x
  rw [hx] at this
  generalize a.eval x = y at this ⊢
  cases this with
  | c _ _ h => cases h with
    | one _ _ h => cases h with
      | s _ A _ c ad us _ hn hm hA hl hok hcc hr => exact ⟨A, c, ad, us, rfl, hn, hm, hA, hl, hok, hcc, hr⟩
theorem op_index (T : TypeId) (x ix : Operand) (f : Bool) (n e z by' : Nat) (ds : List D) (k : IntKind) (i : Int) (ho : o.op = .indexAddr T x ix) (hd : ∀ d, o.dst = some d → d < cx.N) (hx : SV σi x = .d (.s f n ds)) (hi : SV σi ix = .v (.int k i))
    (hT : tEl P T = some (e, z, by')) (h0 : 0 ≤ i) (h1 : i < n) (hl : i.toNat * z < ds.length) : OpW P cx ops o σi ⟨.d (.e f (ds.drop (i.toNat * z))), [], [], []⟩ :=
  opw_val hd fun σ μ a w hs h2 hc => by
    obtain ⟨A, c, ad, us, e1, hn, hm, hA, hlen, hok, hcc, hr⟩ := sv_s hc ((sv_same hs (x := x) (by simp [ho, Op.operands])).trans hx)
    have e2 := sv_v hc ((sv_same hs (x := ix) (by simp [ho, Op.operands])).trans hi)
    have hA' := hA (by omega)
    subst hA'
    refine ⟨.pointer (some (ad.add (i.toNat * z))), ?_, .c _ _ (.one _ _ (.e f (ad.add (i.toNat * z)) (us.drop (i.toNat * z)) _ (by simp [hlen]) (fun h => by rw [add_block]; exact hok (by omega)) (fun j u hj => by rw [add_add']; exact hcc _ u (by simpa using hj)) (fun j u d h1 h2 => hr (i.toNat * z + j) u d (by simpa using h1) (by simpa using h2))))⟩
    simp only [execOp, ho, e1, e2, Sem.run_bind, run_indexAt' hT ad n c k i h0 h1, Result.andThen_ok, Sem.run_pure]
/-- A row operand. -/
theorem sv_row {σ : St} {μ : Nat → Option Value} {a : Act} {w : World} (hc : Conc cx σ μ a w) {x : Operand} {b n : Nat} (hx : SV σ x = .c (.row b n)) : ∃ A c, a.eval x = .slice A n c ∧ μ b = some (.slice A n c) ∧ n ≤ 9223372036854775807 := by
  have := sv_rd hc x
  rw [hx] at this
  generalize a.eval x = y at this ⊢
  cases this with
  | c _ _ h => cases h with
    | row _ _ c A hm h => exact ⟨A, c, rfl, h, hm⟩
theorem op_rindex (T : TypeId) (x ix : Operand) (b n n' E e z z' by' : Nat) (cs : List Ce) (k : IntKind) (i : Int) (ho : o.op = .indexAddr T x ix) (hd : ∀ d, o.dst = some d → d < cx.N) (hx : SV σi x = .c (.row b n)) (hi : SV σi ix = .v (.int k i)) (hb : σi.B b = some (.rw E z' n' cs))
    (hT : tEl P T = some (e, z, by')) (h0 : 0 ≤ i) (h1 : i < n) : OpW P cx ops o σi ⟨.c (.ptr b (i.toNat * z)), [b], [], []⟩ :=
  opw_val hd fun σ μ a w hs h2 hc => by
    obtain ⟨A, c, e1, hμ, hm⟩ := sv_row hc ((sv_same hs (x := x) (by simp [ho, Op.operands])).trans hx)
    have e2 := sv_v hc ((sv_same hs (x := ix) (by simp [ho, Op.operands])).trans hi)
    obtain ⟨v, us, g1, g2, g3⟩ := hc.objs b _ ((h2 b (by simp)).trans hb)
    rw [hμ] at g1
    injection g1 with g1
    subst g1
    rcases g2.2 with ⟨h, _⟩ | ⟨g, cap, cur, h, hb', hh, _⟩
    · exfalso; injection h with _ h _; omega
    · injection h with hA hn hc'
      subst hA
      refine ⟨.pointer (some ⟨g, i.toNat * z, none⟩), ?_, .c _ _ (.ptr b _ g _ hμ rfl)⟩
      simp only [execOp, ho, e1, e2, Sem.run_bind, run_indexAt' hT _ n c k i h0 h1, Result.andThen_ok, Sem.run_pure, Addr.add_mid, Nat.zero_add]
end
end Go.Fl
