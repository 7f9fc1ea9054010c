/- Maps of one's own. -/
import Derived.Test.YtkfmdjbfffncpaaGreatFlApp
set_option linter.unusedVariables false
namespace Go.Fl
open Go.RowKit

/-! ### Entries -/
abbrev Ent := Value × Nat × Ce
def mfind (kd : TypeDesc) (k : Value) : List Ent → Nat → Option (Option (Nat × Ce))
  | [], _ => some none
  | e :: es, i =>
    match Instr.sameNow kd k e.1 with
    | some true => some (some (i, e.2.2))
    | some false => mfind kd k es (i + 1)
    | none => none
theorem ents_nil (vs : List Value) : ents [] vs = [] := rfl
theorem ents_cons (e : Ent) (es : List Ent) (v : Value) (vs : List Value) : ents (e :: es) (v :: vs) = ⟨e.1, v, e.2.1⟩ :: ents es vs := rfl
theorem ents_length {es : List Ent} {vs : List Value} (h : vs.length = es.length) : (ents es vs).length = es.length := by simp [ents, h]
section
variable {w : World} {ok : Bool → Nat → Prop} {μ : Nat → Option Value}
theorem rdl_tail {v : Value} {vs : List Value} {c : Ce} {cs : List Ce} (h : RdL w ok μ (v :: vs) (c :: cs)) : RdC w ok μ v c ∧ RdL w ok μ vs cs :=
  ⟨h.2 0 v c rfl rfl, by have := h.1; simpa using this, fun j u x h1 h2 => h.2 (j + 1) u x (by simpa using h1) (by simpa using h2)⟩
theorem rdl_cons {v : Value} {vs : List Value} {c : Ce} {cs : List Ce} (h0 : RdC w ok μ v c) (h : RdL w ok μ vs cs) : RdL w ok μ (v :: vs) (c :: cs) :=
  ⟨by simp [h.1], fun j u x h1 h2 => by
    cases j with
    | zero => simp at h1 h2; subst h1; subst h2; exact h0
    | succ j => exact h.2 j u x (by simpa using h1) (by simpa using h2)⟩
theorem rdl_nil : RdL w ok μ [] [] := ⟨rfl, fun j u x h => by simp at h⟩
theorem find_ents {kd : TypeDesc} {k : Value} : ∀ (es : List Ent) (vs : List Value) (i : Nat) (r : Option (Nat × Ce)), RdL w ok μ vs (es.map (·.2.2)) → mfind kd k es i = some r →
    match r with
    | none => Instr.findNow kd k (ents es vs) i = some none
    | some (j, c) => ∃ v, Instr.findNow kd k (ents es vs) i = some (some (j, v)) ∧ RdC w ok μ v c ∧ i ≤ j ∧ ∃ e, es[j - i]? = some e ∧ e.2.2 = c ∧ Instr.sameNow kd k e.1 = some true
  | [], vs, i, r, h, hf => by simp only [mfind, Option.some.injEq] at hf; subst hf; rfl
  | e :: es, [], i, r, h, hf => by have := h.1; simp at this
  | e :: es, v :: vs, i, r, h, hf => by
    obtain ⟨h1, h2⟩ := rdl_tail h
    simp only [mfind] at hf
    split at hf
    · rename_i hs
      simp only [Option.some.injEq] at hf
      subst hf
      refine ⟨v, ?_, h1, Nat.le_refl _, e, by simp, rfl, hs⟩
      rw [ents_cons, Instr.findNow, hs]
    · rename_i hs
      have ih := find_ents es vs (i + 1) r h2 hf
      rw [ents_cons]
      cases r with
      | none => simp only [] at ih ⊢; rw [Instr.findNow, hs]; exact ih
      | some p =>
        obtain ⟨j, c⟩ := p
        obtain ⟨v', q1, q2, q3, e', q4, q5, q6⟩ := ih
        refine ⟨v', by rw [Instr.findNow, hs]; exact q1, q2, by omega, e', ?_, q5, q6⟩
        rw [show j - i = (j - (i + 1)) + 1 by omega, List.getElem?_cons_succ]; exact q4
    · cases hf
theorem filter_ents (p : Nat → Bool) : ∀ (es : List Ent) (vs : List Value), RdL w ok μ vs (es.map (·.2.2)) → ∃ vs', (ents es vs).filter (fun e => p e.born) = ents (es.filter fun e => p e.2.1) vs' ∧ RdL w ok μ vs' ((es.filter fun e => p e.2.1).map (·.2.2))
  | [], vs, h => ⟨[], rfl, rdl_nil⟩
  | e :: es, [], h => by have := h.1; simp at this
  | e :: es, v :: vs, h => by
    obtain ⟨h1, h2⟩ := rdl_tail h
    obtain ⟨vs', q1, q2⟩ := filter_ents p es vs h2
    rw [ents_cons, List.filter_cons, List.filter_cons]
    by_cases hp : p e.2.1
    · rw [if_pos hp, if_pos hp]
      exact ⟨v :: vs', by rw [q1, ents_cons], rdl_cons h1 q2⟩
    · rw [if_neg hp, if_neg hp]
      exact ⟨vs', q1, q2⟩
theorem born_ents : ∀ (es : List Ent) (vs : List Value), vs.length = es.length → (ents es vs).map (·.born) = es.map (·.2.1)
  | [], vs, _ => rfl
  | e :: es, [], h => by simp at h
  | e :: es, v :: vs, h => by rw [ents_cons, List.map_cons, List.map_cons, born_ents es vs (by simpa using h)]
end

/-! ### Types -/
/-- A map's key type (below its name), its elements' type and their nought. -/
def tMap (P : Program) (T : TypeId) : Option (TypeId × TypeDesc × Value) :=
  match P.underlying T with
  | some (.map k e) => match P.underlying k with
    | some kd => match kd with
      | .int _ | .string | .bool => match P.info? e with
        | some i => match i.zero with
          | some z => if z.oneCell' then some (k, kd, z) else none
          | none => none
        | none => none
      | _ => none
    | none => none
  | _ => none
theorem tMap_info {P : Program} {T : TypeId} {k : TypeId} {kd : TypeDesc} {z : Value} (h : tMap P T = some (k, kd, z)) : ∃ e i, P.underlying T = some (.map k e) ∧ P.underlying k = some kd ∧ P.info? e = some i ∧ i.zero = some z ∧ z.oneCell' = true ∧ ((∃ q, kd = .int q) ∨ kd = .string ∨ kd = .bool) := by
  unfold tMap at h
  split at h
  · rename_i k' e' hu
    split at h
    · rename_i kd' hk
      have key : ∀ (x : Option (TypeId × TypeDesc × Value)), x = some (k, kd, z) → x = (match P.info? e' with
          | some i => match i.zero with
            | some z => if z.oneCell' then some (k', kd', z) else none
            | none => none
          | none => none) → ((∃ q, kd' = .int q) ∨ kd' = .string ∨ kd' = .bool) → ∃ e i, P.underlying T = some (.map k e) ∧ P.underlying k = some kd ∧ P.info? e = some i ∧ i.zero = some z ∧ z.oneCell' = true ∧ ((∃ q, kd = .int q) ∨ kd = .string ∨ kd = .bool) := by
        intro x hx he hq
        rw [hx] at he
        split at he
        · rename_i i hi
          split at he
          · rename_i z' hz
            split at he
            · rename_i h1
              simp only [Option.some.injEq, Prod.mk.injEq] at he
              obtain ⟨rfl, rfl, rfl⟩ := he
              exact ⟨e', i, hu, hk, hi, hz, h1, hq⟩
            · cases he
          · cases he
        · cases he
      split at h
      · exact key _ h rfl (.inl ⟨_, rfl⟩)
      · exact key _ h rfl (.inr (.inl rfl))
      · exact key _ h rfl (.inr (.inr rfl))
      · cases h
    · cases h
  · cases h
section
variable {P : Program}
theorem run_checkKey {w : World} {b : Bool} {k : TypeId} {kd : TypeDesc} {v : Value} (hk : P.underlying k = some kd) (hq : (∃ q, kd = .int q) ∨ kd = .string ∨ kd = .bool) : (Instr.checkKey b 10000 k v).run P w = .ok () w := by
  show (Instr.checkKey b (9999 + 1) k v).run P w = _
  rw [Instr.checkKey]
  rcases hq with ⟨q, rfl⟩ | rfl | rfl
  all_goals simp only [Sem.run_bind, run_underlying hk, Result.andThen_ok, Sem.run_pure]
theorem run_getMap {w : World} {g : Nat} {es : Array MapEntry} {clock : Nat} (h : w.heap[g]? = some (.map es clock)) : (getObj g).run P w = .ok (.map es clock) w := by
  simp [getObj, Sem.run, h]
theorem run_setObj {w : World} {g : Nat} {ob ob' : Obj} (h : w.heap[g]? = some ob) (hn : ∀ c e f, ob ≠ .cells c e f) : (setObj g ob').run P w = .ok () { w with heap := w.heap.setIfInBounds g ob' } := by
  simp only [setObj, Sem.run]
  split
  · rename_i c e f hh; rw [h] at hh; injection hh with hh; exact absurd hh (hn c e f)
  · rfl
  · rename_i hh; rw [h] at hh; cases hh
theorem run_findKey {w : World} {k : TypeId} {kd : TypeDesc} {v : Value} {es : List MapEntry} {r : Option (Nat × Value)} (hk : P.underlying k = some kd) (h : Instr.findNow kd v es 0 = some r) : (Instr.findKey k v es).run P w = .ok r w := by
  simp only [Instr.findKey, Sem.run_bind, run_underlying hk, Result.andThen_ok, h, Sem.run_pure]
theorem run_lookup {w : World} {T k : TypeId} {kd : TypeDesc} {z key : Value} {g clock : Nat} {es : Array MapEntry} {ok : Bool} {r : Option (Nat × Value)} (hT : tMap P T = some (k, kd, z)) (hg : w.heap[g]? = some (.map es clock)) (h : Instr.findNow kd key es.toList 0 = some r) :
    (Instr.lookup T (.map (some g)) key ok).run P w = .ok (if ok then .tuple #[(r.map (·.2)).getD z, .bool r.isSome] else (r.map (·.2)).getD z) w := by
  obtain ⟨e, i, h1, h2, h3, h4, h5, h6⟩ := tMap_info hT
  unfold Instr.lookup
  simp only [Sem.run_bind, run_underlying h1, Result.andThen_ok, run_getMap hg, Sem.run_pure, run_checkKey h2 h6, run_findKey h2 h]
  cases r with
  | some p => cases ok <;> simp
  | none =>
    have hz : (zeroValue e).run P w = .ok z w := by simp [zeroValue, typeInfo, h3, h4]
    simp only [Sem.run_bind, hz, Result.andThen_ok, Sem.run_pure]
    cases ok <;> simp
theorem run_lookup_nil {w : World} {T k : TypeId} {kd : TypeDesc} {z key : Value} {ok : Bool} (hT : tMap P T = some (k, kd, z)) :
    (Instr.lookup T (.map none) key ok).run P w = .ok (if ok then .tuple #[z, .bool false] else z) w := by
  obtain ⟨e, i, h1, h2, h3, h4, h5, h6⟩ := tMap_info hT
  have hz : (zeroValue e).run P w = .ok z w := by simp [zeroValue, typeInfo, h3, h4]
  unfold Instr.lookup
  have hf : Instr.findNow kd key (#[] : Array MapEntry).toList 0 = some none := rfl
  simp only [Sem.run_bind, run_underlying h1, Result.andThen_ok, Sem.run_pure, run_checkKey h2 h6, run_findKey h2 hf, hz]
end

section
variable {P : Program} {cx : Cx} {ops : Array Oper} {o : Oper} {σi : St}

/-- A map operand. -/
theorem sv_mp {σ : St} {μ : Nat → Option Value} {a : Act} {w : World} (hc : Conc cx σ μ a w) {x : Operand} {b : Nat} (hx : SV σ x = .c (.mp b)) : ∃ g, a.eval x = .map (some g) ∧ μ b = some (.map (some g)) := by
  have := sv_rd hc x
  rw [hx] at this
  generalize a.eval x = y at this ⊢
  cases this with
  | c _ _ h => cases h with
    | mp _ g h => exact ⟨g, rfl, h⟩
theorem obj_mp {σ : St} {μ : Nat → Option Value} {a : Act} {w : World} (hc : Conc cx σ μ a w) {b g clock : Nat} {es : List Ent} (hb : σ.B b = some (.mp es clock)) (hμ : μ b = some (.map (some g))) : ∃ vs, cx.w0.heap.size ≤ g ∧ w.heap[g]? = some (.map (ents es vs).toArray clock) ∧ RdL w (okOf cx σ μ) μ vs (es.map (·.2.2)) := by
  obtain ⟨g', vs, h1, h2, h3, h4⟩ := hc.objs b _ hb
  rw [hμ] at h1
  injection h1 with h1
  injection h1 with h1
  injection h1 with h1
  subst h1
  exact ⟨vs, h2, h3, h4⟩

theorem op_makeMap (T : TypeId) (b : Nat) (ho : o.op = .makeMap T none) (hd : ∀ d, o.dst = some d → d < cx.N) (hnf : cx.nf b = false) : OpW P cx ops o σi ⟨.c (.mp b), [], [b], [(b, some (.mp [] 0))]⟩ := fun σ a w h1 h2 h3 h4 K Q hK => by
  obtain ⟨μ, hc⟩ := h4
  have hrun : (Instr.makeMap T (Option.map a.eval none)).run P w = .ok (.map (some w.heap.size)) (w.alloc (.map #[] 0)) := by
    simp [Instr.makeMap, newObj, Sem.run]
  unfold Oper.wp
  simp only [execOp, ho, Sem.run_bind, hrun, Result.andThen_ok, Sem.run_pure, Oper.upon_value]
  refine hK _ _ ?_
  refine conc_obj hc hd b _ _ (.map (some w.heap.size)) _ hnf h3 (below_alloc' w _) (by simp [O.nm]) (.inr rfl) (.c _ _ (.mp b w.heap.size (by simp))) fun ok μ1 hok hμ1 hμb => ?_
  exact ⟨w.heap.size, [], hμb, hc.below.size, heap_alloc_new w _, rdl_nil⟩

def lookX (ok : Bool) (c : Ce) (b : Bool) : AV := if ok then .tup [.c c, .c (.one (.v (.bool b)))] else .c c
theorem lookX_rd {w : World} {okk : Bool → Nat → Prop} {μ : Nat → Option Value} {v : Value} {c : Ce} {b : Bool} (ok : Bool) (h : RdC w okk μ v c) : RdA w okk μ (if ok then .tuple #[v, .bool b] else v) (lookX ok c b) := by
  cases ok with
  | false => exact .c _ _ h
  | true =>
    refine .tup [v, .bool b] _ rfl fun j u x h1 h2 => ?_
    match j with
    | 0 => simp at h1 h2; subst h1; subst h2; exact .c _ _ h
    | 1 => simp at h1 h2; subst h1; subst h2; exact .c _ _ (.one _ _ (.v _ rfl))
    | j + 2 => simp at h1
theorem op_lookup (T : TypeId) (x i : Operand) (ok : Bool) (b clock : Nat) (k : TypeId) (kd : TypeDesc) (z key : Value) (es : List Ent) (r : Option (Nat × Ce)) (av : AV) (ho : o.op = .lookup T x i ok) (hd : ∀ d, o.dst = some d → d < cx.N) (hx : SV σi x = .c (.mp b)) (hi : SV σi i = .v key) (hb : σi.B b = some (.mp es clock)) (hT : tMap P T = some (k, kd, z)) (hf : mfind kd key es 0 = some r)
    (hav : lookX ok ((r.map (·.2)).getD (constX z)) r.isSome = av) : OpW P cx ops o σi ⟨av, [b], [], []⟩ :=
  opw_val hd fun σ μ a w hs h2 hc => by
    subst hav
    obtain ⟨g, e1, hμ⟩ := sv_mp hc ((sv_same hs (x := x) (by simp [ho, Op.operands])).trans hx)
    have e2 := sv_v hc ((sv_same hs (x := i) (by simp [ho, Op.operands])).trans hi)
    obtain ⟨vs, _, hh, hr⟩ := obj_mp hc ((h2 b (by simp)).trans hb) hμ
    have hfe := find_ents es vs 0 r hr hf
    obtain ⟨e, inf, _, _, _, _, hz1, _⟩ := tMap_info hT
    cases r with
    | none =>
      have := run_lookup (P := P) (ok := ok) (key := key) hT hh (r := none) (by simpa using hfe)
      refine ⟨_, ?_, lookX_rd ok (constX_rd w _ μ z hz1)⟩
      · simp only [execOp, ho, e1, e2, Sem.run_bind, this, Result.andThen_ok, Sem.run_pure]; rfl
    | some p =>
      obtain ⟨j, c⟩ := p
      obtain ⟨v, q1, q2, _⟩ := hfe
      have := run_lookup (P := P) (ok := ok) (key := key) hT hh (r := some (j, v)) (by simpa using q1)
      exact ⟨_, by simp only [execOp, ho, e1, e2, Sem.run_bind, this, Result.andThen_ok, Sem.run_pure]; rfl, lookX_rd ok q2⟩
theorem op_lookup_nil (T : TypeId) (x i : Operand) (ok : Bool) (k : TypeId) (kd : TypeDesc) (z key : Value) (av : AV) (ho : o.op = .lookup T x i ok) (hd : ∀ d, o.dst = some d → d < cx.N) (hx : SV σi x = .v (.map none)) (hi : SV σi i = .v key) (hT : tMap P T = some (k, kd, z))
    (hav : lookX ok (constX z) false = av) : OpW P cx ops o σi ⟨av, [], [], []⟩ :=
  opw_val hd fun σ μ a w hs h2 hc => by
    subst hav
    have e1 := sv_v hc ((sv_same hs (x := x) (by simp [ho, Op.operands])).trans hx)
    have e2 := sv_v hc ((sv_same hs (x := i) (by simp [ho, Op.operands])).trans hi)
    obtain ⟨e, inf, _, _, _, _, hz1, _⟩ := tMap_info hT
    have := run_lookup_nil (P := P) (w := w) (ok := ok) (key := key) hT
    exact ⟨_, by simp only [execOp, ho, e1, e2, Sem.run_bind, this, Result.andThen_ok, Sem.run_pure], lookX_rd ok (constX_rd w _ μ z hz1)⟩
theorem op_lenmap (x : Operand) (T : TypeId) (b clock : Nat) (k : TypeId) (kd : TypeDesc) (z : Value) (es : List Ent) (ho : o.op = .call { callee := .builtin .len, args := #[x], argTypes := #[T] }) (hd : ∀ d, o.dst = some d → d < cx.N) (hx : SV σi x = .c (.mp b)) (hb : σi.B b = some (.mp es clock)) (hT : tMap P T = some (k, kd, z)) : OpW P cx ops o σi ⟨.v (.int .i64 es.length), [b], [], []⟩ :=
  opw_val hd fun σ μ a w hs h2 hc => by
    obtain ⟨g, e1, hμ⟩ := sv_mp hc ((sv_same hs (x := x) (by simp [ho, Op.operands, Call.operands])).trans hx)
    obtain ⟨vs, _, hh, hr⟩ := obj_mp hc ((h2 b (by simp)).trans hb) hμ
    obtain ⟨e, inf, h1, _⟩ := tMap_info hT
    have hl : (ents es vs).length = es.length := ents_length (by have := hr.1; simpa using this)
    refine ⟨.int .i64 es.length, ?_, .c _ _ (.one _ _ (.v _ rfl))⟩
    exact exec_builtin (P := P) (w := w) (w1 := w) (n := .value (.int .i64 es.length)) ho rfl (by simp [builtin, Builtin.len_, e1, run_underlying h1, run_getMap hh, goInt, hl])

/-- A map whose entries alone have changed. -/
theorem conc_map {σ : St} {μ : Nat → Option Value} {a : Act} {w : World} (hc : Conc cx σ μ a w) (dst : Option Nat) (hd : ∀ d, dst = some d → d < cx.N) (b g clock clock' : Nat) (es es' : List Ent) (vs' : List Value) (av : AV) (v : Value) (rd : List Nat) (hb : σ.B b = some (.mp es clock)) (hμ : μ b = some (.map (some g))) (hg : g < w.heap.size) (hg0 : cx.w0.heap.size ≤ g)
    (hr : RdL w (okOf cx σ μ) μ vs' (es'.map (·.2.2))) (hv : dst = none ∨ ∀ w1 ok, RdA w1 ok μ v av) : Con cx (σ.app dst ⟨av, rd, [], [(b, some (.mp es' clock'))]⟩) (a.put dst v) { w with heap := w.heap.setIfInBounds g (.map (ents es' vs').toArray clock') } := by
  have hfar : ∀ k, blk (.map (some g)) ≠ some k → (w.heap.setIfInBounds g (.map (ents es' vs').toArray clock'))[k]? = w.heap[k]? := fun k hk => Array.getElem?_setIfInBounds_ne fun e => hk (by rw [e]; rfl)
  refine conc_set hc hd b _ _ _ _ (.map (some g)) { w with heap := w.heap.setIfInBounds g (.map (ents es' vs').toArray clock') } rd hb hμ ?_ hfar (hv.imp id fun h => h _ _) ?_
  · exact hc.below.trans ⟨rfl, rfl, rfl, by simp, fun k hk => hfar k fun e => by injection e; omega⟩
  · refine ⟨g, vs', hμ, hg0, ?_, hr.keep (fun f k h _ => hfar k (h.2.2 b _ (by rw [hb]; rfl) hμ)) (fun _ _ h _ => h) (fun _ _ => rfl)⟩
    show (w.heap.setIfInBounds g _)[g]? = _
    rw [Array.getElem?_setIfInBounds_self_of_lt hg]

theorem setEnt {es : List Ent} {vs : List Value} {i : Nat} {k : Value} {v : Value} {n : Nat} {c : Ce} {e : Ent} (he : es[i]? = some e) (hl : vs.length = es.length) (hn : e.2.1 = n) : ((ents es vs).toArray.modify i fun e => { e with key := k, val := v }) = (ents (es.set i (k, n, c)) (vs.set i v)).toArray := by
  have hi : i < es.length := (List.getElem?_eq_some_iff.1 he).1
  apply Array.ext'
  apply List.ext_getElem?
  intro j
  rw [Array.getElem?_toList, Array.getElem?_modify]
  simp only [List.getElem?_toArray]
  have hz : ∀ (es : List Ent) (vs : List Value) (j : Nat), (ents es vs)[j]? = match es[j]?, vs[j]? with
      | some e, some v => some ⟨e.1, v, e.2.1⟩
      | _, _ => none := by
    intro es vs j
    simp only [ents, List.getElem?_map, List.zip, List.getElem?_zipWith]
    cases es[j]? <;> cases vs[j]? <;> rfl
  rw [hz, hz]
  by_cases hj : i = j
  · subst hj
    rw [if_pos rfl, List.getElem?_set_self hi, List.getElem?_set_self (by omega), he, List.getElem?_eq_getElem (by omega)]
    simp [hn]
  · rw [if_neg hj, List.getElem?_set_ne hj, List.getElem?_set_ne hj]

theorem ba_eq {x y : ByteArray} (h : (x == y) = true) : x = y := by
  cases x; cases y
  rename_i a b
  have : (a == b) = true := h
  have := eq_of_beq this
  subst this; rfl
theorem sameNow_bits {kd : TypeDesc} {a b : Value} (h : Instr.sameNow kd a b = some true) : Instr.sameBits 10000 b a = true := by
  unfold Instr.sameNow at h
  split at h
  · rename_i k x k' y
    split at h
    · rename_i hk
      subst hk
      have : x = y := by simpa using h
      subst this
      simp [Instr.sameBits]
    · cases h
  · rename_i x y
    have : (x == y) = true := by simpa using h
    have e : x = y := ba_eq this
    subst e
    unfold Instr.sameBits
    exact this
  · rename_i x y
    have : x = y := by simpa using h
    subst this
    simp [Instr.sameBits]
  · cases h

/-- m[k] = v, where the key is new. -/
theorem op_mapUpdate (T : TypeId) (x i y : Operand) (b clock clock' : Nat) (k : TypeId) (kd : TypeDesc) (z key : Value) (es es' : List Ent) (r : Option (Nat × Ce)) (c : Ce) (ho : o.op = .mapUpdate T x i y) (hd : o.dst = none) (hx : SV σi x = .c (.mp b)) (hi : SV σi i = .v key) (hy : SV σi y = .c c) (hj : c ≠ .junk) (hb : σi.B b = some (.mp es clock)) (hT : tMap P T = some (k, kd, z)) (hf : mfind kd key es 0 = some r)
    (he : (match r with
      | none => (es ++ [(key, clock, c)], clock + 1)
      | some (j, _) => (es.set j (key, (es.getD j default).2.1, c), clock)) = (es', clock')) : OpW P cx ops o σi ⟨.c .junk, [b], [], [(b, some (.mp es' clock'))]⟩ := fun σ a w h1 h2 h3 h4 K Q hK => by
  obtain ⟨μ, hc⟩ := h4
  obtain ⟨g, e1, hμ⟩ := sv_mp hc ((sv_same h1 (x := x) (by simp [ho, Op.operands])).trans hx)
  have e2 := sv_v hc ((sv_same h1 (x := i) (by simp [ho, Op.operands])).trans hi)
  have hb' := (h2 b (by simp)).trans hb
  obtain ⟨vs, hg0, hh, hr⟩ := obj_mp hc hb' hμ
  have hyv : RdC w (okOf cx σ μ) μ (a.eval y) c := by
    have := sv_rd hc y
    rw [(sv_same h1 (x := y) (by simp [ho, Op.operands])).trans hy] at this
    generalize a.eval y = v at this ⊢
    cases this with
    | c _ _ h => exact h
    | none => exact absurd rfl hj
  have hfe := find_ents es vs 0 r hr hf
  obtain ⟨e, inf, u1, u2, u3, u4, hz1, u6⟩ := tMap_info hT
  have hgl : g < w.heap.size := (Array.getElem?_eq_some_iff.1 hh).1
  have hvl : vs.length = es.length := by have := hr.1; simpa using this
  cases r with
  | none =>
    simp only [Prod.mk.injEq] at he
    obtain ⟨rfl, rfl⟩ := he
    have hrun : (Instr.mapUpdate T (.map (some g)) key (a.eval y)).run P w = .ok () { w with heap := w.heap.setIfInBounds g (.map (ents (es ++ [(key, clock, c)]) (vs ++ [a.eval y])).toArray (clock + 1)) } := by
      unfold Instr.mapUpdate
      simp only [Sem.run_bind, run_underlying u1, Result.andThen_ok, run_getMap hh, run_checkKey u2 u6, run_findKey u2 (show Instr.findNow kd key ((ents es vs).toArray).toList 0 = some none by simpa using hfe)]
      rw [run_setObj hh (by intro _ _ _ h; cases h)]
      have : (ents es vs).toArray.push { key := key, val := a.eval y, born := clock } = (ents (es ++ [(key, clock, c)]) (vs ++ [a.eval y])).toArray := by
        simp [ents, List.zip_append hvl.symm]
      rw [this]
    unfold Oper.wp
    simp only [execOp, ho, e1, e2, Sem.run_bind, hrun, Result.andThen_ok, Sem.run_pure, Oper.upon_skip]
    refine hK _ _ (conc_map hc o.dst (by simp [hd]) b g clock (clock + 1) es _ _ _ _ [b] hb' hμ hgl hg0 ?_ (.inl hd))
    refine ⟨by simp [hvl], fun j u xx hj1 hj2 => ?_⟩
    rw [List.map_append] at hj2
    by_cases hjl : j < vs.length
    · rw [List.getElem?_append_left hjl] at hj1
      rw [List.getElem?_append_left (by simpa using by omega)] at hj2
      exact hr.2 j u xx hj1 hj2
    · rw [List.getElem?_append_right (by omega)] at hj1
      rw [List.getElem?_append_right (by simp; omega)] at hj2
      simp only [List.length_map, ← hvl] at hj2
      cases hjj : j - vs.length with
      | zero => rw [hjj] at hj1 hj2; simp at hj1 hj2; subst hj1; subst hj2; exact hyv
      | succ q => rw [hjj] at hj1; simp at hj1
  | some p =>
    obtain ⟨j, c0⟩ := p
    obtain ⟨v, q1, q2, _, ee, q4, q5, q6⟩ := hfe
    simp only [Prod.mk.injEq] at he
    obtain ⟨rfl, rfl⟩ := he
    simp only [Nat.sub_zero] at q4
    have hgd : es.getD j default = ee := by rw [List.getD_eq_getElem?_getD, q4]; rfl
    have hjl : j < es.length := (List.getElem?_eq_some_iff.1 q4).1
    have hkey : (((ents es vs).toArray[j]?).map (·.key)).getD key = ee.1 := by
      have : (ents es vs)[j]? = some ⟨ee.1, vs[j]'(by omega), ee.2.1⟩ := by
        simp only [ents, List.getElem?_map, List.zip, List.getElem?_zipWith, q4, List.getElem?_eq_getElem (show j < vs.length by omega)]
        rfl
      simp [this]
    have hrun : (Instr.mapUpdate T (.map (some g)) key (a.eval y)).run P w = .ok () { w with heap := w.heap.setIfInBounds g (.map (ents (es.set j (key, (es.getD j default).2.1, c)) (vs.set j (a.eval y))).toArray clock) } := by
      unfold Instr.mapUpdate
      simp only [Sem.run_bind, run_underlying u1, Result.andThen_ok, run_getMap hh, run_checkKey u2 u6, run_findKey u2 (show Instr.findNow kd key ((ents es vs).toArray).toList 0 = some (some (j, v)) by simpa using q1)]
      simp only [Instr.keyThatStays, hkey, sameNow_bits q6, if_true, Sem.run_pure, Result.andThen_ok]
      rw [run_setObj hh (by intro _ _ _ h; cases h), setEnt (c := c) q4 hvl rfl, hgd]
    unfold Oper.wp
    simp only [execOp, ho, e1, e2, Sem.run_bind, hrun, Result.andThen_ok, Sem.run_pure, Oper.upon_skip]
    refine hK _ _ (conc_map hc o.dst (by simp [hd]) b g clock clock es _ _ _ _ [b] hb' hμ hgl hg0 ?_ (.inl hd))
    refine ⟨by simp [hvl], fun q u xx hj1 hj2 => ?_⟩
    rw [List.map_set] at hj2
    by_cases hqj : j = q
    · subst hqj
      rw [List.getElem?_set_self (by omega)] at hj1
      rw [List.getElem?_set_self (by simpa using hjl)] at hj2
      simp at hj1 hj2; subst hj1; subst hj2; exact hyv
    · rw [List.getElem?_set_ne hqj] at hj1 hj2
      exact hr.2 q u xx hj1 hj2
end
end Go.Fl
