/- Going through a map of one's own; delete. -/
import Derived.Test.YtkfmdjbfffncpaaGreatFlMap
set_option linter.unusedVariables false
namespace Go.Fl
open Go.RowKit

section
variable {P : Program} {cx : Cx} {ops : Array Oper} {o : Oper} {σi : St}

theorem op_range (T : TypeId) (x : Operand) (b bm clock : Nat) (k : TypeId) (kd : TypeDesc) (z : Value) (es : List Ent) (ho : o.op = .range T x) (hd : ∀ d, o.dst = some d → d < cx.N) (hnf : cx.nf b = false) (hbm : bm ≠ b) (hx : SV σi x = .c (.mp bm)) (hb : σi.B bm = some (.mp es clock)) (hT : tMap P T = some (k, kd, z)) :
    OpW P cx ops o σi ⟨.c (.ptr b 0), [bm], [b], [(b, some (.it bm clock [] clock))]⟩ := fun σ a w h1 h2 h3 h4 K Q hK => by
  obtain ⟨μ, hc⟩ := h4
  obtain ⟨g, e1, hμ⟩ := sv_mp hc ((sv_same h1 (x := x) (by simp [ho, Op.operands])).trans hx)
  obtain ⟨vs, hg0, hh, hr⟩ := obj_mp hc ((h2 bm (by simp)).trans hb) hμ
  obtain ⟨e, inf, u1, _⟩ := tMap_info hT
  have hrun : (Instr.range T (a.eval x)).run P w = .ok (.pointer (some ⟨w.heap.size, 0, none⟩)) (w.alloc (.mapIter (some g) clock #[] clock)) := by
    unfold Instr.range
    simp only [Sem.run_bind, run_underlying u1, Result.andThen_ok, e1, run_getMap hh, Sem.run_pure]
    simp [newObj, Sem.run]
  unfold Oper.wp
  simp only [execOp, ho, Sem.run_bind, hrun, Result.andThen_ok, Sem.run_pure, Oper.upon_value]
  refine hK _ _ ?_
  have key := conc_obj hc hd b (.it bm clock [] clock) (.c (.ptr b 0)) (.pointer (some ⟨w.heap.size, 0, none⟩)) _ hnf h3 (below_alloc' w (.mapIter (some g) clock #[] clock)) (by simp only [O.nm, List.mem_singleton]; exact fun e => hbm e.symm) (.inr rfl) (.c _ _ (.ptr b 0 w.heap.size (.pointer (some ⟨w.heap.size, 0, none⟩)) (by simp) rfl)) fun ok μ1 hok hμ1 hμb => ⟨w.heap.size, g, hμb, hc.below.size, (hμ1 bm hbm).trans hμ, heap_alloc_new w _⟩
  obtain ⟨μ9, k9⟩ := key
  exact ⟨μ9, k9.defers, k9.size, k9.below, k9.slots, k9.objs, k9.apart, k9.fixed, k9.unfix, k9.badfx, k9.named⟩

theorem sv_obj {σ : St} {μ : Nat → Option Value} {a : Act} {w : World} (hc : Conc cx σ μ a w) {x : Operand} {b m since last : Nat} {seen : List Nat} (hx : SV σ x = .c (.ptr b 0)) (hb : σ.B b = some (.it m since seen last)) : ∃ g gm, a.eval x = .pointer (some ⟨g, 0, none⟩) ∧ μ b = some (.pointer (some ⟨g, 0, none⟩)) ∧ cx.w0.heap.size ≤ g ∧ μ m = some (.map (some gm)) ∧ w.heap[g]? = some (.mapIter (some gm) since seen.toArray last) := by
  obtain ⟨g, vb, e1, e2, e3⟩ := sv_ptr hc hx
  obtain ⟨g', gm, h1, h2, h3, h4⟩ := hc.objs b _ hb
  rw [e2] at h1
  injection h1 with h1
  subst h1
  have : g' = g := by simpa [hd0] using e3
  subst this
  exact ⟨g', gm, e1, e2, h2, h3, h4⟩

theorem run_getIt {w : World} {g : Nat} {m : Option Nat} {since last : Nat} {seen : Array Nat} (h : w.heap[g]? = some (.mapIter m since seen last)) : (getObj g).run P w = .ok (.mapIter m since seen last) w := by
  simp [getObj, Sem.run, h]

/-- What may come next. -/
def nextE (es : List Ent) (since : Nat) (seen : List Nat) (last : Nat) : Option (Option Ent) :=
  if (!seen.isEmpty && !es.isEmpty && es.all fun e => decide (e.2.1 ≥ last)) = true then none else
  match es.filter (fun e => !seen.contains e.2.1) with
  | [] => some none
  | [e] => if e.2.1 < since then some (some e) else none
  | _ => none

theorem all_ents (p : Nat → Bool) : ∀ (es : List Ent) (vs : List Value), vs.length = es.length → (ents es vs).all (fun e => p e.born) = es.all fun e => p e.2.1
  | [], vs, _ => rfl
  | e :: es, [], h => by simp at h
  | e :: es, v :: vs, h => by rw [ents_cons, List.all_cons, List.all_cons, all_ents p es vs (by simpa using h)]

theorem op_next_over (T : TypeId) (x : Operand) (b m since last clock : Nat) (seen : List Nat) (es : List Ent) (ho : o.op = .next x false) (hd : ∀ d, o.dst = some d → d < cx.N) (hx : SV σi x = .c (.ptr b 0)) (hb : σi.B b = some (.it m since seen last)) (hm : σi.B m = some (.mp es clock)) (hn : nextE es since seen last = some none) :
    OpW P cx ops o σi ⟨.tup [.c (.one (.v (.bool false)))], [b, m], [], []⟩ :=
  opw_val hd fun σ μ a w hs h2 hc => by
    obtain ⟨g, gm, e1, e2, e3, e4, e5⟩ := sv_obj hc ((sv_same hs (x := x) (by simp [ho, Op.operands])).trans hx) ((h2 b (by simp)).trans hb)
    obtain ⟨vs, hg0, hh, hr⟩ := obj_mp hc ((h2 m (by simp)).trans hm) e4
    have hvl : vs.length = es.length := by have := hr.1; simpa using this
    unfold nextE at hn
    split at hn
    · cases hn
    · rename_i hall
      obtain ⟨vs', q1, q2⟩ := filter_ents (fun n => !seen.contains n) es vs hr
      have hf : es.filter (fun e => !seen.contains e.2.1) = [] := by
        split at hn
        · assumption
        · split at hn <;> cases hn
        · cases hn
      rw [hf] at q1
      refine ⟨.tuple #[.bool false], ?_, .tup [.bool false] _ rfl fun j u xx h1 h2 => ?_⟩
      · have hcond : ((!seen.toArray.isEmpty && !(ents es vs).toArray.isEmpty && (ents es vs).toArray.all (fun e => decide (e.born ≥ last))) = true) = False := by
          have e1 : (ents es vs).isEmpty = es.isEmpty := by
            have := ents_length hvl
            cases es <;> cases h : ents _ vs <;> simp_all
          have e2 := all_ents (fun n => decide (n ≥ last)) es vs hvl
          simp only [List.isEmpty_toArray, e1, List.all_toArray, e2]
          simpa using hall
        have hleft : (ents es vs).toArray.filter (fun e => !seen.toArray.contains e.born) = #[] := by
          apply Array.ext'
          rw [Array.toList_filter]
          simp only [List.contains_toArray]
          rw [q1]; rfl
        simp only [execOp, ho, e1, Instr.next, Sem.run_bind, run_getIt e5, run_getMap hh, Result.andThen_ok, Sem.run_pure]
        rw [if_neg (by rw [hcond]; exact id)]
        simp only [hleft]
        simp [choose, Sem.run, Question.forced]
      · match j with
        | 0 => simp at h1 h2; subst h1; subst h2; exact .c _ _ (.one _ _ (.v _ rfl))
        | j + 1 => simp at h1

theorem conc_it {σ : St} {μ : Nat → Option Value} {a : Act} {w : World} (hc : Conc cx σ μ a w) (dst : Option Nat) (hd : ∀ d, dst = some d → d < cx.N) (b g gm m since last last' : Nat) (seen seen' : List Nat) (av : AV) (v : Value) (rd : List Nat) (hb : σ.B b = some (.it m since seen last)) (hμ : μ b = some (.pointer (some ⟨g, 0, none⟩))) (hμm : μ m = some (.map (some gm))) (hg : g < w.heap.size) (hg0 : cx.w0.heap.size ≤ g)
    (hv : ∀ w1 : World, (∀ k, k ≠ g → w1.heap[k]? = w.heap[k]?) → RdA w1 (okOf cx σ μ) μ v av) : Con cx (σ.app dst ⟨av, rd, [], [(b, some (.it m since seen' last'))]⟩) (a.put dst v) { w with heap := w.heap.setIfInBounds g (.mapIter (some gm) since seen'.toArray last') } := by
  have hfar : ∀ k, blk (.pointer (some ⟨g, 0, none⟩)) ≠ some k → (w.heap.setIfInBounds g (.mapIter (some gm) since seen'.toArray last'))[k]? = w.heap[k]? := fun k hk => Array.getElem?_setIfInBounds_ne fun e => hk (by rw [e]; rfl)
  refine conc_set hc hd b _ _ _ _ (.pointer (some ⟨g, 0, none⟩)) { w with heap := w.heap.setIfInBounds g (.mapIter (some gm) since seen'.toArray last') } rd hb hμ ?_ hfar (.inr (hv _ fun k hk => hfar k fun e => hk (by injection e with e; exact e.symm))) ?_
  · exact hc.below.trans ⟨rfl, rfl, rfl, by simp, fun k hk => hfar k fun e => absurd (show g = k by simpa [blk] using e) (by omega)⟩
  · refine ⟨g, gm, hμ, hg0, hμm, ?_⟩
    show (w.heap.setIfInBounds g _)[g]? = _
    rw [Array.getElem?_setIfInBounds_self_of_lt hg]

theorem op_next_one (T : TypeId) (x : Operand) (b m since last clock : Nat) (seen : List Nat) (es : List Ent) (e : Ent) (ho : o.op = .next x false) (hd : ∀ d, o.dst = some d → d < cx.N) (hx : SV σi x = .c (.ptr b 0)) (hb : σi.B b = some (.it m since seen last)) (hm : σi.B m = some (.mp es clock)) (hn : nextE es since seen last = some (some e)) (hk1 : e.1.oneCell' = true) :
    OpW P cx ops o σi ⟨.tup [.c (.one (.v (.bool true))), .c (.one (.v e.1)), .c e.2.2], [b, m], [], [(b, some (.it m since (seen ++ [e.2.1]) clock))]⟩ := fun σ a w h1 h2 h3 h4 K Q hK => by
  obtain ⟨μ, hc⟩ := h4
  have hb' := (h2 b (by simp)).trans hb
  have hm' := (h2 m (by simp)).trans hm
  obtain ⟨g, gm, e1, e2, e3, e4, e5⟩ := sv_obj hc ((sv_same h1 (x := x) (by simp [ho, Op.operands])).trans hx) hb'
  obtain ⟨vs, hg0, hh, hr⟩ := obj_mp hc hm' e4
  have hvl : vs.length = es.length := by have := hr.1; simpa using this
  unfold nextE at hn
  split at hn
  · cases hn
  · rename_i hall
    obtain ⟨vs', q1, q2⟩ := filter_ents (fun n => !seen.contains n) es vs hr
    split at hn
    · cases hn
    · rename_i e' hf
      split at hn
      · rename_i hlt
        simp only [Option.some.injEq] at hn
        subst hn
        rw [hf] at q1 q2
        obtain ⟨v, rfl⟩ : ∃ v, vs' = [v] := by
          have := q2.1
          match vs', this with
          | [v], _ => exact ⟨v, rfl⟩
        have hcr := (rdl_tail q2).1
        have hcond : ((!seen.toArray.isEmpty && !(ents es vs).toArray.isEmpty && (ents es vs).toArray.all (fun e => decide (e.born ≥ last))) = true) = False := by
          have e1 : (ents es vs).isEmpty = es.isEmpty := by
            have := ents_length hvl
            cases es <;> cases h : ents _ vs <;> simp_all
          have e2 := all_ents (fun n => decide (n ≥ last)) es vs hvl
          simp only [List.isEmpty_toArray, e1, List.all_toArray, e2]
          simpa using hall
        have hleft : (ents es vs).toArray.filter (fun e => !seen.toArray.contains e.born) = #[⟨e'.1, v, e'.2.1⟩] := by
          apply Array.ext'
          rw [Array.toList_filter]
          simp only [List.contains_toArray]
          rw [q1]; rfl
        have hrun : (Instr.next (.pointer (some ⟨g, 0, none⟩)) false o.type).run P w = .ok (.tuple #[.bool true, e'.1, v]) { w with heap := w.heap.setIfInBounds g (.mapIter (some gm) since (seen ++ [e'.2.1]).toArray clock) } := by
          simp only [Instr.next, Sem.run_bind, run_getIt e5, run_getMap hh, Result.andThen_ok, Sem.run_pure]
          rw [if_neg (by rw [hcond]; exact id)]
          simp only [hleft]
          have f1 : (#[({ key := e'.1, val := v, born := e'.2.1 } : MapEntry)].filter fun x => decide (x.born < since)) = #[⟨e'.1, v, e'.2.1⟩] := by
            apply Array.ext'; rw [Array.toList_filter]; simp [hlt]
          have f2 : (#[({ key := e'.1, val := v, born := e'.2.1 } : MapEntry)].filter fun x => decide (x.born ≥ since)) = #[] := by
            apply Array.ext'; rw [Array.toList_filter]; simp; omega
          rw [f1, f2]
          have hch : (choose (.mapNext 1)).run P w = .ok 0 w := by simp [choose, Sem.run, Question.forced]
          have hst := run_setObj (P := P) (w := w) (g := g) (ob' := .mapIter (some gm) since (seen.toArray.push e'.2.1) clock) e5 (by intro _ _ _ h; cases h)
          have hpush : seen.toArray.push e'.2.1 = (seen ++ [e'.2.1]).toArray := by simp
          rw [hpush] at hst
          simp [hch, hst, hpush]
        unfold Oper.wp
        simp only [execOp, ho, e1, Sem.run_bind, hrun, Result.andThen_ok, Sem.run_pure, Oper.upon_value]
        refine hK _ _ (conc_it hc o.dst hd b g gm m since last clock seen _ _ _ [b, m] hb' e2 e4 (Array.getElem?_eq_some_iff.1 e5).1 e3 fun w1 hw1 => ?_)
        refine .tup [.bool true, e'.1, v] _ rfl fun j u xx h1 h2 => ?_
        match j with
        | 0 => simp at h1 h2; subst h1; subst h2; exact .c _ _ (.one _ _ (.v _ rfl))
        | 1 => simp at h1 h2; subst h1; subst h2; exact .c _ _ (.one _ _ (.v _ hk1))
        | 2 =>
          simp at h1 h2; subst h1; subst h2
          refine .c _ _ (hcr.keep (fun f k h _ => hw1 k fun e => ?_) (fun _ _ h _ => h) fun _ _ => rfl)
          exact h.2.2 b _ (by rw [hb']; rfl) e2 (by rw [e]; rfl)
        | j + 3 => simp at h1
      · cases hn
    · cases hn

/-- The entry at which one stands. -/
def entryE (es : List Ent) (clock : Nat) (seen : List Nat) (last : Nat) : Option Ent :=
  if clock = last then (match seen.getLast? with
    | some s => es.find? fun e => e.2.1 == s
    | none => none) else none
theorem find_born (s : Nat) : ∀ (es : List Ent) (vs : List Value) (e : Ent) {w : World} {ok : Bool → Nat → Prop} {μ : Nat → Option Value}, RdL w ok μ vs (es.map (·.2.2)) → es.find? (fun e => e.2.1 == s) = some e → ∃ v, (ents es vs).find? (fun e => e.born == s) = some ⟨e.1, v, e.2.1⟩ ∧ RdC w ok μ v e.2.2
  | [], vs, e, w, ok, μ, h, hf => by cases hf
  | x :: es, [], e, w, ok, μ, h, hf => by have := h.1; simp at this
  | x :: es, v :: vs, e, w, ok, μ, h, hf => by
    obtain ⟨h1, h2⟩ := rdl_tail h
    rw [List.find?_cons] at hf
    rw [ents_cons, List.find?_cons]
    simp only []
    cases hx : x.2.1 == s with
    | true => rw [hx] at hf; simp only [Option.some.injEq] at hf; subst hf; exact ⟨v, rfl, h1⟩
    | false => rw [hx] at hf; exact find_born s es vs e h2 hf
theorem op_entry (x : Operand) (b m since last clock : Nat) (seen : List Nat) (es : List Ent) (e : Ent) (ho : o.op = .entry x) (hd : ∀ d, o.dst = some d → d < cx.N) (hx : SV σi x = .c (.ptr b 0)) (hb : σi.B b = some (.it m since seen last)) (hm : σi.B m = some (.mp es clock)) (hn : entryE es clock seen last = some e) (hk1 : e.1.oneCell' = true) :
    OpW P cx ops o σi ⟨.tup [.c (.one (.v e.1)), .c e.2.2], [b, m], [], []⟩ :=
  opw_val hd fun σ μ a w hs h2 hc => by
    obtain ⟨g, gm, e1, e2, e3, e4, e5⟩ := sv_obj hc ((sv_same hs (x := x) (by simp [ho, Op.operands])).trans hx) ((h2 b (by simp)).trans hb)
    obtain ⟨vs, hg0, hh, hr⟩ := obj_mp hc ((h2 m (by simp)).trans hm) e4
    unfold entryE at hn
    split at hn
    · rename_i hcl
      split at hn
      · rename_i s hs
        obtain ⟨v, q1, q2⟩ := find_born s es vs e hr hn
        refine ⟨.tuple #[e.1, v], ?_, .tup [e.1, v] _ rfl fun j u xx h1 h2 => ?_⟩
        · have hback : seen.toArray.back? = some s := by simpa using hs
          have hfind : (ents es vs).toArray.find? (fun x => x.born == s) = some ⟨e.1, v, e.2.1⟩ := by simpa using q1
          subst hcl
          simp only [execOp, ho, e1, Instr.entry, Sem.run_bind, run_getIt e5, run_getMap hh, Result.andThen_ok, Sem.run_pure, hback]
          simp [hfind]
        · match j with
          | 0 => simp at h1 h2; subst h1; subst h2; exact .c _ _ (.one _ _ (.v _ hk1))
          | 1 => simp at h1 h2; subst h1; subst h2; exact .c _ _ q2
          | j + 2 => simp at h1
      · cases hn
    · cases hn

theorem ents_erase (es : List Ent) (vs : List Value) (j : Nat) (h : vs.length = es.length) : (ents es vs).eraseIdx j = ents (es.eraseIdx j) (vs.eraseIdx j) := by
  induction es generalizing vs j with
  | nil => cases vs <;> simp [ents] at h ⊢
  | cons e es ih =>
    cases vs with
    | nil => simp at h
    | cons v vs =>
      cases j with
      | zero => rfl
      | succ j => rw [ents_cons, List.eraseIdx_cons_succ, List.eraseIdx_cons_succ, List.eraseIdx_cons_succ, ents_cons, ih vs j (by simpa using h)]
theorem rdl_erase {w : World} {ok : Bool → Nat → Prop} {μ : Nat → Option Value} : ∀ (vs : List Value) (cs : List Ce) (j : Nat), RdL w ok μ vs cs → RdL w ok μ (vs.eraseIdx j) (cs.eraseIdx j)
  | [], [], j, h => h
  | [], c :: cs, j, h => by have := h.1; simp at this
  | v :: vs, [], j, h => by have := h.1; simp at this
  | v :: vs, c :: cs, 0, h => (rdl_tail h).2
  | v :: vs, c :: cs, j + 1, h => rdl_cons (rdl_tail h).1 (rdl_erase vs cs j (rdl_tail h).2)
theorem map_erase {α β : Type} (f : α → β) : ∀ (l : List α) (j : Nat), (l.map f).eraseIdx j = (l.eraseIdx j).map f
  | [], _ => rfl
  | x :: l, 0 => rfl
  | x :: l, j + 1 => by rw [List.map_cons, List.eraseIdx_cons_succ, List.eraseIdx_cons_succ, List.map_cons, map_erase f l j]
theorem op_delete (T : TypeId) (ts : Array TypeId) (x i : Operand) (b clock : Nat) (k : TypeId) (kd : TypeDesc) (z key : Value) (es es' : List Ent) (r : Option (Nat × Ce)) (ho : o.op = .call { callee := .builtin .delete, args := #[x, i], argTypes := ts }) (hts : ts[0]? = some T) (hd : ∀ d, o.dst = some d → d < cx.N) (hx : SV σi x = .c (.mp b)) (hi : SV σi i = .v key) (hb : σi.B b = some (.mp es clock)) (hT : tMap P T = some (k, kd, z)) (hf : mfind kd key es 0 = some r)
    (he : (match r with
      | none => es
      | some (j, _) => es.eraseIdx j) = es') : OpW P cx ops o σi ⟨.tup [], [b], [], [(b, some (.mp es' clock))]⟩ := fun σ a w h1 h2 h3 h4 K Q hK => by
  obtain ⟨μ, hc⟩ := h4
  obtain ⟨g, e1, hμ⟩ := sv_mp hc ((sv_same h1 (x := x) (by simp [ho, Op.operands, Call.operands])).trans hx)
  have e2 := sv_v hc ((sv_same h1 (x := i) (by simp [ho, Op.operands, Call.operands])).trans hi)
  have hb' := (h2 b (by simp)).trans hb
  obtain ⟨vs, hg0, hh, hr⟩ := obj_mp hc hb' hμ
  have hfe := find_ents es vs 0 r hr hf
  obtain ⟨e, inf, u1, u2, u3, u4, hz1, u6⟩ := tMap_info hT
  have hgl : g < w.heap.size := (Array.getElem?_eq_some_iff.1 hh).1
  have hvl : vs.length = es.length := by have := hr.1; simpa using this
  have fin : ∀ vs', (Builtin.delete_ ts o.type #[.map (some g), key]).run P w = .ok (.tuple #[]) { w with heap := w.heap.setIfInBounds g (.map (ents es' vs').toArray clock) } → RdL w (okOf cx σ μ) μ vs' (es'.map (·.2.2)) → o.wp P a w K Q := fun vs' hrun hr' => by
    unfold Oper.wp
    rw [exec_builtin (P := P) (w := w) (w1 := { w with heap := w.heap.setIfInBounds g (.map (ents es' vs').toArray clock) }) (n := .value (.tuple #[])) ho rfl (by simp [builtin, e1, e2, hrun]), Oper.upon_value]
    exact hK _ _ (conc_map hc o.dst hd b g clock clock es _ _ _ _ [b] hb' hμ hgl hg0 hr' (.inr fun w1 ok => .tup [] [] rfl fun j u x h => by simp at h))
  cases r with
  | none =>
    simp only [] at he
    subst he
    refine fin vs ?_ hr
    unfold Builtin.delete_
    simp [hts, run_setObj hh (by intro _ _ _ h; cases h), run_underlying u1, run_getMap hh, run_checkKey u2 u6, run_findKey u2 (show Instr.findNow kd key (ents es vs) 0 = some none by simpa using hfe)]
  | some p =>
    obtain ⟨j, c⟩ := p
    obtain ⟨v, q1, q2, _, ee, q4, q5, q6⟩ := hfe
    simp only [Nat.sub_zero] at q4
    simp only [] at he
    subst he
    have hjl : j < es.length := (List.getElem?_eq_some_iff.1 q4).1
    refine fin (vs.eraseIdx j) ?_ (by have := rdl_erase vs _ j hr; rwa [map_erase] at this)
    have her : (ents es vs).toArray.eraseIdxIfInBounds j = (ents (es.eraseIdx j) (vs.eraseIdx j)).toArray := by
      rw [← ents_erase es vs j hvl]
      apply Array.ext'
      rw [Array.toList_eraseIdxIfInBounds]
    unfold Builtin.delete_
    simp [hts, run_setObj hh (by intro _ _ _ h; cases h), run_underlying u1, run_getMap hh, run_checkKey u2 u6, run_findKey u2 (show Instr.findNow kd key (ents es vs) 0 = some (some (j, v)) by simpa using q1), ents_erase es vs j hvl]
end
end Go.Fl
