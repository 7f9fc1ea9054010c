/- A call that is walked in the caller's own state: objects are handed over, changed, made, and given back. -/
import Derived.Test.YtkfmdjbfffncpaaGreatFlRun
set_option linter.unusedVariables false
namespace Go.Fl
open Go.RowKit

/-! ### What a function hands back, with names -/
def notJunk : Ce → Bool
  | .junk => false
  | _ => true
def resXA (P : Program) (σ : St) : ResultVar → Option X
  | .tmp t => match σ.S t with
    | .c x => if notJunk x then some (.c x) else none
    | .agg cs => some (.agg cs)
    | .tup _ => none
  | .cell t T => match σ.S t with
    | .c (.ptr b o) => match σ.B b with
      | some ob => match tSz P T with
        | some (z, true) => if ((ob.cells.drop o).take z).length = z then some (.agg ((ob.cells.drop o).take z)) else none
        | some (1, false) => (ob.cells[o]?).map .c
        | _ => none
      | none => none
    | _ => none
def resXs (P : Program) (σ : St) : List ResultVar → Option (List X)
  | [] => some []
  | x :: r => match resXA P σ x, resXs P σ r with
    | some p, some l => some (p :: l)
    | _, _ => none
def toAV : List X → AV
  | [x] => x.av
  | xs => .tup xs

section
variable {P : Program} {cx : Cx}
theorem resXA_run {σ : St} {μ : Nat → Option Value} {a : Act} {w : World} (hc : Conc cx σ μ a w) {x : ResultVar} {p : X} (h : resXA P σ x = some p) :
    ∃ v, (rdRes a.tmps x).run P w = .ok v w ∧ RdX w (okOf cx σ μ) μ v p := by
  cases x with
  | tmp t =>
    have hs := hc.slots t
    refine ⟨_, rfl, ?_⟩
    simp only [resXA] at h
    generalize a.tmps.getD t undef = v at hs ⊢
    generalize σ.S t = av at h hs
    cases hs with
    | c v x h1 =>
      simp only [] at h
      split at h
      · injection h with h; subst h; exact .c _ _ h1
      · cases h
    | agg us cs h1 => simp only [Option.some.injEq] at h; subst h; exact .agg _ _ h1
    | tup => simp at h
    | none => simp [notJunk] at h
  | cell t T =>
    simp only [resXA] at h
    split at h
    · rename_i b off hs
      split at h
      · rename_i ob hB
        have hsl := hc.slots t
        rw [hs] at hsl
        simp only [rdRes]
        generalize a.tmps.getD t undef = v at hsl ⊢
        cases hsl with
        | c _ _ hp =>
          cases hp with
          | ptr _ _ g vb hμ hg =>
            obtain ⟨us, h3, h4⟩ := obj_cells hc hB hμ hg
            split at h
            · rename_i z hz
              split at h
              · rename_i hl
                injection h with h
                subst h
                have h5 := (h3.drop off).take z
                refine ⟨.agg ((us.drop off).take z).toArray, ?_, .agg _ _ h5⟩
                have := run_load_agg (P := P) w ⟨g, off, none⟩ T ((us.drop off).take z) (by rw [h5.1, hl]; exact hz) (fun j u hj => by rw [Addr.add_mid]; exact (h4 _ u (list_cut hj)).1)
                simp only [Instr.loadAt, Instr.sureAddr, Sem.run_bind, Sem.run_pure, Result.andThen_ok] at this
                simp [asAddr, this]
              · cases h
            · rename_i hz
              rw [Option.map_eq_some_iff] at h
              obtain ⟨c, hcs, rfl⟩ := h
              have hlt : off < us.length := by have := (List.getElem?_eq_some_iff.1 hcs).1; rw [h3.1]; exact this
              refine ⟨us[off], ?_, .c _ _ (h3.2 off _ c (List.getElem?_eq_getElem hlt) hcs)⟩
              have := run_load_cell (P := P) w ⟨g, off, none⟩ T us[off] hz (h4 _ _ (List.getElem?_eq_getElem hlt)).1
              simp only [Instr.loadAt, Instr.sureAddr, Sem.run_bind, Sem.run_pure, Result.andThen_ok] at this
              simp [asAddr, this]
            · cases h
      · cases h
    · cases h
theorem resXs_run {σ : St} {μ : Nat → Option Value} {a : Act} {w : World} (hc : Conc cx σ μ a w) : ∀ (rs : List ResultVar) (ps : List X), resXs P σ rs = some ps →
    ∃ vs : List Value, (rs.mapM (rdRes a.tmps)).run P w = .ok vs w ∧ vs.length = ps.length ∧ ∀ (j : Nat) (u : Value) (p : X), vs[j]? = some u → ps[j]? = some p → RdX w (okOf cx σ μ) μ u p
  | [], ps, h => by simp only [resXs, Option.some.injEq] at h; subst h; exact ⟨[], by simp, rfl, fun j u p h => by simp at h⟩
  | x :: r, ps, h => by
    simp only [resXs] at h
    split at h
    · rename_i p l h1 h2
      simp only [Option.some.injEq] at h
      subst h
      obtain ⟨v, hv, hp⟩ := resXA_run hc h1
      obtain ⟨vs, hvs, hl, hps⟩ := resXs_run hc r l h2
      refine ⟨v :: vs, ?_, by simp [hl], fun j u q hj hq => ?_⟩
      · rw [List.mapM_cons]
        simp only [Sem.run_bind, hv, Result.andThen_ok, hvs, Sem.run_pure]
      · cases j with
        | zero => simp at hj hq; subst hj; subst hq; exact hp
        | succ j => exact hps j u q (by simpa using hj) (by simpa using hq)
    · cases h
theorem results_run {σ : St} {μ : Nat → Option Value} {a : Act} {w : World} (hc : Conc cx σ μ a w) {fn : Func} {ps : List X} (h : resXs P σ fn.results.toList = some ps) :
    ∃ v, (results fn a.tmps).run P w = .ok v w ∧ RdA w (okOf cx σ μ) μ v (toAV ps) := by
  obtain ⟨us, h1, h2, h3⟩ := resXs_run hc fn.results.toList ps h
  have e0 : results fn a.tmps = (do
      let vs ← fn.results.mapM (rdRes a.tmps)
      pure (if h : vs.size = 1 then vs[0] else .tuple vs)) := by
    unfold results
    congr 2
  have e1 : (fn.results.mapM (rdRes a.tmps)).run P w = .ok us.toArray w := by
    rw [← Array.toArray_toList (xs := fn.results), List.mapM_toArray]
    simp only [Sem.run_map, h1, Result.andThen_ok]
  refine ⟨if h : us.toArray.size = 1 then us.toArray[0] else .tuple us.toArray, by rw [e0]; simp only [Sem.run_bind, e1, Result.andThen_ok, Sem.run_pure], ?_⟩
  by_cases hl : us.length = 1
  · obtain ⟨u, rfl⟩ : ∃ u, us = [u] := by
      match us, hl with
      | [u], _ => exact ⟨u, rfl⟩
    obtain ⟨p, rfl⟩ : ∃ p, ps = [p] := by
      match ps, h2 with
      | [p], _ => exact ⟨p, rfl⟩
    have := h3 0 u p rfl rfl
    simp only [toAV]
    simp only [List.size_toArray, List.length_singleton, dif_pos, List.getElem_toArray, List.getElem_cons_zero]
    rcases this with ⟨_, _, h9⟩ | ⟨_, _, h9⟩
    · exact .c _ _ h9
    · exact .agg _ _ h9
  · rw [dif_neg (by simpa using hl)]
    have : toAV ps = .tup ps := by
      unfold toAV
      split
      · simp at h2; exact absurd h2 hl
      · rfl
    rw [this]
    exact .tup us ps h2 h3
end

/-! ### The callee's state -/
def St.of (args : List AV) (Mr : List (Nat × O)) : St := ⟨fun t => (args[t]?).getD (.c .junk), fun b => Mr.lookup b⟩
def Cp.av : Cp → AV
  | .d x => .c (.one x)
  | .agg xs => .agg (xs.map .one)
  | .ptr b o => .c (.ptr b o)
  | .mp b => .c (.mp b)
def fnOf : AV → Option (FuncId × List Cp × List Cp)
  | .c (.fn f ps qs) => some (f, ps, qs)
  | .c (.one (.v (.func (.func f) fs cs))) => if fs.isEmpty && cs.isEmpty then some (f, [], []) else none
  | _ => none
theorem cp_rda {w : World} {ok : Bool → Nat → Prop} {μ : Nat → Option Value} {v : Value} {p : Cp} (h : RdCp w ok μ v p) : RdA w ok μ v p.av := by
  cases h with
  | d v d h => exact .c _ _ (.one _ _ h)
  | agg us ds hl h => exact .agg _ _ (ones_rdl hl h)
  | ptr b o g y h hg => exact .c _ _ (.ptr b o g y h hg)
  | mp b g h => exact .c _ _ (.mp b g h)

theorem lookup_mem {α : Type} : ∀ (l : List (Nat × α)) (k : Nat) (x : α), l.lookup k = some x → (k, x) ∈ l
  | [], k, x, h => by cases h
  | p :: l, k, x, h => by
    rw [List.lookup_cons] at h
    by_cases hb : k == p.1
    · simp only [hb] at h
      have hb : k = p.1 := by simpa using hb
      injection h with h
      rw [hb, ← h]; exact List.mem_cons_self ..
    · simp only [hb] at h
      exact List.mem_cons_of_mem _ (lookup_mem l k x h)
theorem lookup_isSome {α : Type} : ∀ (l : List (Nat × α)) (k : Nat), k ∈ l.map (·.1) → (l.lookup k).isSome = true
  | [], k, h => by cases h
  | p :: l, k, h => by
    rw [List.lookup_cons]
    by_cases hb : k == p.1
    · simp only [hb]; rfl
    · simp only [hb]
      refine lookup_isSome l k ?_
      rcases List.mem_cons.1 h with h | h
      · exact absurd (by simpa using h) hb
      · exact h

section
variable {P : Program} {cx : Cx} {ops : Array Oper} {o : Oper} {σi : St}
theorem exec_callv {f : FuncId} {fn : Func} {c : Code} (hf : P.funcs[f]? = some fn) (hname : (fn.name == "runtime.NumGoroutine") = false) (hb : fn.body = some c) {x : Operand} {xs : List Operand} {ts : Array TypeId} {a : Act} {us vs : List Value} (ho : o.op = .call { callee := .value x, args := xs.toArray, argTypes := ts }) (hx : a.eval x = .func (.func f) us.toArray vs.toArray) (w : World) :
    (execOp a.eval o).run P w = .ok (.enter f (us ++ xs.map a.eval ++ vs).toArray) w := by
  have h1 : fn.name ≠ "runtime.NumGoroutine" := by simpa using hname
  simp [execOp, ho, resolve, Deferred.ofValue, hx, invoke, callFunc, hf, h1, hb]

/-- The outcome, as the callee's last state has it. -/
structure Given (P : Program) (Mr : List (Nat × O)) (nx : Nat) (rs : List ResultVar) (av : AV) (nw : List Nat) (ef : List (Nat × Option O)) (e : Exit) (σ' : St) : Prop where
  exit : e = .ret ∨ e = .normal
  res : ∃ xs, resXs P σ' rs = some xs ∧ toAV xs = av
  changed : ∀ b x, ef.lookup b = some (some x) → σ'.B b = some x
  same : ∀ b x, Mr.lookup b = some x → ef.lookup b = none → σ'.B b = some x

theorem op_inl (f : FuncId) (fn : Func) (c : Code) (x : Operand) (xs : List Operand) (ts : Array TypeId) (ps qs : List Cp) (args : List AV) (Mr : List (Nat × O)) (nx : Nat) (av : AV) (nw : List Nat) (ef : List (Nat × Option O))
    (ho : o.op = .call { callee := .value x, args := xs.toArray, argTypes := ts }) (hd : ∀ d, o.dst = some d → d < cx.N) (hx : fnOf (SV σi x) = some (f, ps, qs)) (hf : P.funcs[f]? = some fn) (hname : (fn.name == "runtime.NumGoroutine") = false) (hb : fn.body = some c)
    (hargs : ps.map Cp.av ++ xs.map (SV σi) ++ qs.map Cp.av = args) (hN : args.length ≤ fn.ntmps) (hMr : ∀ b x, Mr.lookup b = some x → σi.B b = some x)
    (hlt : ∀ b x, Mr.lookup b = some x → b < nx ∧ ∀ y ∈ x.nm, y < nx) (hnw : ∀ b ∈ nw, nx ≤ b ∧ cx.nf b = false) (hef : ∀ b ∈ ef.map (·.1), b ∈ nw ∨ b ∈ Mr.map (·.1)) (hcl : ∀ b ∈ av.nm, b < nx ∨ b ∈ nw) (hcl2 : ∀ b x, ef.lookup b = some (some x) → ∀ y ∈ x.nm, y < nx ∨ y ∈ nw)
    (hbody : ∀ (N' : Nat), N' = fn.ntmps → ∀ (w1 : World) (fx bad : Nat → Prop) (μ0 : Nat → Option Value), AWP P ⟨cx.w0, cx.okC, N', w1, fx, bad, fun b => decide (b < nx), μ0⟩ c (Given P Mr nx fn.results.toList av nw ef) (St.of args Mr)) :
    OpW P cx ops o σi ⟨av, Mr.map (·.1), nw, ef⟩ := fun σ a w h1 h2 h3 h4 K Q hK => by
  obtain ⟨μ, hc⟩ := h4
  have hin : ∀ y ∈ xs, y ∈ o.op.operands.toList := fun y hy => by simp [ho, Op.operands, Call.operands, hy]
  have hsv : ∀ y ∈ xs, SV σ y = SV σi y := fun y hy => sv_same h1 (hin y hy)
  have hMs : ∀ b x, Mr.lookup b = some x → σ.B b = some x := fun b x h => (h2 b (List.mem_map.2 ⟨_, lookup_mem _ _ _ h, rfl⟩)).trans (hMr b x h)
  have hMk : ∀ b, b ∈ Mr.map (·.1) → ∃ x, Mr.lookup b = some x := fun b h => Option.isSome_iff_exists.1 (lookup_isSome _ _ h)
  -- the function's value
  obtain ⟨us, vs, hfv, hus, hvs⟩ : ∃ us vs : List Value, a.eval x = .func (.func f) us.toArray vs.toArray ∧ RdCps w (okOf cx σ μ) μ us ps ∧ RdCps w (okOf cx σ μ) μ vs qs := by
    have hxs := (sv_same h1 (x := x) (by simp [ho, Op.operands, Call.operands]))
    have hrd := sv_rd hc x
    rw [hxs] at hrd
    generalize a.eval x = v at hrd ⊢
    generalize SV σi x = y at hrd hx
    unfold fnOf at hx
    split at hx
    · rename_i f' ps' qs'
      simp only [Option.some.injEq, Prod.mk.injEq] at hx
      obtain ⟨rfl, rfl, rfl⟩ := hx
      cases hrd with
      | c _ _ h => cases h with
        | fn _ _ _ us vs h1 h2 => exact ⟨us, vs, rfl, h1, h2⟩
    · rename_i f' fs cs
      split at hx
      · rename_i he
        simp only [Option.some.injEq, Prod.mk.injEq] at hx
        obtain ⟨rfl, rfl, rfl⟩ := hx
        simp only [Bool.and_eq_true, Array.isEmpty_iff] at he
        obtain ⟨rfl, rfl⟩ := he
        cases hrd with
        | c _ _ h => cases h with
          | one _ _ h => cases h; exact ⟨[], [], rfl, ⟨rfl, fun j u p h => by simp at h⟩, ⟨rfl, fun j u p h => by simp at h⟩⟩
      · cases hx
    · cases hx
  unfold Oper.wp
  rw [exec_callv hf hname hb ho hfv w, Oper.upon_enter]
  refine Calls.mono (R := fun e w' => ∃ v, e = .returned v ∧ ∃ σ' μ' a', Given P Mr nx fn.results.toList av nw ef .ret σ' ∧ Conc ⟨cx.w0, cx.okC, fn.ntmps, w, fun k => k < w.heap.size ∧ ∀ b ∈ Mr.map (·.1), ∀ v, μ b = some v → blk v ≠ some k, fun k => cx.bad k ∨ ∃ b v, b ∉ Mr.map (·.1) ∧ (σ.B b).isSome = true ∧ μ b = some v ∧ blk v = some k, fun b => decide (b < nx), μ⟩ σ' μ' a' w' ∧ RdA w' (okOf ⟨cx.w0, cx.okC, fn.ntmps, w, fun k => k < w.heap.size ∧ ∀ b ∈ Mr.map (·.1), ∀ v, μ b = some v → blk v ≠ some k, fun k => cx.bad k ∨ ∃ b v, b ∉ Mr.map (·.1) ∧ (σ.B b).isSome = true ∧ μ b = some v ∧ blk v = some k, fun b => decide (b < nx), μ⟩ σ' μ') μ' v av) ?_ ?_
  · -- the callee
    refine calls_of_wp hf hb ?_
    have hok : ∀ f k, okOf cx σ μ f k → k < w.heap.size → okOf ⟨cx.w0, cx.okC, fn.ntmps, w, fun k => k < w.heap.size ∧ ∀ b ∈ Mr.map (·.1), ∀ v, μ b = some v → blk v ≠ some k, fun k => cx.bad k ∨ ∃ b v, b ∉ Mr.map (·.1) ∧ (σ.B b).isSome = true ∧ μ b = some v ∧ blk v = some k, fun b => decide (b < nx), μ⟩ (St.of args Mr) μ f k := fun f k h _ => by
      refine ⟨h.1, ?_, fun b v hb hv => ?_⟩
      · rintro (h' | ⟨b, v, _, q2, q3, q4⟩)
        · exact h.2.1 h'
        · exact h.2.2 b v q2 q3 q4
      · obtain ⟨x, hx⟩ := Option.isSome_iff_exists.1 hb
        exact h.2.2 b v (by rw [hMs b x hx]; rfl) hv
    have hcon : Con ⟨cx.w0, cx.okC, fn.ntmps, w, fun k => k < w.heap.size ∧ ∀ b ∈ Mr.map (·.1), ∀ v, μ b = some v → blk v ≠ some k, fun k => cx.bad k ∨ ∃ b v, b ∉ Mr.map (·.1) ∧ (σ.B b).isSome = true ∧ μ b = some v ∧ blk v = some k, fun b => decide (b < nx), μ⟩ (St.of args Mr) { tmps := (us ++ xs.map a.eval ++ vs).toArray ++ Array.replicate (fn.ntmps - (us ++ xs.map a.eval ++ vs).toArray.size) undef, defers := [] } w := by
      have hlen : (us ++ xs.map a.eval ++ vs).length = args.length := by
        rw [← hargs]; simp [hus.1, hvs.1]
      refine ⟨μ, rfl, ?_, hc.below, fun t => ?_, fun b o ho => ?_, fun b b' v v' k h1 h2 => ?_, fun k hk => ⟨hk.1, rfl⟩, fun b v k hb hv hk hfx => ?_, fun k hk => ?_, fun b hb => rfl⟩
      · simp only [Array.size_append, Array.size_replicate, List.size_toArray]
        rw [hlen]; omega
      · simp only [St.of]
        cases hp : args[t]? with
        | none => exact .none _
        | some p =>
          have hlt' : t < args.length := (List.getElem?_eq_some_iff.1 hp).1
          have hlt'' : t < (us ++ xs.map a.eval ++ vs).length := by omega
          have hv : ((us ++ xs.map a.eval ++ vs).toArray ++ Array.replicate (fn.ntmps - (us ++ xs.map a.eval ++ vs).toArray.size) undef).getD t undef = (us ++ xs.map a.eval ++ vs)[t] := by
            rw [Array.getD_eq_getD_getElem?, Array.getElem?_append_left (by simpa using hlt''), List.getElem?_toArray, List.getElem?_eq_getElem hlt'']; rfl
          rw [hv, Option.getD_some]
          have key : RdA w (okOf cx σ μ) μ ((us ++ xs.map a.eval ++ vs)[t]) p := by
            rw [← hargs] at hp
            have hq : (us ++ xs.map a.eval ++ vs)[t]? = some ((us ++ xs.map a.eval ++ vs)[t]) := List.getElem?_eq_getElem hlt''
            generalize (us ++ xs.map a.eval ++ vs)[t] = u at hq ⊢
            by_cases c1 : t < us.length
            · rw [List.append_assoc, List.getElem?_append_left c1] at hq
              rw [List.append_assoc, List.getElem?_append_left (by simp [← hus.1, c1]), List.getElem?_map, Option.map_eq_some_iff] at hp
              obtain ⟨p', hp', rfl⟩ := hp
              exact cp_rda (hus.2 t u p' hq hp')
            · rw [List.append_assoc, List.getElem?_append_right (by omega)] at hq
              rw [List.append_assoc, List.getElem?_append_right (by simp [← hus.1]; omega)] at hp
              simp only [List.length_map, ← hus.1] at hp
              by_cases c2 : t - us.length < xs.length
              · rw [List.getElem?_append_left (by simpa using c2), List.getElem?_map, Option.map_eq_some_iff] at hq hp
                obtain ⟨y, hy, rfl⟩ := hq
                obtain ⟨y', hy', rfl⟩ := hp
                rw [hy] at hy'
                injection hy' with hy'
                subst hy'
                rw [← hsv y (List.mem_of_getElem? hy)]
                exact sv_rd hc y
              · rw [List.getElem?_append_right (by simp; omega)] at hq hp
                simp only [List.length_map] at hq hp
                rw [List.getElem?_map, Option.map_eq_some_iff] at hp
                obtain ⟨p', hp', rfl⟩ := hp
                exact cp_rda (hvs.2 _ u p' hq hp')
          exact key.keep (fun _ _ _ _ => rfl) hok fun _ _ => rfl
      · exact (hc.objs b o (hMs b o ho)).keep (fun _ _ _ _ => rfl) hok rfl (fun _ _ => rfl) fun _ _ _ _ => rfl
      · obtain ⟨x1, hx1⟩ := Option.isSome_iff_exists.1 h1
        obtain ⟨x2, hx2⟩ := Option.isSome_iff_exists.1 h2
        exact hc.apart b b' v v' k (by rw [hMs b x1 hx1]; rfl) (by rw [hMs b' x2 hx2]; rfl)
      · obtain ⟨x1, hx1⟩ := Option.isSome_iff_exists.1 hb
        exact hfx.2 b (List.mem_map.2 ⟨_, lookup_mem _ _ _ hx1, rfl⟩) v hv hk
      · rcases hk with hk | ⟨b, v, q1, q2, q3, q4⟩
        · refine ⟨(hc.fixed k (hc.badfx k hk)).1, fun b hb v hv e => ?_⟩
          obtain ⟨x1, hx1⟩ := hMk b hb
          exact hc.unfix b v k (by rw [hMs b x1 hx1]; rfl) hv e (hc.badfx k hk)
        · refine ⟨(live_lt hc q2 q3 q4).1, fun b' hb' v' hv' e => ?_⟩
          obtain ⟨x1, hx1⟩ := hMk b' hb'
          have := hc.apart b b' v v' k q2 (by rw [hMs b' x1 hx1]; rfl) q3 hv' q4 e
          subst this
          exact q1 hb'
    refine wp_mono (hbody fn.ntmps rfl w _ _ μ _ w hcon) ?_
    rintro e a' w' ⟨σ', hg, μ', hc'⟩
    obtain ⟨xs', hres, rfl⟩ := hg.res
    obtain ⟨v, hv1, hv2⟩ := results_run hc' hres
    have key : a'.defers = [] ∧ ∃ v, (results fn a'.tmps).run P w' = .ok v w' ∧ ∃ v', Ending.returned v = .returned v' ∧ ∃ σ' μ' a', Given P Mr nx fn.results.toList (toAV xs') nw ef .ret σ' ∧ Conc ⟨cx.w0, cx.okC, fn.ntmps, w, fun k => k < w.heap.size ∧ ∀ b ∈ Mr.map (·.1), ∀ v, μ b = some v → blk v ≠ some k, fun k => cx.bad k ∨ ∃ b v, b ∉ Mr.map (·.1) ∧ (σ.B b).isSome = true ∧ μ b = some v ∧ blk v = some k, fun b => decide (b < nx), μ⟩ σ' μ' a' w' ∧ RdA w' (okOf ⟨cx.w0, cx.okC, fn.ntmps, w, fun k => k < w.heap.size ∧ ∀ b ∈ Mr.map (·.1), ∀ v, μ b = some v → blk v ≠ some k, fun k => cx.bad k ∨ ∃ b v, b ∉ Mr.map (·.1) ∧ (σ.B b).isSome = true ∧ μ b = some v ∧ blk v = some k, fun b => decide (b < nx), μ⟩ σ' μ') μ' v' (toAV xs') :=
      ⟨hc'.defers, v, hv1, v, rfl, σ', μ', a', ⟨.inl rfl, hg.res, hg.changed, hg.same⟩, hc', hv2⟩
    rcases hg.exit with rfl | rfl
    · exact key
    · exact key
  · -- back in the caller
    rintro e w' ⟨v, rfl, σ', μ', a', hg, hc', hv⟩
    refine hK _ _ ?_
    have hkeys : ∀ b, ef.lookup b ≠ none → b ∈ nw ∨ b ∈ Mr.map (·.1) := fun b hb => by
      obtain ⟨x, hx⟩ := Option.ne_none_iff_exists'.1 hb
      exact hef b (List.mem_map.2 ⟨_, lookup_mem _ _ _ hx, rfl⟩)
    have hMn : ∀ b ∈ Mr.map (·.1), b ∉ nw := fun b hb hn => by
      obtain ⟨x, hx⟩ := hMk b hb
      have := (hlt b x hx).1
      have := (hnw b hn).1
      omega
    let μ2 : Nat → Option Value := fun b => if b ∈ nw then μ' b else μ b
    have m1 : ∀ b, b ∉ nw → μ2 b = μ b := fun b hb => by simp only [μ2]; rw [if_neg hb]
    have m2 : ∀ b, b < nx ∨ b ∈ nw → μ2 b = μ' b := fun b hb => by
      by_cases hn : b ∈ nw
      · simp only [μ2]; rw [if_pos hn]
      · rw [m1 b hn]
        rcases hb with hb | hb
        · exact (hc'.named b (by simpa using hb)).symm
        · exact absurd hb hn
    have m3 : ∀ b ∈ Mr.map (·.1), μ2 b = μ' b ∧ μ2 b = μ b := fun b hb => by
      obtain ⟨x, hx⟩ := hMk b hb
      exact ⟨m2 b (.inl (hlt b x hx).1), m1 b (hMn b hb)⟩
    have hB : ∀ b, (σ.app o.dst ⟨av, Mr.map (·.1), nw, ef⟩).B b = (ef.lookup b).getD (σ.B b) := fun b => rfl
    -- an object behind the call: one of the callee's, or one that was not handed over
    have hcase : ∀ b x, (σ.app o.dst ⟨av, Mr.map (·.1), nw, ef⟩).B b = some x → (σ'.B b = some x ∧ (b ∈ nw ∨ b ∈ Mr.map (·.1)) ∧ (∀ y ∈ x.nm, y < nx ∨ y ∈ nw)) ∨ (b ∉ Mr.map (·.1) ∧ b ∉ nw ∧ σ.B b = some x) := fun b x hx => by
      rw [hB] at hx
      cases hl : ef.lookup b with
      | some y =>
        rw [hl] at hx
        simp only [Option.getD_some] at hx
        subst hx
        exact .inl ⟨hg.changed b x hl, hkeys b (by rw [hl]; simp), hcl2 b x hl⟩
      | none =>
        rw [hl] at hx
        simp only [Option.getD_none] at hx
        by_cases hm : b ∈ Mr.map (·.1)
        · obtain ⟨x1, hx1⟩ := hMk b hm
          have := hMs b x1 hx1
          rw [hx] at this
          injection this with this
          subst this
          exact .inl ⟨hg.same b x hx1 hl, .inr hm, fun y hy => .inl ((hlt b x hx1).2 y hy)⟩
        · refine .inr ⟨hm, fun hn => ?_, hx⟩
          rw [(h3 b hn).1] at hx; cases hx
    have cE : ∀ b, (b ∈ nw ∨ b ∈ Mr.map (·.1)) → μ2 b = μ' b := fun b hb => by
      rcases hb with hb | hb
      · exact m2 b (.inr hb)
      · exact (m3 b hb).1
    -- what must stay, stays
    have hstay : ∀ k, k < w.heap.size → (∀ b ∈ Mr.map (·.1), ∀ v, μ b = some v → blk v ≠ some k) → w'.heap[k]? = w.heap[k]? := fun k hk hh => (hc'.fixed k ⟨hk, hh⟩).2
    have hisM : ∀ b ∈ Mr.map (·.1), (σ.B b).isSome = true := fun b hb => by
      obtain ⟨x, hx⟩ := hMk b hb
      rw [hMs b x hx]; rfl
    have okfin : ∀ f k, okOf ⟨cx.w0, cx.okC, fn.ntmps, w, fun k => k < w.heap.size ∧ ∀ b ∈ Mr.map (·.1), ∀ v, μ b = some v → blk v ≠ some k, fun k => cx.bad k ∨ ∃ b v, b ∉ Mr.map (·.1) ∧ (σ.B b).isSome = true ∧ μ b = some v ∧ blk v = some k, fun b => decide (b < nx), μ⟩ σ' μ' f k → k < w'.heap.size → okOf cx (σ.app o.dst ⟨av, Mr.map (·.1), nw, ef⟩) μ2 f k := fun f k h _ => by
      refine ⟨h.1, fun hb => h.2.1 (.inl hb), fun b v hb hv => ?_⟩
      obtain ⟨x, hx⟩ := Option.isSome_iff_exists.1 hb
      rcases hcase b x hx with ⟨q1, q2, _⟩ | ⟨q1, q2, q3⟩
      · exact h.2.2 b v (by rw [q1]; rfl) (by rw [← cE b q2]; exact hv)
      · intro e
        exact h.2.1 (.inr ⟨b, v, q1, by rw [q3]; rfl, by rw [← m1 b q2]; exact hv, e⟩)
    have hok : ∀ f k, okOf cx σ μ f k → k < w.heap.size → okOf cx (σ.app o.dst ⟨av, Mr.map (·.1), nw, ef⟩) μ2 f k := fun f k h hk => by
      refine ⟨h.1, h.2.1, fun b v hb hv e => ?_⟩
      obtain ⟨x, hx⟩ := Option.isSome_iff_exists.1 hb
      rcases hcase b x hx with ⟨q1, q2, _⟩ | ⟨q1, q2, q3⟩
      · refine hc'.unfix b v k (by rw [q1]; rfl) (by rw [← cE b q2]; exact hv) e ⟨hk, fun b' hb' v' hv' => ?_⟩
        exact h.2.2 b' v' (hisM b' hb') hv'
      · exact h.2.2 b v (by rw [q3]; rfl) (by rw [← m1 b q2]; exact hv) e
    refine conc_step hc hd ⟨av, Mr.map (·.1), nw, ef⟩ v w' μ2 hc'.below (fun f k h hk => hstay k hk fun b hb v hv => h.2.2 b v (hisM b hb) hv) hok (fun t ht b hb => m1 b fun hn => (h3 b hn).2.1 t ht hb) (.inr (hv.keep (fun _ _ _ _ => rfl) okfin fun b hb => m2 b (hcl b hb))) (fun b x hx => ?_) (fun b b' v v' k hb hb' hv hv' hk hk' => ?_) (fun k hk => hstay k (hc.fixed k hk).1 fun b hb v hv e => hc.unfix b v k (hisM b hb) hv e hk) (fun b v k hb hv hk hfx => ?_) (fun b hb => m1 b fun hn => by rw [(hnw b hn).2] at hb; cases hb)
    · rcases hcase b x hx with ⟨q1, q2, q3⟩ | ⟨q1, q2, q3⟩
      · exact (hc'.objs b x q1).keep (fun _ _ _ _ => rfl) okfin (cE b q2) (fun y hy => m2 y (q3 y hy)) fun _ _ _ _ => rfl
      · refine (hc.objs b x q3).keep (fun f k h hk => hstay k hk fun b hb v hv => h.2.2 b v (hisM b hb) hv) hok (m1 b q2) (fun y hy => m1 y fun hn => (h3 y hn).2.2 b x q3 hy) fun v k hv hk => ?_
        refine hstay k (live_lt hc (by rw [q3]; rfl) hv hk).1 fun b' hb' v' hv' e => ?_
        have := hc.apart b b' v v' k (by rw [q3]; rfl) (hisM b' hb') hv hv' hk e
        subst this
        exact q1 hb'
    · obtain ⟨x, hx⟩ := Option.isSome_iff_exists.1 hb
      obtain ⟨x', hx'⟩ := Option.isSome_iff_exists.1 hb'
      have mixed : ∀ b b' v v' k x x', σ'.B b = some x → (b ∈ nw ∨ b ∈ Mr.map (·.1)) → b' ∉ Mr.map (·.1) → b' ∉ nw → σ.B b' = some x' → μ2 b = some v → μ2 b' = some v' → blk v = some k → blk v' = some k → False := by
        intro b b' v v' k x x' q1 q2 r1 r2 r3 hv hv' hk hk'
        rw [m1 b' r2] at hv'
        refine hc'.unfix b v k (by rw [q1]; rfl) (by rw [← cE b q2]; exact hv) hk ⟨(live_lt hc (by rw [r3]; rfl) hv' hk').1, fun b'' hb'' v'' hv'' e => ?_⟩
        have := hc.apart b' b'' v' v'' k (by rw [r3]; rfl) (hisM b'' hb'') hv' hv'' hk' e
        subst this
        exact r1 hb''
      rcases hcase b x hx with ⟨q1, q2, _⟩ | ⟨q1, q2, q3⟩
      · rcases hcase b' x' hx' with ⟨r1, r2, _⟩ | ⟨r1, r2, r3⟩
        · exact hc'.apart b b' v v' k (by rw [q1]; rfl) (by rw [r1]; rfl) (by rw [← cE b q2]; exact hv) (by rw [← cE b' r2]; exact hv') hk hk'
        · exact (mixed b b' v v' k x x' q1 q2 r1 r2 r3 hv hv' hk hk').elim
      · rcases hcase b' x' hx' with ⟨r1, r2, _⟩ | ⟨r1, r2, r3⟩
        · exact (mixed b' b v' v k x' x r1 r2 q1 q2 q3 hv' hv hk' hk).elim
        · exact hc.apart b b' v v' k (by rw [q3]; rfl) (by rw [r3]; rfl) (by rw [← m1 b q2]; exact hv) (by rw [← m1 b' r2]; exact hv') hk hk'
    · obtain ⟨x, hx⟩ := Option.isSome_iff_exists.1 hb
      rcases hcase b x hx with ⟨q1, q2, _⟩ | ⟨q1, q2, q3⟩
      · refine hc'.unfix b v k (by rw [q1]; rfl) (by rw [← cE b q2]; exact hv) hk ⟨(hc.fixed k hfx).1, fun b' hb' v' hv' e => ?_⟩
        exact hc.unfix b' v' k (hisM b' hb') hv' e hfx
      · exact hc.unfix b v k (by rw [q3]; rfl) (by rw [← m1 b q2]; exact hv) hk hfx
end
end Go.Fl
