/- A function's text gives its contract. -/
import Derived.Test.YtkfmdjbfffncpaaGreatFlCall
set_option linter.unusedVariables false
namespace Go.Fl
open Go.RowKit

def resX (P : Program) (σ : St) : ResultVar → Option PX
  | .tmp t => match σ.S t with
    | .c x => (ceD σ x).map .c
    | _ => none
  | .cell t T => match σ.S t with
    | .c (.ptr b 0) => match σ.B b with
      | some (.bx _ cs) => if tSz P T = some (cs.length, true) then (ceDs σ cs).map .agg else none
      | _ => none
    | _ => none
def resL (P : Program) (σ : St) : List ResultVar → Option (List PX)
  | [] => some []
  | x :: r => match resX P σ x, resL P σ r with
    | some p, some l => some (p :: l)
    | _, _ => none
def toPV : List PX → PV
  | [p] => .x p
  | ps => .tup ps
/-- The function ends, with this result. -/
def Fin (P : Program) (rs : List ResultVar) (r : PV) (e : Exit) (σ : St) : Prop := (e = .ret ∨ e = .normal) ∧ ∃ ps, resL P σ rs = some ps ∧ toPV ps = r

section
variable {P : Program} {cx : Cx}

/-- How the machine reads a result. -/
def rdRes (tmps : Array Value) (x : ResultVar) : Sem Value :=
  match x with
  | .tmp t => pure (tmps.getD t undef)
  | .cell b t => do loadVar t (← asAddr (tmps.getD b undef))
theorem resX_run {σ : St} {μ : Nat → Option Value} {a : Act} {w : World} (hc : Conc cx σ μ a w) {x : ResultVar} {p : PX} (h : resX P σ x = some p) :
    ∃ v, (rdRes a.tmps x).run P w = .ok v w ∧ RdP w (fun f k => cx.w0.heap.size ≤ k ∨ (f = false ∧ cx.okC k)) v p := by
  have ho : ∀ f k, okOf cx σ μ f k → k < w.heap.size → (cx.w0.heap.size ≤ k ∨ (f = false ∧ cx.okC k)) := fun f k h _ => h.1
  have hrow : ∀ (b : Nat) (v : Value) (k : Nat), (σ.B b).isSome = true → μ b = some v → blk v = some k → (cx.w0.heap.size ≤ k ∨ (true = false ∧ cx.okC k)) := fun b v k h1 h2 h3 => .inl (live_lt hc h1 h2 h3).2
  cases x with
  | tmp t =>
    simp only [resX] at h
    split at h
    · rename_i c hs
      rw [Option.map_eq_some_iff] at h
      obtain ⟨d, hd, rfl⟩ := h
      have := hc.slots t
      rw [hs] at this
      refine ⟨_, rfl, ?_⟩
      generalize a.tmps.getD t undef = v at this ⊢
      cases this with
      | c _ _ h => exact .c _ _ (ceD_rd hc ho h hd fun b _ => hrow b)
      | none => simp [ceD] at hd
    · cases h
  | cell t T =>
    simp only [resX] at h
    split at h
    · rename_i b hs
      split at h
      · rename_i T' cs hB
        split at h
        · rename_i hsz
          rw [Option.map_eq_some_iff] at h
          obtain ⟨ds, hd, rfl⟩ := h
          have := hc.slots t
          rw [hs] at this
          simp only [rdRes]
          generalize a.tmps.getD t undef = v at this ⊢
          cases this with
          | c _ _ h =>
            cases h with
            | ptr _ _ g vb hμ hg =>
              obtain ⟨us, h3, h4⟩ := obj_cells hc hB hμ hg
              simp only [O.cells] at h3
              obtain ⟨q1, q2⟩ := ceDs_rd hc ho us cs ds h3 hd fun b _ => hrow b
              refine ⟨.agg us.toArray, ?_, .agg _ _ q1 q2⟩
              have := run_load_agg (P := P) w ⟨g, 0, none⟩ T us (by rw [h3.1]; exact hsz) (fun j u hj => by rw [Addr.add_mid]; simpa using (h4 j u hj).1)
              simp only [Instr.loadAt, Instr.sureAddr, Sem.run_bind, Sem.run_pure, Result.andThen_ok] at this
              simp [asAddr, this]
        · cases h
      · cases h
    · cases h
theorem resL_run {σ : St} {μ : Nat → Option Value} {a : Act} {w : World} (hc : Conc cx σ μ a w) : ∀ (rs : List ResultVar) (ps : List PX), resL P σ rs = some ps →
    ∃ vs : List Value, (rs.mapM (rdRes a.tmps)).run P w = .ok vs w ∧ vs.length = ps.length ∧ ∀ (j : Nat) (u : Value) (p : PX), vs[j]? = some u → ps[j]? = some p → RdP w (fun f k => cx.w0.heap.size ≤ k ∨ (f = false ∧ cx.okC k)) u p
  | [], ps, h => by simp only [resL, Option.some.injEq] at h; subst h; exact ⟨[], by simp, rfl, fun j u p h => by simp at h⟩
  | x :: r, ps, h => by
    simp only [resL] at h
    split at h
    · rename_i p l h1 h2
      simp only [Option.some.injEq] at h
      subst h
      obtain ⟨v, hv, hp⟩ := resX_run hc h1
      obtain ⟨vs, hvs, hl, hps⟩ := resL_run hc r l h2
      refine ⟨v :: vs, ?_, by simp [hl], fun j u q hj hq => ?_⟩
      · rw [List.mapM_cons]
        simp only [Sem.run_bind, hv, Result.andThen_ok, hvs, Sem.run_pure]
      · cases j with
        | zero => simp at hj hq; subst hj; subst hq; exact hp
        | succ j => exact hps j u q (by simpa using hj) (by simpa using hq)
    · cases h

/-- The slots as they are when the function begins. -/
def argsS (args : List PX) : List (Nat × AV) := args.zipIdx.map fun (p, i) => (i, match p with
  | .c d => AV.d d
  | .agg ds => .agg (ds.map .one))

theorem ct_of_awp {g : FuncId} {fn : Func} {c : Code} {args : List PX} {r : PV} (hf : P.funcs[g]? = some fn) (hb : fn.body = some c) (hN : args.length ≤ fn.ntmps) (hlo : args.map PX.lo = args)
    (h : ∀ w0 okC, AWP P (Cx.top w0 okC fn.ntmps) c (Fin P fn.results.toList r) (Fl.mk (argsS args) [])) : CT P g args r := by
  intro okC w vs hargs
  refine calls_of_wp hf hb ?_
  have hcon : Con (Cx.top w okC fn.ntmps) (Fl.mk (argsS args) []) { tmps := vs.toArray ++ Array.replicate (fn.ntmps - vs.toArray.size) undef, defers := [] } w := by
    refine ⟨fun _ => none, rfl, ?_, Below.refl _ _, fun t => ?_, fun b o ho => by simp [Fl.mk] at ho, fun b b' v v' k h1 => by simp [Fl.mk] at h1, fun k hk => hk.elim, fun b v k h1 => by simp [Fl.mk] at h1, fun k hk => hk, fun b hb => by cases hb⟩
    · have := hargs.1; simp; omega
    · have hlook : (argsS args).lookup t = (args[t]?).map fun p => match p with
          | .c d => AV.d d
          | .agg ds => .agg (ds.map .one) := by
        have : ∀ (l : List PX) (k : Nat), ((l.zipIdx k).map fun (p, i) => (i, match p with
            | .c d => AV.d d
            | .agg ds => .agg (ds.map .one))).lookup t = if k ≤ t then (l[t - k]?).map fun p => match p with
              | .c d => AV.d d
              | .agg ds => .agg (ds.map .one) else none := by
          intro l
          induction l with
          | nil => intro k; simp
          | cons p l ih =>
            intro k
            rw [List.zipIdx_cons, List.map_cons, List.lookup_cons]
            by_cases hk : t = k
            · subst hk; simp
            · have h1 : (t == k) = false := by simpa using hk
              simp only [h1, ih]
              by_cases hk2 : k ≤ t
              · rw [if_pos (by omega), if_pos hk2, show t - k = (t - (k + 1)) + 1 by omega, List.getElem?_cons_succ]
              · rw [if_neg (by omega), if_neg hk2]
        have := this args 0
        simpa [argsS] using this
      simp only [Fl.mk, hlook]
      cases hp : args[t]? with
      | none => exact .none _
      | some p =>
        have hlt : t < vs.length := by rw [hargs.1]; exact (List.getElem?_eq_some_iff.1 hp).1
        have hv : (vs.toArray ++ Array.replicate (fn.ntmps - vs.toArray.size) undef).getD t undef = vs[t] := by
          rw [Array.getD_eq_getD_getElem?, Array.getElem?_append_left (by simpa using hlt)]
          simp [hlt]
        rw [hv]
        have hrd := hargs.2 t _ p (List.getElem?_eq_getElem hlt) hp
        have hplo : p.lo = p := by
          have h1 := congrArg (fun l => l[t]?) hlo
          simp only [List.getElem?_map, hp, Option.map_some, Option.some.injEq] at h1
          exact h1
        have hrd' : RdP w (okOf (Cx.top w okC fn.ntmps) (Fl.mk (argsS args) []) fun _ => none) vs[t] p := by
          rw [← hplo]
          exact hrd.lo fun f k h _ => ⟨.inr ⟨rfl, h⟩, fun h => h, fun b v _ h => by cases h⟩
        generalize vs[t] = v at hrd' ⊢
        cases hrd' with
        | c _ d h => exact .c _ _ (.one _ _ h)
        | agg us ds hl h => exact .agg _ _ (ones_rdl hl h)
  refine wp_mono (h w okC _ w hcon) ?_
  rintro e a' w' ⟨σ', ⟨he, ps, hps, hr⟩, μ, hc⟩
  have key : a'.defers = [] ∧ ∃ v, (results fn a'.tmps).run P w' = .ok v w' ∧ ∃ v', Ending.returned v = .returned v' ∧ RdV w' (fun f k => w.heap.size ≤ k ∨ (f = false ∧ okC k)) v' r ∧ Below w.heap.size w w' := by
    refine ⟨hc.defers, ?_⟩
    obtain ⟨us, h1, h2, h3⟩ := resL_run hc fn.results.toList ps hps
    have e0 : results fn a'.tmps = (do
        let vs ← fn.results.mapM (rdRes a'.tmps)
        pure (if h : vs.size = 1 then vs[0] else .tuple vs)) := by
      unfold results
      congr 2
    have e1 : (fn.results.mapM (rdRes a'.tmps)).run P w' = .ok us.toArray w' := by
      rw [← Array.toArray_toList (xs := fn.results), List.mapM_toArray]
      simp only [Sem.run_map, h1, Result.andThen_ok]
    refine ⟨if h : us.toArray.size = 1 then us.toArray[0] else .tuple us.toArray, by rw [e0]; simp only [Sem.run_bind, e1, Result.andThen_ok, Sem.run_pure], _, rfl, ?_, hc.below⟩
    subst hr
    by_cases hl : us.length = 1
    · obtain ⟨u, rfl⟩ : ∃ u, us = [u] := by
        match us, hl with
        | [u], _ => exact ⟨u, rfl⟩
      obtain ⟨p, rfl⟩ : ∃ p, ps = [p] := by
        match ps, h2 with
        | [p], _ => exact ⟨p, rfl⟩
      simpa [toPV] using RdV.x _ _ (h3 0 u p rfl rfl)
    · rw [dif_neg (by simpa using hl)]
      have : toPV ps = .tup ps := by
        unfold toPV
        split
        · rename_i p; simp at h2; exact absurd h2 hl
        · rfl
      rw [this]
      exact .tup us ps h2 h3
  rcases he with rfl | rfl
  · exact key
  · exact key
end
end Go.Fl
