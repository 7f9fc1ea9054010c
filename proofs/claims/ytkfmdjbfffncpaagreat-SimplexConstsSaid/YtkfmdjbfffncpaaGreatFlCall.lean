/- Calls: contracts between functions that only compute, and how a function's text gives one. -/
import Derived.Test.YtkfmdjbfffncpaaGreatFlCut
set_option linter.unusedVariables false
namespace Go.Fl
open Go.RowKit

/-! ### Values that are read, for ever -/
inductive PX where
  | c (d : D)
  | agg (ds : List D)
inductive PV where
  | x (p : PX)
  | tup (ps : List PX)
inductive RdP (w : World) (ok : Bool → Nat → Prop) : Value → PX → Prop
  | c (v : Value) (d : D) (h : Rd w ok v d) : RdP w ok v (.c d)
  | agg (us : List Value) (ds : List D) (hl : us.length = ds.length) (h : ∀ (j : Nat) (u : Value) (d : D), us[j]? = some u → ds[j]? = some d → Rd w ok u d) : RdP w ok (.agg us.toArray) (.agg ds)
inductive RdV (w : World) (ok : Bool → Nat → Prop) : Value → PV → Prop
  | x (v : Value) (p : PX) (h : RdP w ok v p) : RdV w ok v (.x p)
  | tup (us : List Value) (ps : List PX) (hl : us.length = ps.length) (h : ∀ (j : Nat) (u : Value) (p : PX), us[j]? = some u → ps[j]? = some p → RdP w ok u p) : RdV w ok (.tuple us.toArray) (.tup ps)
abbrev PX.v (x : Value) : PX := .c (.v x)
abbrev PV.v (x : Value) : PV := .x (.c (.v x))
abbrev PV.d (d : D) : PV := .x (.c d)
abbrev PV.g (ds : List D) : PV := .x (.agg ds)

theorem RdP.keep {w w1 : World} {ok ok1 : Bool → Nat → Prop} {v : Value} {p : PX} (hw : ∀ f k, ok f k → k < w.heap.size → w1.heap[k]? = w.heap[k]?) (ho : ∀ f k, ok f k → k < w.heap.size → ok1 f k) (h : RdP w ok v p) : RdP w1 ok1 v p := by
  cases h with
  | c v d h => exact .c v d (h.keep hw ho)
  | agg us ds hl h => exact .agg us ds hl fun j u d h1 h2 => (h j u d h1 h2).keep hw ho

/-- The arguments' values. -/
def RdArgs (w : World) (ok : Bool → Nat → Prop) (vs : List Value) (ps : List PX) : Prop := vs.length = ps.length ∧ ∀ (j : Nat) (u : Value) (p : PX), vs[j]? = some u → ps[j]? = some p → RdP w ok u p

/-- THE CONTRACT: called with values that read as these the function returns one that reads as r; nothing that there was has changed; what the result leads to is new, or (where it is marked so) what the arguments lead to. -/
def CT (P : Program) (g : FuncId) (args : List PX) (r : PV) : Prop :=
  ∀ (okC : Nat → Prop) (w : World) (vs : List Value), RdArgs w (fun _ k => okC k) vs args →
    Calls P g vs.toArray w fun e w' => ∃ v, e = .returned v ∧ RdV w' (fun f k => w.heap.size ≤ k ∨ (f = false ∧ okC k)) v r ∧ Below w.heap.size w w'

/-! ### Marks: which data is new is nothing to the callee -/
mutual
def D.lo : D → D
  | .v x => .v x
  | .s _ n cs => .s false n (D.los cs)
  | .e _ cs => .e false (D.los cs)
def D.los : List D → List D
  | [] => []
  | d :: ds => d.lo :: D.los ds
end
theorem los_eq (ds : List D) : D.los ds = ds.map D.lo := by
  induction ds with
  | nil => rfl
  | cons d ds ih => simp only [D.los, List.map_cons, ih]
theorem Rd.lo {w : World} {ok : Bool → Nat → Prop} {ok1 : Bool → Nat → Prop} {v : Value} {d : D} (h : Rd w ok v d) (ho : ∀ f k, ok f k → k < w.heap.size → ok1 false k) : Rd w ok1 v d.lo := by
  have lt : ∀ {ad : Addr} {us : List Value}, (∀ (j : Nat) (u : Value), us[j]? = some u → w.cell? (ad.add j) = some u) → 0 < us.length → ad.block < w.heap.size := by
    intro ad us hc h0
    have := World.block_lt_of_cell? _ _ (hc 0 _ (List.getElem?_eq_getElem h0))
    rwa [add_block] at this
  induction h with
  | v x h1 => exact .v x h1
  | s f A n c ad us cs hn hm hA hl hok hc hr ih =>
    rw [D.lo, los_eq]
    refine .s false A n c ad us _ hn hm (by simpa using hA) (by simpa using hl) (fun h0 => ho f _ (hok (by simpa using h0)) (lt hc (by simp at h0; omega))) hc fun j u d h1 h2 => ?_
    rw [List.getElem?_map, Option.map_eq_some_iff] at h2
    obtain ⟨d', hd, rfl⟩ := h2
    exact ih j u d' h1 hd
  | e f ad us cs hl hok hc hr ih =>
    rw [D.lo, los_eq]
    refine .e false ad us _ (by simpa using hl) (fun h0 => ho f _ (hok (by simpa using h0)) (lt hc (by simp at h0; omega))) hc fun j u d h1 h2 => ?_
    rw [List.getElem?_map, Option.map_eq_some_iff] at h2
    obtain ⟨d', hd, rfl⟩ := h2
    exact ih j u d' h1 hd
def PX.lo : PX → PX
  | .c d => .c d.lo
  | .agg ds => .agg (ds.map D.lo)
theorem RdP.lo {w : World} {ok ok1 : Bool → Nat → Prop} {v : Value} {p : PX} (h : RdP w ok v p) (ho : ∀ f k, ok f k → k < w.heap.size → ok1 false k) : RdP w ok1 v p.lo := by
  cases h with
  | c v d h => exact .c v _ (h.lo ho)
  | agg us ds hl h =>
    refine .agg us _ (by simpa using hl) fun j u d h1 h2 => ?_
    rw [List.getElem?_map, Option.map_eq_some_iff] at h2
    obtain ⟨d', hd, rfl⟩ := h2
    exact (h j u d' h1 hd).lo ho

section
variable {P : Program} {cx : Cx} {ops : Array Oper} {o : Oper} {σi : St}

/-- An operand as data, in a state (a row of one's own is read as it stands). -/
def ceD (σ : St) : Ce → Option D
  | .one d => some d
  | .nil => some (.s true 0 [])
  | .row b n => match σ.B b with
    | some (.rw _ _ n' cs) => if n = n' then (toDs cs).map (.s true n) else none
    | _ => none
  | _ => none
def ceDs (σ : St) : List Ce → Option (List D)
  | [] => some []
  | c :: r => match ceD σ c, ceDs σ r with
    | some d, some l => some (d :: l)
    | _, _ => none
def avP (σ : St) : AV → Option PX
  | .c x => (ceD σ x).map .c
  | .agg cs => (ceDs σ cs).map .agg
  | .tup _ => none
def argsP (σ : St) : List Operand → Option (List PX)
  | [] => some []
  | x :: r => match avP σ (SV σ x), argsP σ r with
    | some p, some l => some (p :: l)
    | _, _ => none
/-- Which rows of one's own the operands name. -/
def ceR : Ce → List Nat
  | .row b _ => [b]
  | _ => []
def avR : AV → List Nat
  | .c x => ceR x
  | .agg cs => cs.flatMap ceR
  | .tup _ => []

/-- What may be read at a call: what data leads to, and the rows of one's own that are handed over. -/
def okCall (cx : Cx) (σ : St) (μ : Nat → Option Value) (bs : List Nat) (k : Nat) : Prop := okOf cx σ μ true k ∨ okOf cx σ μ false k ∨ ∃ b ∈ bs, ∃ v, (σ.B b).isSome = true ∧ μ b = some v ∧ blk v = some k

theorem ceD_rd {σ : St} {μ : Nat → Option Value} {a : Act} {w : World} (hc : Conc cx σ μ a w) {v : Value} {c : Ce} {d : D} {ok' : Bool → Nat → Prop} (ho : ∀ f k, okOf cx σ μ f k → k < w.heap.size → ok' f k) (h : RdC w (okOf cx σ μ) μ v c) (hd : ceD σ c = some d) (hb : ∀ b ∈ ceR c, ∀ v k, (σ.B b).isSome = true → μ b = some v → blk v = some k → ok' true k) : Rd w ok' v d := by
  cases h with
  | one v d' h => simp only [ceD, Option.some.injEq] at hd; subst hd; exact h.keep (fun _ _ _ _ => rfl) ho
  | nil => simp only [ceD, Option.some.injEq] at hd; subst hd; exact .s true none 0 0 default [] [] (Nat.le_refl _) (by omega) (by simp) rfl (by simp) (by simp) (by simp)
  | row b n c A hm h =>
    simp only [ceD] at hd
    split at hd
    · rename_i E z n' cs hB
      split at hd
      · rename_i hn
        subst hn
        rw [Option.map_eq_some_iff] at hd
        obtain ⟨ds, hds, rfl⟩ := hd
        obtain ⟨v', us, g1, g2, g3⟩ := hc.objs b _ hB
        rw [h] at g1
        injection g1 with g1
        subst g1
        obtain ⟨hl, hr⟩ := rdl_ones (toDs_rd us cs ds g3 hds)
        rcases g2.2 with ⟨he, hn0⟩ | ⟨g, cap, cur, he, hb', hh, hcap, hmax, hsz, ht⟩
        · injection he with h1 h2 h3
          subst h1; subst h2; subst h3
          have hus : us = [] := List.eq_nil_of_length_eq_zero (by rw [g2.1, Nat.zero_mul])
          subst hus
          have hds0 : ds = [] := List.eq_nil_of_length_eq_zero (by rw [← hl]; rfl)
          subst hds0
          exact .s true none 0 0 default [] [] (Nat.le_refl _) (by omega) (by simp) rfl (by simp) (by simp) (by simp)
        · injection he with h1 h2 h3
          subst h1; subst h3
          refine .s true _ n c ⟨g, 0, none⟩ us ds hcap (by simp only [maxLen] at hmax; exact hmax) (fun _ => rfl) hl (fun _ => hb b (by simp [ceR]) _ _ (by rw [hB]; rfl) h rfl) (fun j u hj => ?_) fun j u d h1 h2 => (hr j u d h1 h2).keep (fun _ _ _ _ => rfl) ho
          rw [Addr.add_mid]
          have hcur : cur[j]? = some u := by
            rw [← ht, List.getElem?_take] at hj
            split at hj
            · simpa using hj
            · cases hj
          simp [World.cell?, hh, hcur]
      · cases hd
    · cases hd
  | _ => simp [ceD] at hd
theorem ceDs_rd {σ : St} {μ : Nat → Option Value} {a : Act} {w : World} (hc : Conc cx σ μ a w) {ok' : Bool → Nat → Prop} (ho : ∀ f k, okOf cx σ μ f k → k < w.heap.size → ok' f k) : ∀ (us : List Value) (cs : List Ce) (ds : List D), RdL w (okOf cx σ μ) μ us cs → ceDs σ cs = some ds → (∀ b ∈ cs.flatMap ceR, ∀ v k, (σ.B b).isSome = true → μ b = some v → blk v = some k → ok' true k) →
    us.length = ds.length ∧ ∀ (j : Nat) (u : Value) (d : D), us[j]? = some u → ds[j]? = some d → Rd w ok' u d
  | us, [], ds, h, hd, _ => by simp only [ceDs, Option.some.injEq] at hd; subst hd; exact ⟨h.1, fun j u d _ h2 => by simp at h2⟩
  | [], c :: r, ds, h, hd, _ => by have := h.1; simp at this
  | u :: us, c :: r, ds, h, hd, hb => by
    simp only [ceDs] at hd
    split at hd
    · rename_i d l h1 h2
      simp only [Option.some.injEq] at hd
      subst hd
      obtain ⟨i1, i2⟩ := ceDs_rd hc ho us r l ⟨by have := h.1; simpa using this, fun j u x h3 h4 => h.2 (j + 1) u x (by simpa using h3) (by simpa using h4)⟩ h2 (fun b hb' => hb b (List.mem_flatMap.2 (by obtain ⟨x, hx, hx'⟩ := List.mem_flatMap.1 hb'; exact ⟨x, List.mem_cons_of_mem _ hx, hx'⟩)))
      refine ⟨by simp [i1], fun j v x h3 h4 => ?_⟩
      cases j with
      | zero => simp at h3 h4; subst h3; subst h4; exact ceD_rd hc ho (h.2 0 _ _ rfl rfl) h1 fun b hb' => hb b (List.mem_flatMap.2 ⟨c, List.mem_cons_self .., hb'⟩)
      | succ j => exact i2 j v x (by simpa using h3) (by simpa using h4)
    · cases hd
theorem okCall_of {σ : St} {μ : Nat → Option Value} {bs : List Nat} {w : World} : ∀ f k, okOf cx σ μ f k → k < w.heap.size → okCall cx σ μ bs k := fun f k h _ => by
  cases f
  · exact .inr (.inl h)
  · exact .inl h
theorem argsP_rd {σ : St} {μ : Nat → Option Value} {a : Act} {w : World} (hc : Conc cx σ μ a w) {bs : List Nat} : ∀ (xs : List Operand) (ps : List PX), argsP σ xs = some ps → (∀ x ∈ xs, ∀ b ∈ avR (SV σ x), b ∈ bs) → RdArgs w (fun _ k => okCall cx σ μ bs k) (xs.map a.eval) ps
  | [], ps, h, _ => by simp only [argsP, Option.some.injEq] at h; subst h; exact ⟨rfl, fun j u p h => by simp at h⟩
  | x :: r, ps, h, hb => by
    simp only [argsP] at h
    split at h
    · rename_i p l h1 h2
      simp only [Option.some.injEq] at h
      subst h
      obtain ⟨i1, i2⟩ := argsP_rd hc r l h2 fun y hy => hb y (List.mem_cons_of_mem _ hy)
      refine ⟨by simp [← i1], fun j u q hj hq => ?_⟩
      cases j with
      | zero =>
        simp at hj hq
        subst hj; subst hq
        have hx := sv_rd hc x
        have hbx := hb x (List.mem_cons_self ..)
        generalize a.eval x = v at hx ⊢
        generalize SV σ x = av at hx h1 hbx
        cases hx with
        | c v y h =>
          simp only [avP, Option.map_eq_some_iff] at h1
          obtain ⟨d, hd, rfl⟩ := h1
          exact .c _ _ (ceD_rd hc (okCall_of (w := w)) h hd fun b hb v k h1 h2 h3 => .inr (.inr ⟨b, hbx b hb, v, h1, h2, h3⟩))
        | agg us cs h =>
          simp only [avP, Option.map_eq_some_iff] at h1
          obtain ⟨ds, hd, rfl⟩ := h1
          obtain ⟨q1, q2⟩ := ceDs_rd (ok' := fun _ k => okCall cx σ μ bs k) hc (okCall_of (w := w)) us cs ds h hd fun b hb v k h1 h2 h3 => .inr (.inr ⟨b, hbx b hb, v, h1, h2, h3⟩)
          exact .agg _ _ q1 q2
        | tup => simp [avP] at h1
        | none => simp [avP, ceD] at h1
      | succ j => exact i2 j u q (by simpa using hj) (by simpa using hq)
    · cases h

/-! ### What a result is, as a slot's content -/
def PX.X : PX → X
  | .c d => .c (.one d)
  | .agg ds => .agg (ds.map .one)
def PV.av : PV → AV
  | .x (.c d) => .d d
  | .x (.agg ds) => .agg (ds.map .one)
  | .tup ps => .tup (ps.map PX.X)
theorem pv_rda {w : World} {ok : Bool → Nat → Prop} {μ : Nat → Option Value} {v : Value} {r : PV} (h : RdV w ok v r) : RdA w ok μ v r.av := by
  cases h with
  | x v p h =>
    cases h with
    | c v d h => exact .c _ _ (.one _ _ h)
    | agg us ds hl h => exact .agg _ _ (ones_rdl hl h)
  | tup us ps hl h =>
    refine .tup us _ (by simpa using hl) fun j u x h1 h2 => ?_
    rw [List.getElem?_map, Option.map_eq_some_iff] at h2
    obtain ⟨p, hp, rfl⟩ := h2
    cases h j u p h1 hp with
    | c v d h => exact .c _ _ (.one _ _ h)
    | agg us ds hl h => exact .agg _ _ (ones_rdl hl h)

theorem exec_call {f : FuncId} {fn : Func} {c : Code} (hf : P.funcs[f]? = some fn) (hname : (fn.name == "runtime.NumGoroutine") = false) (hb : fn.body = some c) {x : Operand} {xs : List Operand} {ts : Array TypeId} {a : Act} (ho : o.op = .call { callee := .value x, args := xs.toArray, argTypes := ts }) (hx : a.eval x = .func (.func f) #[] #[]) (w : World) :
    (execOp a.eval o).run P w = .ok (.enter f (xs.map a.eval).toArray) w := by
  have h1 : fn.name ≠ "runtime.NumGoroutine" := by simpa using hname
  simp [execOp, ho, resolve, Deferred.ofValue, hx, invoke, callFunc, hf, h1, hb]

/-- A call whose operands hand over no row of one's own. -/
theorem op_call (f : FuncId) (fn : Func) (c : Code) (x : Operand) (xs : List Operand) (ts : Array TypeId) (ps : List PX) (r : PV) (av : AV) (ho : o.op = .call { callee := .value x, args := xs.toArray, argTypes := ts }) (hd : ∀ d, o.dst = some d → d < cx.N) (hx : SV σi x = .v (.func (.func f) #[] #[])) (hf : P.funcs[f]? = some fn) (hname : (fn.name == "runtime.NumGoroutine") = false) (hb : fn.body = some c)
    (hrow : xs.flatMap (fun x => avR (SV σi x)) = []) (hps : argsP σi xs = some ps) (hct : CT P f ps r) (hav : r.av = av) : OpW P cx ops o σi ⟨av, [], [], []⟩ := fun σ a w h1 h2 h3 h4 K Q hK => by
  subst hav
  obtain ⟨μ, hc⟩ := h4
  have hin : ∀ y ∈ xs, y ∈ o.op.operands.toList := fun y hy => by simp [ho, Op.operands, Call.operands, hy]
  have hsv : ∀ y ∈ xs, SV σ y = SV σi y := fun y hy => sv_same h1 (hin y hy)
  have hrow' : ∀ y ∈ xs, ∀ b ∈ avR (SV σ y), b ∈ ([] : List Nat) := fun y hy b hb' => by
    rw [hsv y hy] at hb'
    have : b ∈ xs.flatMap (fun x => avR (SV σi x)) := List.mem_flatMap.2 ⟨y, hy, hb'⟩
    rw [hrow] at this; exact this
  have hargs : argsP σ xs = some ps := by
    rw [← hps]
    have ceE : ∀ (c : Ce), ceR c = [] → ceD σ c = ceD σi c := by
      intro c h; cases c <;> first | rfl | simp [ceR] at h
    have ceEs : ∀ (cs : List Ce), cs.flatMap ceR = [] → ceDs σ cs = ceDs σi cs := by
      intro cs
      induction cs with
      | nil => intro _; rfl
      | cons c cs ih =>
        intro h
        simp only [List.flatMap_cons, List.append_eq_nil_iff] at h
        simp only [ceDs, ceE c h.1, ih h.2]
    have go : ∀ (l : List Operand), (∀ y ∈ l, y ∈ xs) → argsP σ l = argsP σi l := by
      intro l
      induction l with
      | nil => intro _; rfl
      | cons y l ih =>
        intro hl
        have hy := hl y (List.mem_cons_self ..)
        have e1 := hsv y hy
        have e2 : avP σ (SV σi y) = avP σi (SV σi y) := by
          have hR : avR (SV σi y) = [] := by
            rw [List.eq_nil_iff_forall_not_mem]
            intro b hb'
            have := hrow' y hy b (by rw [e1]; exact hb')
            simp at this
          cases hav : SV σi y with
          | c x => rw [hav] at hR; simp only [avP, ceE x hR]
          | agg cs => rw [hav] at hR; simp only [avP, ceEs cs hR]
          | tup => rfl
        simp only [argsP, e1, e2, ih fun z hz => hl z (List.mem_cons_of_mem _ hz)]
    exact go xs fun y hy => hy
  have hfx := sv_v hc ((sv_same h1 (x := x) (by simp [ho, Op.operands, Call.operands])).trans hx)
  unfold Oper.wp
  rw [exec_call hf hname hb ho hfx w, Oper.upon_enter]
  refine (hct (okCall cx σ μ []) w (xs.map a.eval) (argsP_rd hc xs ps hargs hrow')).mono ?_
  rintro e w' ⟨v, rfl, hv, hbel⟩
  refine hK _ _ (conc_grow hc hd _ v w' hbel [] (.inr (pv_rda ?_)))
  have ok1 : ∀ f k, (w.heap.size ≤ k ∨ (f = false ∧ okCall cx σ μ [] k)) → okOf cx σ μ f k := by
    rintro f k (h | ⟨rfl, h⟩)
    · refine ⟨.inl (Nat.le_trans hc.below.size h), fun hbad => by have := (hc.fixed _ (hc.badfx _ hbad)).1; omega, fun b v hb' hμ hk => ?_⟩
      have := (live_lt hc hb' hμ hk).1; omega
    · rcases h with h | h | ⟨b, hb', _⟩
      · refine ⟨?_, h.2⟩
        rcases h.1 with h | ⟨h, _⟩
        · exact .inl h
        · cases h
      · exact h
      · simp at hb'
  have kp : ∀ {u : Value} {d : D}, Rd w' (fun f k => w.heap.size ≤ k ∨ (f = false ∧ okCall cx σ μ [] k)) u d → Rd w' (okOf cx σ μ) u d := fun h => h.keep (fun _ _ _ _ => rfl) fun f k h _ => ok1 f k h
  cases hv with
  | x v p h => exact .x v p (h.keep (fun _ _ _ _ => rfl) fun f k h _ => ok1 f k h)
  | tup us ps hl h => exact .tup us ps hl fun j u p h1 h2 => (h j u p h1 h2).keep (fun _ _ _ _ => rfl) fun f k h _ => ok1 f k h
end
end Go.Fl
