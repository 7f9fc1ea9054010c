/- Calls that hand over rows of one's own. -/
import Derived.Test.YtkfmdjbfffncpaaGreatFlCopy
set_option linter.unusedVariables false
namespace Go.Fl
open Go.RowKit
mutual
/-- All of it is marked as new. -/
def D.new : D → Bool
  | .v _ => true
  | .s f _ cs => f && D.news cs
  | .e f cs => f && D.news cs
def D.news : List D → Bool
  | [] => true
  | d :: ds => d.new && D.news ds
end
theorem news_mem {ds : List D} (h : D.news ds = true) : ∀ d ∈ ds, d.new = true := by
  induction ds with
  | nil => intro d hd; cases hd
  | cons x ds ih =>
    simp only [D.news, Bool.and_eq_true] at h
    intro d hd
    rcases List.mem_cons.1 hd with rfl | hd
    · exact h.1
    · exact ih h.2 d hd
theorem Rd.onNew {w : World} {ok ok1 : Bool → Nat → Prop} {x : Value} {d : D} (h : Rd w ok x d) (hd : d.new = true) (ho : ∀ k, ok true k → ok1 true k) : Rd w ok1 x d := by
  induction h with
  | v x h1 => exact .v x h1
  | s f A n c ad us cs hn hm hA hl hok hc hr ih =>
    simp only [D.new, Bool.and_eq_true] at hd
    obtain ⟨rfl, hd⟩ := hd
    exact .s true A n c ad us cs hn hm hA hl (fun h0 => ho _ (hok h0)) hc fun j u d h1 h2 => ih j u d h1 h2 (news_mem hd d (List.mem_of_getElem? h2))
  | e f ad us cs hl hok hc hr ih =>
    simp only [D.new, Bool.and_eq_true] at hd
    obtain ⟨rfl, hd⟩ := hd
    exact .e true ad us cs hl (fun h0 => ho _ (hok h0)) hc fun j u d h1 h2 => ih j u d h1 h2 (news_mem hd d (List.mem_of_getElem? h2))
theorem news_of {ds : List D} (h : ∀ d ∈ ds, d.new = true) : D.news ds = true := by
  induction ds with
  | nil => rfl
  | cons x ds ih => simp only [D.news, Bool.and_eq_true]; exact ⟨h x (List.mem_cons_self ..), ih fun d hd => h d (List.mem_cons_of_mem _ hd)⟩
theorem encI_new (k : IntKind) (xs : List Int) : (encI k true xs).new = true := by
  simp only [encI, D.new, Bool.true_and]
  refine news_of fun d hd => ?_
  obtain ⟨x, _, rfl⟩ := List.mem_map.1 hd
  rfl
def PX.new : PX → Bool
  | .c d => d.new
  | .agg ds => D.news ds
def PV.new : PV → Bool
  | .x p => p.new
  | .tup ps => ps.all PX.new
theorem RdP.onNew {w : World} {ok ok1 : Bool → Nat → Prop} {v : Value} {p : PX} (h : RdP w ok v p) (hp : p.new = true) (ho : ∀ k, ok true k → ok1 true k) : RdP w ok1 v p := by
  cases h with
  | c v d h => exact .c v d (h.onNew hp ho)
  | agg us ds hl h => exact .agg us ds hl fun j u d h1 h2 => (h j u d h1 h2).onNew (news_mem hp d (List.mem_of_getElem? h2)) ho
section
variable {P : Program} {cx : Cx} {ops : Array Oper} {o : Oper} {σi : St}
/-- Rows are lent: what comes back is new, and the rows stay one's own. -/
theorem op_callL (bs : List Nat) (f : FuncId) (fn : Func) (c : Code) (x : Operand) (xs : List Operand) (ts : Array TypeId) (ps : List PX) (r : PV) (av : AV) (ho : o.op = .call { callee := .value x, args := xs.toArray, argTypes := ts }) (hd : ∀ d, o.dst = some d → d < cx.N) (hx : SV σi x = .v (.func (.func f) #[] #[])) (hf : P.funcs[f]? = some fn) (hname : (fn.name == "runtime.NumGoroutine") = false) (hb : fn.body = some c)
    (hrow : xs.flatMap (fun x => avR (SV σi x)) = bs) (hps : argsP σi xs = some ps) (hct : CT P f ps r) (hn : r.new = true) (hav : r.av = av) : OpW P cx ops o σi ⟨av, bs, [], []⟩ := fun σ a w h1 h2 h3 h4 K Q hK => by
  subst hav
  obtain ⟨μ, hc⟩ := h4
  have hin : ∀ y ∈ xs, y ∈ o.op.operands.toList := fun y hy => by simp [ho, Op.operands, Call.operands, hy]
  have hsv : ∀ y ∈ xs, SV σ y = SV σi y := fun y hy => sv_same h1 (hin y hy)
  have hrow' : ∀ y ∈ xs, ∀ b ∈ avR (SV σ y), b ∈ bs := fun y hy b hb' => by
    rw [hsv y hy] at hb'
    rw [← hrow]
    exact List.mem_flatMap.2 ⟨y, hy, hb'⟩
  have hargs : argsP σ xs = some ps := by
    rw [← hps]
    have ceE : ∀ (c : Ce), (∀ b ∈ ceR c, b ∈ bs) → ceD σ c = ceD σi c := by
      intro c h
      cases c <;> first | rfl | (simp only [ceD]; rw [h2 _ (h _ (by simp [ceR]))])
    have ceEs : ∀ (cs : List Ce), (∀ b ∈ cs.flatMap ceR, b ∈ bs) → ceDs σ cs = ceDs σi cs := by
      intro cs
      induction cs with
      | nil => intro _; rfl
      | cons c cs ih =>
        intro h
        simp only [List.flatMap_cons, List.mem_append] at h
        simp only [ceDs, ceE c fun b hb => h b (.inl hb), ih fun b hb => h b (.inr hb)]
    have go : ∀ (l : List Operand), (∀ y ∈ l, y ∈ xs) → argsP σ l = argsP σi l := by
      intro l
      induction l with
      | nil => intro _; rfl
      | cons y l ih =>
        intro hl
        have hy := hl y (List.mem_cons_self ..)
        have e1 := hsv y hy
        have e2 : avP σ (SV σi y) = avP σi (SV σi y) := by
          have hR : ∀ b ∈ avR (SV σi y), b ∈ bs := fun b hb => hrow' y hy b (by rw [e1]; exact hb)
          cases hav : SV σi y with
          | c x => rw [hav] at hR; simp only [avP, ceE x hR]
          | agg cs => rw [hav] at hR; simp only [avP, ceEs cs hR]
          | tup => rfl
        simp only [argsP, e1, e2, ih fun z hz => hl z (List.mem_cons_of_mem _ hz)]
    exact go xs fun y hy => hy
  have hfx := sv_v hc ((sv_same h1 (x := x) (by simp [ho, Op.operands, Call.operands])).trans hx)
  unfold Oper.wp
  rw [exec_call hf hname hb ho hfx w, Oper.upon_enter]
  refine (hct (okCall cx σ μ bs) w (xs.map a.eval) (argsP_rd hc xs ps hargs hrow')).mono ?_
  rintro e w' ⟨v, rfl, hv, hbel⟩
  refine hK _ _ (conc_grow hc hd _ v w' hbel bs (.inr (pv_rda ?_)))
  have ok1 : ∀ k, (w.heap.size ≤ k ∨ (true = false ∧ okCall cx σ μ bs k)) → okOf cx σ μ true k := by
    rintro k (h | ⟨h, _⟩)
    · refine ⟨.inl (Nat.le_trans hc.below.size h), fun hbad => by have := (hc.fixed _ (hc.badfx _ hbad)).1; omega, fun b v hb' hμ hk => ?_⟩
      have := (live_lt hc hb' hμ hk).1; omega
    · cases h
  cases hv with
  | x v p h => exact .x v p (h.onNew hn ok1)
  | tup us ps hl h => exact .tup us ps hl fun j u p h1 h2 => (h j u p h1 h2).onNew (List.all_eq_true.1 hn p (List.mem_of_getElem? h2)) ok1
end
end Go.Fl
