/- What code does to states; the rules for each kind of code; states written as lists. -/
import Derived.Test.YtkfmdjbfffncpaaGreatFlOrder
set_option linter.unusedVariables false
namespace Go.Fl
open Go.RowKit

/-! ### States as lists -/
def mk (L : List (Nat × AV)) (M : List (Nat × Option O)) : St := ⟨fun t => (L.lookup t).getD (.c .junk), fun b => (M.lookup b).getD none⟩
theorem lookup_append {α : Type} (l m : List (Nat × α)) (k : Nat) : (l ++ m).lookup k = (l.lookup k).or (m.lookup k) := by
  induction l with
  | nil => rfl
  | cons p l ih =>
    rw [List.cons_append, List.lookup_cons, List.lookup_cons]
    cases k == p.1 <;> simp [ih]
theorem mk_app_some (L : List (Nat × AV)) (M : List (Nat × Option O)) (d : Nat) (ev : Ev) : (mk L M).app (some d) ev = mk ((d, ev.av) :: L) (ev.ef ++ M) := by
  apply St.ext'
  · intro t
    simp only [St.app, mk, Ev.uS, List.lookup_cons]
    by_cases h : d = t
    · subst h; simp
    · have h1 : (t == d) = false := by simp; omega
      simp [h, h1]
  · intro b
    simp only [St.app, mk, Ev.uB, lookup_append]
    cases ev.ef.lookup b <;> simp
theorem mk_app_none (L : List (Nat × AV)) (M : List (Nat × Option O)) (ev : Ev) : (mk L M).app none ev = mk L (ev.ef ++ M) := by
  apply St.ext'
  · intro t; simp [St.app, mk, Ev.uS]
  · intro b
    simp only [St.app, mk, Ev.uB, lookup_append]
    cases ev.ef.lookup b <;> simp

/-- The operations in the text's order: the events, and the state behind them. -/
inductive Run (P : Program) (cx : Cx) (ops : Array Oper) : List Oper → St → List Ev → St → Prop
  | nil (σ : St) : Run P cx ops [] σ [] σ
  | cons (o : Oper) (rest : List Oper) (σ : St) (ev : Ev) (evs : List Ev) (σ' : St) (h : OpOK P cx ops o σ ev) (hr : Run P cx ops rest (σ.app o.dst ev) evs σ') : Run P cx ops (o :: rest) σ (ev :: evs) σ'

theorem Run.length {P : Program} {cx : Cx} {ops : Array Oper} {l : List Oper} {σ σ' : St} {evs : List Ev} (h : Run P cx ops l σ evs σ') : evs.length = l.length := by
  induction h with
  | nil => rfl
  | cons o rest σ ev evs σ' h hr ih => simp [ih]
/-- The i-th operation, in the state that lies ahead of it. -/
theorem Run.at {P : Program} {cx : Cx} {ops : Array Oper} {l : List Oper} {σ σ' : St} {evs : List Ev} (h : Run P cx ops l σ evs σ') (E : Nat → Option Nat × Ev) (k : Nat)
    (hE : ∀ i o ev, l[i]? = some o → evs[i]? = some ev → E (k + i) = (o.dst, ev)) :
    (∀ i o, l[i]? = some o → OpOK P cx ops o (foldSt E (List.range' k i) σ) (E (k + i)).2) ∧ foldSt E (List.range' k l.length) σ = σ' := by
  induction h generalizing k with
  | nil => exact ⟨fun i o h => by simp at h, rfl⟩
  | cons o rest σ ev evs σ' h hr ih =>
    have h0 := hE 0 o ev rfl rfl
    simp only [Nat.add_zero] at h0
    obtain ⟨h1, h2⟩ := ih (k + 1) fun i o' ev' ho hev => by
      have := hE (i + 1) o' ev' (by simpa using ho) (by simpa using hev)
      rw [← this]; congr 1; omega
    constructor
    · intro i o' ho
      cases i with
      | zero =>
        simp only [List.getElem?_cons_zero, Option.some.injEq] at ho
        subst ho
        simpa [foldSt, h0] using h
      | succ i =>
        have := h1 i o' (by simpa using ho)
        rw [List.range'_succ]
        simp only [foldSt, List.foldl_cons, h0] at this ⊢
        rw [show k + (i + 1) = k + 1 + i by omega]
        exact this
    · rw [List.length_cons, List.range'_succ]
      simp only [foldSt, List.foldl_cons, h0] at h2 ⊢
      exact h2

/-! ### What code does -/
def AWP (P : Program) (cx : Cx) (c : Code) (Q : Exit → St → Prop) (σ : St) : Prop :=
  ∀ a w, Con cx σ a w → c.wp P (fun e a' w' => ∃ σ', Q e σ' ∧ Con cx σ' a' w') a w

section
variable {P : Program} {cx : Cx} {Q : Exit → St → Prop} {σ : St}

theorem con_drawn {a : Act} {w : World} (h : Con cx σ a w) : Con cx σ a { w with drawn := w.drawn + 1 } := by
  obtain ⟨μ, h⟩ := h
  generalize hw1 : ({ w with drawn := w.drawn + 1 } : World) = w1
  have hk : ∀ (ok : Bool → Nat → Prop) (f : Bool) (k : Nat), ok f k → k < w.heap.size → w1.heap[k]? = w.heap[k]? := fun _ _ _ _ _ => by subst hw1; rfl
  refine ⟨μ, h.defers, h.size, ?_, fun t => (h.slots t).keep (hk _) (fun _ _ h _ => h) (fun _ _ => rfl), fun b o ho => ?_, h.apart, (by subst hw1; exact h.fixed), h.unfix, h.badfx, h.named⟩
  · subst hw1; exact ⟨h.below.os, h.below.tape, h.below.output, h.below.size, h.below.block⟩
  have := h.objs b o ho
  cases o with
  | bx T cs =>
    obtain ⟨g, us, h1, h2, h3, h4⟩ := this
    exact ⟨g, us, h1, h2, by subst hw1; exact h3, h4.keep (hk _) (fun _ _ h _ => h) (fun _ _ => rfl)⟩
  | rw E z n cs =>
    obtain ⟨v, us, h1, h2, h4⟩ := this
    exact ⟨v, us, h1, by subst hw1; exact h2, h4.keep (hk _) (fun _ _ h _ => h) (fun _ _ => rfl)⟩
  | mp es clock =>
    obtain ⟨g, vs, h1, h2, h3, h4⟩ := this
    exact ⟨g, vs, h1, h2, by subst hw1; exact h3, h4.keep (hk _) (fun _ _ h _ => h) (fun _ _ => rfl)⟩
  | it m since seen last =>
    obtain ⟨g, gm, h1, h2, h3, h4⟩ := this
    exact ⟨g, gm, h1, h2, h3, by subst hw1; exact h4⟩
  | itn =>
    obtain ⟨g, h1, h2, h3⟩ := this
    exact ⟨g, h1, h2, by subst hw1; exact h3⟩

/-- All names that the events give are free ahead of the region. -/
def FreeAll (σ : St) (evs : List Ev) : Prop := ∀ ev ∈ evs, ∀ b ∈ ev.nw, σ.B b = none ∧ (∀ t, b ∉ (σ.S t).nm) ∧ ∀ b' o, σ.B b' = some o → b ∉ o.nm

theorem awp_region {id : Nat} {l : List Oper} {dr : Bool} {evs : List Ev} {σ' : St} (hm : dr = true → P.follows .mixedOrders = true) (hr : Run P cx l.toArray l σ evs σ') (hf : FreeAll σ evs)
    (hc : okOrd ((l.zip evs).map fun p => nfOf l.toArray p.1 p.2) = true) (hQ : Q .normal σ') : AWP P cx (.region id l.toArray dr) Q σ := by
  have hlen := hr.length
  have H := Looked.of_check (ops := l.toArray) (evs := evs) (by simpa using hlen) (by simpa using hc)
  have hat := hr.at (fun i => ((l.toArray[i]?).bind (·.dst), evs.getD i ⟨default, [], [], []⟩)) 0 (fun i o ev ho hev => by
    simp only [Nat.zero_add, List.getElem?_toArray, ho, Option.bind_some]
    rw [List.getD_eq_getElem?_getD, hev]; rfl)
  have key : ∀ a w, Con cx σ a w → wpAny P .any l.toArray (fun e a' w' => ∃ σ', Q e σ' ∧ Con cx σ' a' w') l.toArray.size (Array.replicate l.toArray.size false) a w := by
    intro a w h
    refine H.any (cx := cx) (Q := fun e a' w' => ∃ σ', Q e σ' ∧ Con cx σ' a' w') (σ := σ) (fun i hi b hb => ?_) (fun i o hi ho => ?_) (fun a w hc => ⟨σ', hQ, ?_⟩) _ _ a w (by simp) (fun i hi h => ?_) ?_ ?_
    · obtain ⟨o, ho, hd, hnf⟩ := H.nf i hi
      rw [hnf] at hb
      have hi' : i < evs.length := by simp at hi; omega
      refine hf _ ?_ b hb
      simp only []
      rw [List.getD_eq_getElem?_getD, List.getElem?_eq_getElem hi']
      exact List.getElem_mem hi'
    · have := hat.1 i o (by simpa using ho)
      simpa [List.range_eq_range'] using this
    · have := hat.2
      rw [← List.range_eq_range'] at this
      rw [← this]; simpa using hc
    · exfalso
      rw [Array.getD_eq_getD_getElem?, Array.getElem?_replicate] at h
      split at h <;> simp at h
    · exact Nat.le_trans (List.length_filter_le _ _) (by simp)
    · have : (List.range l.toArray.size).filter (fun j => (Array.replicate l.toArray.size false).getD j false) = [] := by
        apply List.filter_eq_nil_iff.2
        intro j hj
        rw [Array.getD_eq_getD_getElem?, Array.getElem?_replicate]
        split <;> simp
      unfold upTo
      rw [this]
      exact h
  intro a w h
  cases dr with
  | true => exact wp_region_any (hm rfl) (key a _ (con_drawn h))
  | false =>
    refine wp_region ?_
    have hs : ∀ (j : Nat) (a : Act) (w : World), j ≤ l.length → Con cx (foldSt (fun i => ((l.toArray[i]?).bind (·.dst), evs.getD i ⟨default, [], [], []⟩)) (List.range (l.length - j)) σ) a w →
        wpOps P l.toArray (fun e a' w' => ∃ σ', Q e σ' ∧ Con cx σ' a' w') (List.range' (l.length - j) j) a w := by
      intro j
      induction j with
      | zero =>
        intro a w _ hc
        have := hat.2
        rw [← List.range_eq_range'] at this
        simp only [List.range'_zero, wpOps]
        refine ⟨σ', hQ, ?_⟩
        rw [← this]; simpa using hc
      | succ j ih =>
        intro a w hj hc
        rw [List.range'_succ, wpOps_cons]
        have hlt : l.length - (j + 1) < l.length := by omega
        obtain ⟨o, ho⟩ : ∃ o, l[l.length - (j + 1)]? = some o := ⟨_, List.getElem?_eq_getElem hlt⟩
        have ho' : l.toArray[l.length - (j + 1)]? = some o := by simpa using ho
        unfold wpOp
        rw [ho']
        have h1 := hat.1 _ o ho
        rw [← List.range_eq_range', Nat.zero_add] at h1
        obtain ⟨o2, ho2, hd2, hnf⟩ := H.nf _ (by simpa using hlt)
        rw [ho'] at ho2
        injection ho2 with ho2
        subst ho2
        have hfree : Free (foldSt (fun i => ((l.toArray[i]?).bind (·.dst), evs.getD i ⟨default, [], [], []⟩)) (List.range (l.length - (j + 1))) σ) o.dst (evs.getD (l.length - (j + 1)) ⟨default, [], [], []⟩).nw := by
          have h0 : ∀ b ∈ (evs.getD (l.length - (j + 1)) ⟨default, [], [], []⟩).nw, σ.B b = none ∧ (∀ t, b ∉ (σ.S t).nm) ∧ ∀ b' o, σ.B b' = some o → b ∉ o.nm := by
            refine hf _ ?_
            rw [List.getD_eq_getElem?_getD, List.getElem?_eq_getElem (by omega)]
            exact List.getElem_mem _
          have hfr := H.free (D := fun k => decide (k < l.length - (j + 1))) (i := l.length - (j + 1)) (fun i hi h e he => by
            have := H.fwd i hi e he
            simp at h ⊢; omega) (by simpa using hlt) (by simp) (fun e he => by have := H.fwd _ (by simpa using hlt) e he; simpa using this) (σ := σ) (by rw [hnf]; exact h0)
          rw [hnf, hd2] at hfr
          have e : (List.range l.toArray.size).filter (fun k => decide (k < l.length - (j + 1))) = List.range (l.length - (j + 1)) := by
            rw [show l.toArray.size = l.length by simp, range_split hlt, List.filter_append, List.filter_cons]
            simp only [Nat.lt_irrefl, decide_false, Bool.false_eq_true, if_false]
            rw [show (List.range' (l.length - (j + 1) + 1) (l.length - (l.length - (j + 1)) - 1)).filter (fun k => decide (k < l.length - (j + 1))) = [] from List.filter_eq_nil_iff.2 (by intro j hj; simp at hj ⊢; omega), List.append_nil, List.filter_eq_self.2]
            intro j hj; simpa using List.mem_range.1 hj
          unfold upTo at hfr
          rw [e] at hfr
          exact hfr
        have key := h1 _ a w (fun _ _ => rfl) (fun _ _ => rfl) hfree hc
          (wpOps P l.toArray (fun e a' w' => ∃ σ', Q e σ' ∧ Con cx σ' a' w') (List.range' (l.length - (j + 1) + 1) j)) (fun e a' w' => ∃ σ', Q e σ' ∧ Con cx σ' a' w') ?_
        · simp only []
          split
          · rename_i hw; rw [if_pos hw] at key; exact .inl key
          · rename_i hw; rw [if_neg hw] at key; exact key
        · intro a' w' hc'
          rw [show l.length - (j + 1) + 1 = l.length - j by omega]
          refine ih a' w' (by omega) ?_
          rw [show l.length - j = l.length - (j + 1) + 1 by omega, List.range_succ, foldSt_append]
          simp only [foldSt, List.foldl_cons, List.foldl_nil] at hc' ⊢
          simpa [ho] using hc'
    have := hs l.length a w (Nat.le_refl _) (by simpa [foldSt] using h)
    rw [Nat.sub_self] at this
    rw [List.range_eq_range']
    simpa using this

/-! ### The other kinds of code -/
theorem awp_weaken {c : Code} {Q Q' : Exit → St → Prop} (h : AWP P cx c Q σ) (hq : ∀ e s, Q e s → Q' e s) : AWP P cx c Q' σ :=
  fun a w hc => wp_mono (h a w hc) fun _ _ _ ⟨s, h1, h2⟩ => ⟨s, hq _ _ h1, h2⟩
theorem awp_skip (h : Q .normal σ) : AWP P cx .skip Q σ := fun a w hc => wp_skip ⟨σ, h, hc⟩
theorem awp_exit {id : Nat} (h : Q (.exit id) σ) : AWP P cx (.exit id) Q σ := fun a w hc => wp_exit ⟨σ, h, hc⟩
theorem awp_ret (h : Q .ret σ) : AWP P cx .ret Q σ := fun a w hc => wp_ret ⟨σ, h, hc⟩
def thenQ (next : St → Prop) (Q : Exit → St → Prop) : Exit → St → Prop
  | .normal, s => next s
  | e, s => Q e s
theorem awp_seq {x y : Code} (h : AWP P cx x (thenQ (AWP P cx y Q) Q) σ) : AWP P cx (.seq x y) Q σ := fun a w hc =>
  wp_seq (wp_mono (h a w hc) fun e a' w' ⟨s, h1, h2⟩ => by
    cases e <;> first | exact h1 a' w' h2 | exact ⟨s, h1, h2⟩)
theorem awp_seq_mid {x y : Code} {M : St → Prop} (h : AWP P cx x (thenQ M Q) σ) (hy : ∀ s, M s → AWP P cx y Q s) : AWP P cx (.seq x y) Q σ :=
  awp_seq (awp_weaken h fun e s hs => by cases e <;> first | exact hy _ hs | exact hs)
def inBlockQ (id : Nat) (Q : Exit → St → Prop) : Exit → St → Prop
  | .exit id', s => if id' = id then Q .normal s else Q (.exit id') s
  | e, s => Q e s
theorem awp_block {id : Nat} {c : Code} (h : AWP P cx c (inBlockQ id Q) σ) : AWP P cx (.block id c) Q σ := fun a w hc =>
  wp_block (wp_mono (h a w hc) fun e a' w' ⟨s, h1, h2⟩ => by
    cases e with
    | exit id' =>
      simp only [inBlockQ, Exit.inBlock] at h1 ⊢
      split <;> rename_i hh
      · rw [if_pos hh] at h1; exact ⟨s, h1, h2⟩
      · rw [if_neg hh] at h1; exact ⟨s, h1, h2⟩
    | _ => exact ⟨s, h1, h2⟩)
theorem con_eval {a : Act} {w : World} {μ : Nat → Option Value} (h : Conc cx σ μ a w) {t : Nat} {v : Value} (hs : σ.S t = .v v) : a.tmps.getD t undef = v := by
  have := h.slots t
  rw [hs] at this
  generalize a.tmps.getD t undef = x at this ⊢
  cases this with
  | c _ _ h => cases h with
    | one _ _ h => cases h; rfl
theorem awp_cond {t : Nat} {x y : Code} {b : Bool} (hs : σ.S t = .v (.bool b)) (h : AWP P cx (if b then x else y) Q σ) : AWP P cx (.cond (.tmp t) x y) Q σ := fun a w hc => by
  obtain ⟨μ, hc⟩ := hc
  exact wp_cond (t := b) (con_eval hc hs) (h a w ⟨μ, hc⟩)
theorem awp_cond_const {x y : Code} {b : Bool} (h : AWP P cx (if b then x else y) Q σ) : AWP P cx (.cond (.const (.bool b)) x y) Q σ := fun a w hc => wp_cond (t := b) rfl (h a w hc)
/-- A loop: I holds at each round's head; a round lowers the measure. -/
theorem awp_loop {c : Code} (I : Nat → St → Prop) (m : Nat) (h0 : I m σ) (hr : ∀ n s, I n s → AWP P cx c (thenQ (fun s' => ∃ n', n' < n ∧ I n' s') Q) s) : AWP P cx (.loop c) Q σ := by
  intro a w hc
  have ex : ∀ (p : Nat → Prop) (n : Nat), p n → ∃ k, p k ∧ ∀ m, p m → k ≤ m := by
    intro p n
    induction n using Nat.strongRecOn with
    | _ n ih =>
      intro hp
      by_cases h : ∃ m, m < n ∧ p m
      · obtain ⟨m, hm, hp'⟩ := h
        exact ih m hm hp'
      · exact ⟨n, hp, fun m hm => Nat.le_of_not_lt fun hlt => h ⟨m, hlt, hm⟩⟩
  have hμ : ∃ μ : Act → World → Nat, ∀ a w, (∃ n s, I n s ∧ Con cx s a w) → (∃ s, I (μ a w) s ∧ Con cx s a w) ∧ ∀ n s, I n s → Con cx s a w → μ a w ≤ n := by
    refine ⟨fun a w => (Classical.epsilon fun k => (∃ s, I k s ∧ Con cx s a w) ∧ ∀ m, (∃ s, I m s ∧ Con cx s a w) → k ≤ m), fun a w ⟨n, s, h1, h2⟩ => ?_⟩
    have := Classical.epsilon_spec (ex (fun k => ∃ s, I k s ∧ Con cx s a w) n ⟨s, h1, h2⟩)
    exact ⟨this.1, fun n s h3 h4 => this.2 n ⟨s, h3, h4⟩⟩
  obtain ⟨μ, hμ⟩ := hμ
  refine wp_loop (fun a w => ∃ n s, I n s ∧ Con cx s a w) μ ⟨m, σ, h0, hc⟩ fun a w hI => ?_
  obtain ⟨⟨s, h1, h2⟩, _⟩ := hμ a w hI
  refine wp_mono (hr _ s h1 a w h2) fun e a' w' ⟨s', h3, h4⟩ => ?_
  cases e with
  | normal =>
    obtain ⟨n', hlt, hI'⟩ := h3
    exact ⟨⟨n', s', hI', h4⟩, Nat.lt_of_le_of_lt ((hμ a' w' ⟨n', s', hI', h4⟩).2 n' s' hI' h4) hlt⟩
  | _ => exact ⟨s', h3, h4⟩
end
end Go.Fl
