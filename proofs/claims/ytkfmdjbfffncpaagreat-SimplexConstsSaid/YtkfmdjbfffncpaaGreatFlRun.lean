/- Regions over states that are written as lists. -/
import Derived.Test.YtkfmdjbfffncpaaGreatFlFn
set_option linter.unusedVariables false
namespace Go.Fl
open Go.RowKit

theorem dlt {o : Oper} {N : Nat} (h : (match o.dst with
  | some d => decide (d < N)
  | none => true) = true) : ∀ d, o.dst = some d → d < N := by
  intro d hd
  rw [hd] at h
  simpa using h

theorem nle {a b : Nat} (h : Nat.ble a b = true) : a ≤ b := Nat.le_of_ble_eq_true h
theorem nlt {a b : Nat} (h : Nat.ble (a + 1) b = true) : a < b := Nat.le_of_ble_eq_true h

def freeB (L : List (Nat × AV)) (M : List (Nat × Option O)) (nw : List Nat) : Bool :=
  nw.all fun b => L.all (fun p => !p.2.nm.contains b) && M.all fun p => match p.2 with
    | some o => p.1 != b && !o.nm.contains b
    | none => true
def push (dst : Option Nat) (av : AV) (L : List (Nat × AV)) : List (Nat × AV) :=
  match dst with
  | some d => (d, av) :: L
  | none => L
theorem mk_app (L : List (Nat × AV)) (M : List (Nat × Option O)) (dst : Option Nat) (av : AV) (rd nw : List Nat) (ef : List (Nat × Option O)) : (Fl.mk L M).app dst ⟨av, rd, nw, ef⟩ = Fl.mk (push dst av L) (ef ++ M) := by
  cases dst with
  | none => exact mk_app_none L M _
  | some d => exact mk_app_some L M d _

inductive RunL (P : Program) (cx : Cx) (ops : Array Oper) : List Oper → List (Nat × AV) → List (Nat × Option O) → List Ev → List (Nat × AV) → List (Nat × Option O) → Prop
  | nil (L : List (Nat × AV)) (M : List (Nat × Option O)) : RunL P cx ops [] L M [] L M
  | cons {o : Oper} {rest : List Oper} {L : List (Nat × AV)} {M : List (Nat × Option O)} {av : AV} {rd nw : List Nat} {ef : List (Nat × Option O)} {evs : List Ev} {L' : List (Nat × AV)} {M' : List (Nat × Option O)}
    (h : OpOK P cx ops o (Fl.mk L M) ⟨av, rd, nw, ef⟩) (hf : freeB L M nw = true) (hr : RunL P cx ops rest (push o.dst av L) (ef ++ M) evs L' M') : RunL P cx ops (o :: rest) L M (⟨av, rd, nw, ef⟩ :: evs) L' M'

section
variable {P : Program} {cx : Cx} {ops : Array Oper}
theorem freeB_iff {L : List (Nat × AV)} {M : List (Nat × Option O)} {nw : List Nat} (h : freeB L M nw = true) : ∀ b ∈ nw, (∀ p ∈ L, b ∉ p.2.nm) ∧ ∀ p ∈ M, ∀ o, p.2 = some o → p.1 ≠ b ∧ b ∉ o.nm := by
  intro b hb
  unfold freeB at h
  have := List.all_eq_true.1 h b hb
  simp only [Bool.and_eq_true, List.all_eq_true] at this
  obtain ⟨h1, h2⟩ := this
  refine ⟨fun p hp => by simpa using h1 p hp, fun p hp o ho => ?_⟩
  have := h2 p hp
  rw [ho] at this
  simpa using this
theorem free_mk {L : List (Nat × AV)} {M : List (Nat × Option O)} {b : Nat} (h1 : ∀ p ∈ L, b ∉ p.2.nm) (h2 : ∀ p ∈ M, ∀ o, p.2 = some o → p.1 ≠ b ∧ b ∉ o.nm) : (Fl.mk L M).B b = none ∧ (∀ t, b ∉ ((Fl.mk L M).S t).nm) ∧ ∀ b' o, (Fl.mk L M).B b' = some o → b ∉ o.nm := by
  have look : ∀ {α : Type} (l : List (Nat × α)) (k : Nat) (x : α), l.lookup k = some x → (k, x) ∈ l := by
    intro α l k x
    induction l with
    | nil => intro h; cases h
    | cons p l ih =>
      intro h
      rw [List.lookup_cons] at h
      by_cases hb : k == p.1
      · simp only [hb] at h
        have hb : k = p.1 := by simpa using hb
        injection h with h
        rw [hb, ← h]; exact List.mem_cons_self ..
      · simp only [hb] at h
        exact List.mem_cons_of_mem _ (ih h)
  refine ⟨?_, fun t => ?_, fun b' o ho => ?_⟩
  · simp only [Fl.mk]
    cases hl : M.lookup b with
    | none => rfl
    | some x =>
      cases x with
      | none => rfl
      | some o => exact absurd rfl (h2 _ (look M b _ hl) o rfl).1
  · simp only [Fl.mk]
    cases hl : L.lookup t with
    | none => simp [AV.nm, Ce.nm]
    | some x => exact h1 _ (look L t x hl)
  · simp only [Fl.mk] at ho
    cases hl : M.lookup b' with
    | none => rw [hl] at ho; cases ho
    | some x =>
      rw [hl] at ho
      exact (h2 _ (look M b' x hl) o ho).2
theorem RunL.run {l : List Oper} {L L' : List (Nat × AV)} {M M' : List (Nat × Option O)} {evs : List Ev} (h : RunL P cx ops l L M evs L' M') : Run P cx ops l (Fl.mk L M) evs (Fl.mk L' M') := by
  induction h with
  | nil L M => exact .nil _
  | cons h hf hr ih => exact .cons _ _ _ _ _ _ h (by rw [mk_app]; exact ih)
theorem RunL.freeAll {l : List Oper} {L L' : List (Nat × AV)} {M M' : List (Nat × Option O)} {evs : List Ev} (h : RunL P cx ops l L M evs L' M') : ∀ ev ∈ evs, ∀ b ∈ ev.nw, (∀ p ∈ L, b ∉ p.2.nm) ∧ ∀ p ∈ M, ∀ o, p.2 = some o → p.1 ≠ b ∧ b ∉ o.nm := by
  induction h with
  | nil L M => intro ev h; cases h
  | @cons o rest L M av rd nw ef evs L' M' h hf hr ih =>
    intro ev hev b hb
    rcases List.mem_cons.1 hev with rfl | hev
    · exact freeB_iff hf b hb
    · obtain ⟨h1, h2⟩ := ih ev hev b hb
      refine ⟨fun p hp => h1 p ?_, fun p hp => h2 p (List.mem_append_right _ hp)⟩
      unfold push
      split
      · exact List.mem_cons_of_mem _ hp
      · exact hp
/-- The same in the text's order alone. -/
theorem RunL.text {Q : Exit → Act → World → Prop} {l : List Oper} {L L' : List (Nat × AV)} {M M' : List (Nat × Option O)} {evs : List Ev} (h : RunL P cx ops l L M evs L' M') (hQ : ∀ a w, Con cx (Fl.mk L' M') a w → Q .normal a w) : ∀ a w, Con cx (Fl.mk L M) a w → wpList P ops Q l a w := by
  induction h with
  | nil L M => exact fun a w hc => hQ a w hc
  | @cons o rest L M av rd nw ef evs L' M' h hf hr ih =>
    intro a w hc
    have hfree : Free (Fl.mk L M) o.dst nw := fun b hb => by
      obtain ⟨h1, h2⟩ := freeB_iff hf b hb
      obtain ⟨g1, g2, g3⟩ := free_mk h1 h2
      exact ⟨g1, fun t _ => g2 t, g3⟩
    have key := h (Fl.mk L M) a w (fun _ _ => rfl) (fun _ _ => rfl) hfree hc (wpList P ops Q rest) Q (fun a' w' hc' => by rw [mk_app] at hc'; exact ih hQ a' w' hc')
    unfold wpList
    split
    · rename_i hw; rw [if_pos hw] at key; exact .inl key
    · rename_i hw; rw [if_neg hw] at key; exact key

theorem awp_rgn {Q : Exit → St → Prop} {id : Nat} {l : List Oper} {dr : Bool} {L L' : List (Nat × AV)} {M M' : List (Nat × Option O)} {evs : List Ev} (hr : RunL P cx l.toArray l L M evs L' M') (hc : dr = false ∨ (P.follows .mixedOrders = true ∧ okOrd ((l.zip evs).map fun p => nfOf l.toArray p.1 p.2) = true)) (hQ : Q .normal (Fl.mk L' M')) :
    AWP P cx (.region id l.toArray dr) Q (Fl.mk L M) := by
  rcases hc with rfl | ⟨hm, hc⟩
  · intro a w h
    exact wp_region_lit (hr.text (fun a w hc => ⟨_, hQ, hc⟩) a w h)
  · refine awp_region (fun _ => hm) hr.run (fun ev hev b hb => ?_) hc hQ
    obtain ⟨h1, h2⟩ := hr.freeAll ev hev b hb
    exact free_mk h1 h2

theorem awp_rseq {Q : Exit → St → Prop} {y : Code} {id : Nat} {l : List Oper} {dr : Bool} {L L' : List (Nat × AV)} {M M' : List (Nat × Option O)} {evs : List Ev} (hr : RunL P cx l.toArray l L M evs L' M') (hc : dr = false ∨ (P.follows .mixedOrders = true ∧ okOrd ((l.zip evs).map fun p => nfOf l.toArray p.1 p.2) = true)) (hy : AWP P cx y Q (Fl.mk L' M')) :
    AWP P cx (.seq (.region id l.toArray dr) y) Q (Fl.mk L M) := awp_seq (awp_rgn hr hc hy)

/-! ### A state that says less -/
theorem con_sub {σ σ' : St} (hS : ∀ t, σ'.S t = .c .junk ∨ σ'.S t = σ.S t) (hB : ∀ b o, σ'.B b = some o → σ.B b = some o) {a : Act} {w : World} (h : Con cx σ a w) : Con cx σ' a w := by
  obtain ⟨μ, h⟩ := h
  have hb : ∀ b, (σ'.B b).isSome = true → (σ.B b).isSome = true := fun b hb => by
    obtain ⟨o, ho⟩ := Option.isSome_iff_exists.1 hb
    rw [hB b o ho]; rfl
  have hok : ∀ f k, okOf cx σ μ f k → k < w.heap.size → okOf cx σ' μ f k := fun f k h _ => ⟨h.1, h.2.1, fun b v h1 h2 => h.2.2 b v (hb b h1) h2⟩
  refine ⟨μ, h.defers, h.size, h.below, fun t => ?_, fun b o ho => ?_, fun b b' v v' k h1 h2 => h.apart b b' v v' k (hb b h1) (hb b' h2), h.fixed, fun b v k h1 => h.unfix b v k (hb b h1), h.badfx, h.named⟩
  · rcases hS t with h1 | h1
    · rw [h1]; exact .none _
    · rw [h1]; exact (h.slots t).keep (fun _ _ _ _ => rfl) hok (fun _ _ => rfl)
  · exact (h.objs b o (hB b o ho)).keep (fun _ _ _ _ => rfl) hok rfl (fun _ _ => rfl) fun _ _ _ _ => rfl
theorem awp_sub {c : Code} {Q : Exit → St → Prop} {σ σ' : St} (hS : ∀ t, σ'.S t = .c .junk ∨ σ'.S t = σ.S t) (hB : ∀ b o, σ'.B b = some o → σ.B b = some o) (h : AWP P cx c Q σ') : AWP P cx c Q σ := fun a w hc => h a w (con_sub hS hB hc)
/-- Q at a state, or at one that says less. -/
def Or.sub (Q : St → Prop) (σ : St) : Prop := ∃ σ', (∀ t, σ'.S t = .c .junk ∨ σ'.S t = σ.S t) ∧ (∀ b o, σ'.B b = some o → σ.B b = some o) ∧ Q σ'
theorem awp_weak {c : Code} {Q Q' : Exit → St → Prop} {σ : St} (h : AWP P cx c Q' σ) (hq : ∀ e s, Q' e s → ∃ s', (∀ t, s'.S t = .c .junk ∨ s'.S t = s.S t) ∧ (∀ b o, s'.B b = some o → s.B b = some o) ∧ Q e s') : AWP P cx c Q σ :=
  fun a w hc => wp_mono (h a w hc) fun e a' w' ⟨s, h1, h2⟩ => by
    obtain ⟨s', g1, g2, g3⟩ := hq e s h1
    exact ⟨s', g3, con_sub g1 g2 h2⟩
/-- Each entry of the lists is one of the others'. -/
theorem sub_mk {L L' : List (Nat × AV)} {M M' : List (Nat × Option O)} (hL : ∀ p ∈ L', L.lookup p.1 = some p.2) (hM : ∀ p ∈ M', ∀ o, p.2 = some o → M.lookup p.1 = some (some o)) :
    (∀ t, (Fl.mk L' M').S t = .c .junk ∨ (Fl.mk L' M').S t = (Fl.mk L M).S t) ∧ ∀ b o, (Fl.mk L' M').B b = some o → (Fl.mk L M).B b = some o := by
  have look : ∀ {α : Type} (l : List (Nat × α)) (k : Nat) (x : α), l.lookup k = some x → (k, x) ∈ l := by
    intro α l k x
    induction l with
    | nil => intro h; cases h
    | cons p l ih =>
      intro h
      rw [List.lookup_cons] at h
      by_cases hb : k == p.1
      · simp only [hb] at h
        have hb : k = p.1 := by simpa using hb
        injection h with h
        rw [hb, ← h]; exact List.mem_cons_self ..
      · simp only [hb] at h
        exact List.mem_cons_of_mem _ (ih h)
  constructor
  · intro t
    simp only [Fl.mk]
    cases hl : L'.lookup t with
    | none => exact .inl rfl
    | some x => rw [hL _ (look L' t x hl)]; exact .inr rfl
  · intro b o ho
    simp only [Fl.mk] at ho ⊢
    cases hl : M'.lookup b with
    | none => rw [hl] at ho; cases ho
    | some x =>
      rw [hl] at ho
      simp only [Option.getD_some] at ho
      subst ho
      rw [hM _ (look M' b _ hl) o rfl]; rfl
end
end Go.Fl
