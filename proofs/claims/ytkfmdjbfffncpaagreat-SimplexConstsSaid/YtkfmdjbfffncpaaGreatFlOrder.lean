/- Every order of a region ends as the text's order does. -/
import Derived.Test.YtkfmdjbfffncpaaGreatFlRegion
set_option linter.unusedVariables false
namespace Go.Fl
open Go.RowKit

theorem range_split {n i : Nat} (h : i < n) : List.range n = List.range i ++ i :: List.range' (i + 1) (n - i - 1) := by
  rw [List.range_eq_range', List.range_eq_range', show n = i + (1 + (n - i - 1)) by omega, ← List.range'_append, Nat.one_mul, Nat.zero_add, ← List.range'_append]
  simp
theorem val_insert {α : Type} (u : Nat → Option α) (A C : List Nat) (i : Nat) (x : α) (hC : (u i).isSome = true → ∀ j ∈ C, (u j).isSome = false) : val u (A ++ i :: C) x = (u i).getD (val u (A ++ C) x) := by
  rw [val_append, val_cons, val_append]
  cases h : u i with
  | none => rfl
  | some y =>
    simp only [Option.getD_some]
    rw [val_filter, List.filter_eq_nil_iff.2]
    · rfl
    · intro j hj
      simp [hC (by simp [h]) j hj]
theorem val_from {α : Type} (u : Nat → Option α) (L : List Nat) (x : α) : val u L x = x ∨ ∃ j ∈ L, u j = some (val u L x) := by
  induction L generalizing x with
  | nil => exact .inl rfl
  | cons j L ih =>
    rw [val_cons]
    rcases ih ((u j).getD x) with h | ⟨k, hk, h⟩
    · cases hu : u j with
      | none => simp only [hu, Option.getD_none] at h ⊢; exact .inl h
      | some y => simp only [hu, Option.getD_some] at h ⊢; exact .inr ⟨j, List.mem_cons_self .., by rw [h, hu]⟩
    · exact .inr ⟨k, List.mem_cons_of_mem _ hk, h⟩
theorem val_same {α : Type} (u : Nat → Option α) (n i : Nat) (hi : i < n) (D : Nat → Bool) (x : α) (h : ∀ j, j < n → (u j).isSome = true → (D j = true ↔ j < i)) : val u ((List.range n).filter D) x = val u (List.range i) x := by
  rw [val_filter, List.filter_filter, val_filter u (List.range i)]
  congr 1
  have e : List.range i = (List.range n).filter fun j => decide (j < i) := by
    rw [range_split hi, List.filter_append, List.filter_cons]
    simp only [Nat.lt_irrefl, decide_false, Bool.false_eq_true, if_false]
    rw [show (List.range' (i + 1) (n - i - 1)).filter (fun j => decide (j < i)) = [] from List.filter_eq_nil_iff.2 (by intro j hj; simp at hj ⊢; omega), List.append_nil, List.filter_eq_self.2]
    intro j hj; simpa using List.mem_range.1 hj
  rw [e, List.filter_filter]
  apply List.filter_congr
  intro j hj
  have hj := List.mem_range.1 hj
  cases hs : (u j).isSome with
  | false => simp
  | true =>
    have := h j hj hs
    by_cases h2 : j < i
    · simp [h2, this.2 h2]
    · cases hd : D j with
      | false => simp [h2]
      | true => exact absurd (this.1 hd) h2

section
variable (P : Program) (cx : Cx) (ops : Array Oper) (E : Nat → Option Nat × Ev) (F : Nat → Nf) (n : Nat) (A : List (List Bool))
/-- What the look over the edges says. -/
structure Looked : Prop where
  nf : ∀ i, i < n → ∃ o, ops[i]? = some o ∧ (E i).1 = o.dst ∧ F i = nfOf ops o (E i).2
  size : ops.size = n
  fwd : ∀ i, i < n → ∀ e ∈ (F i).aft, e < i
  nwhs : ∀ i j, i < n → j < i → ∀ b ∈ (F i).nw, b ∉ (F j).hs ∧ b ∉ (F j).wr
  nwwr : ∀ i, i < n → ∀ b ∈ (F i).nw, b ∈ (F i).wr
  row : ∀ i j, i < n → j < i → rowAt A i j = true → ∃ e ∈ (F i).aft, e = j ∨ (j < e ∧ rowAt A e j = true)
  ind : ∀ i j, i < j → j < n → rowAt A j i = true ∨ indep (F i) (F j) = true
variable {P cx ops E F n A}

theorem Looked.of_check {evs : List Ev} (hl : evs.length = ops.size) (h : okOrd ((ops.toList.zip evs).map fun p => nfOf ops p.1 p.2) = true) :
    Looked ops (fun i => ((ops[i]?).bind (·.dst), evs.getD i ⟨default, [], [], []⟩)) (fun i => ((ops.toList.zip evs).map fun p => nfOf ops p.1 p.2).getD i ⟨none, [], [], [], [], [], []⟩) ops.size (table ((ops.toList.zip evs).map fun p => nfOf ops p.1 p.2)) := by
  generalize hn : (ops.toList.zip evs).map (fun p => nfOf ops p.1 p.2) = nfs at h
  have hlen : nfs.length = ops.size := by rw [← hn]; simp [hl]
  have hget : ∀ i (hi : i < ops.size), nfs.getD i ⟨none, [], [], [], [], [], []⟩ = nfs[i]'(by omega) := fun i hi => by
    rw [List.getD_eq_getElem?_getD, List.getElem?_eq_getElem (by omega)]; rfl
  have hmem : ∀ i (hi : i < ops.size), (nfs[i]'(by omega), i) ∈ nfs.zipIdx := fun i hi => by
    rw [List.mem_iff_getElem?]; exact ⟨i, by rw [List.getElem?_zipIdx, List.getElem?_eq_getElem (by omega)]; simp⟩
  unfold okOrd at h
  generalize table nfs = A at h ⊢
  simp only [Bool.and_eq_true] at h
  obtain ⟨h1, h2⟩ := h
  unfold okA at h1
  unfold okI at h2
  simp only [List.all_eq_true, Bool.and_eq_true] at h1 h2
  refine ⟨fun i hi => ?_, rfl, fun i hi e he => ?_, fun i j hi hj b hb => ?_, fun i hi b hb => ?_, fun i j hi hj hr => ?_, fun i j hij hj => ?_⟩
  · refine ⟨ops[i], by simp [hi], by simp [hi], ?_⟩
    rw [hget i hi]
    subst hn
    simp only [List.getElem_map, List.getElem_zip, Array.getElem_toList]
    rw [List.getD_eq_getElem?_getD, List.getElem?_eq_getElem (by omega)]; rfl
  · have := (h1 _ (hmem i hi)).1.1.1 e (by rw [hget i hi] at he; exact he)
    simpa using this
  · have h3 := disj_iff.1 (h1 _ (hmem i hi)).1.1.2 b (by rw [hget i hi] at hb; exact hb)
    have hj' : j < ops.size := by omega
    rw [hget j hj']
    simp only [List.mem_flatMap, not_exists, not_and] at h3
    have := h3 _ (hmem j hj')
    simpa [hj] using this
  · have := (h1 _ (hmem i hi)).1.2 b (by rw [hget i hi] at hb; exact hb)
    rw [hget i hi]; simpa using this
  · have := (h1 _ (hmem i hi)).2 j (List.mem_range.2 hj)
    simp only [hr, Bool.not_true, Bool.false_or, List.any_eq_true, Bool.or_eq_true, Bool.and_eq_true, decide_eq_true_eq, beq_iff_eq] at this
    rw [hget i hi]; exact this
  · have := h2 _ (hmem j hj) _ (hmem i (by omega))
    rw [hget i (by omega), hget j hj]
    simp only [hij, decide_true, Bool.not_true, Bool.false_or, Bool.or_eq_true] at this
    exact this

theorem Looked.closed (H : Looked ops E F n A) {D : Nat → Bool} (hD : ∀ i, i < n → D i = true → ∀ e ∈ (F i).aft, D e = true) :
    ∀ i, i < n → (∀ e ∈ (F i).aft, D e = true) → ∀ j, j < i → rowAt A i j = true → D j = true := by
  intro i
  induction i using Nat.strongRecOn with
  | _ i ih =>
    intro hi ha j hj hr
    obtain ⟨e, he, h⟩ := H.row i j hi hj hr
    have hlt := H.fwd i hi e he
    rcases h with rfl | ⟨hje, h⟩
    · exact ha _ he
    · exact ih e hlt (by omega) (hD e (by omega) (ha e he)) j hje h

variable (E) in
def upTo (D : Nat → Bool) (n : Nat) (σ : St) : St := foldSt E ((List.range n).filter D) σ

theorem indep_iff {x y : Nf} (h : indep x y = true) : (∀ d, x.dst = some d → d ∉ y.looks ∧ y.dst ≠ some d) ∧ (∀ d, y.dst = some d → d ∉ x.looks) ∧ (∀ b ∈ x.wr, b ∉ y.rd ∧ b ∉ y.wr) ∧ (∀ b ∈ y.wr, b ∉ x.rd) ∧ (∀ b ∈ x.nw, b ∉ y.hs) := by
  unfold indep at h
  simp only [Bool.and_eq_true, disj_iff, Option.mem_toList] at h
  obtain ⟨⟨⟨⟨⟨⟨h1, h2⟩, h3⟩, h4⟩, h5⟩, h6⟩, h7⟩ := h
  exact ⟨fun d hd => ⟨h1 d hd, h2 d hd⟩, fun d hd => h3 d hd, fun b hb => ⟨h4 b hb, h5 b hb⟩, h6, h7⟩

theorem Looked.dst (H : Looked ops E F n A) {i : Nat} (hi : i < n) : (F i).dst = (E i).1 := by
  obtain ⟨o, _, h1, h2⟩ := H.nf i hi
  rw [h2, h1]; rfl
theorem Looked.wr (H : Looked ops E F n A) {i b : Nat} (hi : i < n) (h : ((E i).2.uB b).isSome = true) : b ∈ (F i).wr := by
  obtain ⟨o, _, _, h2⟩ := H.nf i hi
  rw [h2]
  simp only [nfOf, Ev.uB] at h ⊢
  rw [Option.isSome_iff_exists] at h
  obtain ⟨x, hx⟩ := h
  have : ∀ (l : List (Nat × Option O)), l.lookup b = some x → b ∈ l.map (·.1) := by
    intro l
    induction l with
    | nil => intro h; cases h
    | cons p l ih =>
      intro h
      rw [List.lookup_cons] at h
      by_cases hb : b == p.1
      · simp only [List.map_cons, List.mem_cons]; exact .inl (by simpa using hb)
      · simp only [hb] at h
        exact List.mem_cons_of_mem _ (ih h)
  exact this _ hx
theorem uS_some {dst : Option Nat} {ev : Ev} {t : Nat} (h : (ev.uS dst t).isSome = true) : dst = some t := by
  unfold Ev.uS at h
  split at h
  · assumption
  · simp at h

section
variable (H : Looked ops E F n A) {D : Nat → Bool} (hD : ∀ i, i < n → D i = true → ∀ e ∈ (F i).aft, D e = true) {i : Nat} (hi : i < n) (hni : D i = false) (hr : ∀ e ∈ (F i).aft, D e = true)
include H hD hi hni hr
theorem Looked.sees (σ : St) : (∀ t ∈ (F i).looks, (upTo E D n σ).S t = (foldSt E (List.range i) σ).S t) ∧ ∀ b ∈ (F i).rd, (upTo E D n σ).B b = (foldSt E (List.range i) σ).B b := by
  constructor
  · intro t ht
    unfold upTo
    rw [foldSt_S, foldSt_S]
    refine val_same _ n i hi D _ fun j hj hs => ?_
    have hdj : (F j).dst = some t := by rw [H.dst hj]; exact uS_some hs
    constructor
    · intro hDj
      apply Classical.byContradiction
      intro hlt
      rcases Nat.lt_or_ge i j with h1 | h1
      · rcases H.ind i j h1 hj with h2 | h2
        · have := H.closed hD j hj (hD j hj hDj) i h1 h2
          rw [hni] at this; cases this
        · exact (indep_iff h2).2.1 t hdj ht
      · have : j = i := by omega
        subst this; rw [hni] at hDj; cases hDj
    · intro hlt
      rcases H.ind j i hlt hi with h2 | h2
      · exact H.closed hD i hi hr j hlt h2
      · exact absurd ht ((indep_iff h2).1 t hdj).1
  · intro b hb
    unfold upTo
    rw [foldSt_B, foldSt_B]
    refine val_same _ n i hi D _ fun j hj hs => ?_
    have hwj := H.wr hj hs
    constructor
    · intro hDj
      apply Classical.byContradiction
      intro hlt
      rcases Nat.lt_or_ge i j with h1 | h1
      · rcases H.ind i j h1 hj with h2 | h2
        · have := H.closed hD j hj (hD j hj hDj) i h1 h2
          rw [hni] at this; cases this
        · exact (indep_iff h2).2.2.2.1 b hwj hb
      · have : j = i := by omega
        subst this; rw [hni] at hDj; cases hDj
    · intro hlt
      rcases H.ind j i hlt hi with h2 | h2
      · exact H.closed hD i hi hr j hlt h2
      · exact absurd hb ((indep_iff h2).2.2.1 b hwj).1
omit hi hr in
theorem Looked.later {j : Nat} (hj : j < n) (hij : i < j) (hDj : D j = true) : indep (F i) (F j) = true := by
  rcases H.ind i j hij hj with h2 | h2
  · have := H.closed hD j hj (hD j hj hDj) i hij h2
    rw [hni] at this; cases this
  · exact h2
theorem Looked.free {σ : St} (h0 : ∀ b ∈ (F i).nw, σ.B b = none ∧ (∀ t, b ∉ (σ.S t).nm) ∧ ∀ b' o, σ.B b' = some o → b ∉ o.nm) : Free (upTo E D n σ) (E i).1 (F i).nw := by
  have hsOf : ∀ j, j < n → D j = true → ∀ b ∈ (F i).nw, b ∉ (F j).hs ∧ b ∉ (F j).wr := by
    intro j hj hDj b hb
    rcases Nat.lt_trichotomy j i with h | h | h
    · exact H.nwhs i j hi h b hb
    · subst h; rw [hni] at hDj; cases hDj
    · have h2 := indep_iff (H.later hD hni hj h hDj)
      exact ⟨h2.2.2.2.2 b hb, (h2.2.2.1 b (H.nwwr i hi b hb)).2⟩
  intro b hb
  obtain ⟨z1, z2, z3⟩ := h0 b hb
  refine ⟨?_, fun t ht => ?_, fun b' o ho => ?_⟩
  · unfold upTo
    rw [foldSt_B]
    rcases val_from (fun j => (E j).2.uB b) ((List.range n).filter D) (σ.B b) with h | ⟨j, hj, h⟩
    · rw [h]; exact z1
    · simp only [List.mem_filter, List.mem_range] at hj
      exact absurd (H.wr hj.1 (by rw [h]; rfl)) (hsOf j hj.1 hj.2 b hb).2
  · unfold upTo
    rw [foldSt_S]
    rcases val_from (fun j => (E j).2.uS (E j).1 t) ((List.range n).filter D) (σ.S t) with h | ⟨j, hj, h⟩
    · rw [h]; exact z2 t
    · simp only [List.mem_filter, List.mem_range] at hj
      generalize val _ _ _ = av at h ⊢
      intro hx
      refine absurd ?_ (hsOf j hj.1 hj.2 b hb).1
      have : (E j).2.av = av := by
        unfold Ev.uS at h
        split at h
        · simpa using h
        · cases h
      obtain ⟨o, _, _, h2⟩ := H.nf j hj.1
      rw [h2]
      simp only [nfOf, Ev.hs, this]
      exact List.mem_append_left _ hx
  · unfold upTo at ho
    rw [foldSt_B] at ho
    rcases val_from (fun j => (E j).2.uB b') ((List.range n).filter D) (σ.B b') with h | ⟨j, hj, h⟩
    · rw [h] at ho; exact z3 b' o ho
    · simp only [List.mem_filter, List.mem_range] at hj
      rw [ho] at h
      intro hx
      refine absurd ?_ (hsOf j hj.1 hj.2 b hb).1
      obtain ⟨o', _, _, h2⟩ := H.nf j hj.1
      rw [h2]
      simp only [nfOf, Ev.hs]
      refine List.mem_append_right _ (List.mem_flatMap.2 ⟨(b', some o), ?_, hx⟩)
      unfold Ev.uB at h
      have : ∀ (l : List (Nat × Option O)) (x : Option O), l.lookup b' = some x → (b', x) ∈ l := by
        intro l x
        induction l with
        | nil => intro h; cases h
        | cons p l ih =>
          intro h
          rw [List.lookup_cons] at h
          by_cases hb : b' == p.1
          · simp only [hb] at h
            have hb : b' = p.1 := by simpa using hb
            injection h with h
            rw [hb, ← h]; exact List.mem_cons_self ..
          · simp only [hb] at h
            exact List.mem_cons_of_mem _ (ih h)
      exact this _ _ h
omit hr in
theorem Looked.step (σ : St) : upTo E (fun j => D j || j == i) n σ = (upTo E D n σ).app (E i).1 (E i).2 := by
  have e1 : (List.range n).filter (fun j => D j || j == i) = (List.range i).filter D ++ i :: (List.range' (i + 1) (n - i - 1)).filter D := by
    rw [range_split hi, List.filter_append, List.filter_cons]
    simp only [beq_self_eq_true, Bool.or_true, if_true]
    congr 1
    · exact List.filter_congr fun j hj => by have := List.mem_range.1 hj; have : (j == i) = false := by simp; omega
                                             simp [this]
    · congr 1
      exact List.filter_congr fun j hj => by have := List.mem_range'.1 hj; have : (j == i) = false := by simp; omega
                                             simp [this]
  have e2 : (List.range n).filter D = (List.range i).filter D ++ (List.range' (i + 1) (n - i - 1)).filter D := by
    rw [range_split hi, List.filter_append, List.filter_cons]
    simp [hni]
  unfold upTo
  rw [e1, e2]
  have hC : ∀ j ∈ (List.range' (i + 1) (n - i - 1)).filter D, j < n ∧ i < j ∧ D j = true := by
    intro j hj
    simp only [List.mem_filter, List.mem_range'_1] at hj
    exact ⟨by omega, by omega, hj.2⟩
  apply St.ext'
  · intro t
    simp only [St.app]
    rw [foldSt_S, foldSt_S]
    refine val_insert _ _ _ _ _ fun hs j hj => ?_
    obtain ⟨h1, h2, h3⟩ := hC j hj
    have h4 := indep_iff (H.later hD hni h1 h2 h3)
    cases hsj : ((E j).2.uS (E j).1 t).isSome with
    | false => rfl
    | true =>
      have a1 := uS_some hs
      have a2 := uS_some hsj
      exact absurd ((H.dst h1).trans a2) (h4.1 t ((H.dst hi).trans a1)).2
  · intro b
    simp only [St.app]
    rw [foldSt_B, foldSt_B]
    refine val_insert _ _ _ _ _ fun hs j hj => ?_
    obtain ⟨h1, h2, h3⟩ := hC j hj
    have h4 := indep_iff (H.later hD hni h1 h2 h3)
    cases hsj : ((E j).2.uB b).isSome with
    | false => rfl
    | true => exact absurd (H.wr h1 hsj) (h4.2.2.1 b (H.wr hi hs)).2
end

theorem Looked.any (H : Looked ops E F n A) {Q : Exit → Act → World → Prop} {σ : St} (h0 : ∀ i, i < n → ∀ b ∈ (F i).nw, σ.B b = none ∧ (∀ t, b ∉ (σ.S t).nm) ∧ ∀ b' o, σ.B b' = some o → b ∉ o.nm)
    (hrun : ∀ i o, i < n → ops[i]? = some o → OpOK P cx ops o (foldSt E (List.range i) σ) (E i).2) (hQ : ∀ a w, Con cx (foldSt E (List.range n) σ) a w → Q .normal a w) :
    ∀ (fuel : Nat) (listed : Array Bool) (a : Act) (w : World), listed.size = n → (∀ i, i < n → listed.getD i false = true → ∀ e ∈ (F i).aft, listed.getD e false = true) →
      ((List.range n).filter fun j => !listed.getD j false).length ≤ fuel → Con cx (upTo E (fun j => listed.getD j false) n σ) a w → wpAny P .any ops Q fuel listed a w := by
  have mem : ∀ (listed : Array Bool), listed.size = n → ∀ i, i ∈ Region.ready .any ops listed ↔ i < n ∧ listed.getD i false = false ∧ ∀ e ∈ (F i).aft, listed.getD e false = true := by
    intro listed hs i
    unfold Region.ready
    rw [List.mem_filter, List.mem_range, H.size]
    constructor
    · rintro ⟨hi, h⟩
      obtain ⟨o, ho, h1, h2⟩ := H.nf i hi
      rw [ho] at h
      simp only [Option.map_some, Option.getD_some, Bool.and_eq_true, Bool.not_eq_true', Array.all_eq_true_iff_forall_mem, Bool.or_eq_true] at h
      refine ⟨hi, ?_, fun e he => ?_⟩
      · have := h.1
        rw [Array.getD_eq_getD_getElem?, Array.getElem?_eq_getElem (by omega)] at this ⊢
        exact this
      · rw [h2] at he
        simp only [nfOf, List.mem_map, List.mem_filter, Array.mem_toList_iff] at he
        obtain ⟨x, ⟨hx, hb⟩, rfl⟩ := he
        rcases h.2 x hx with h3 | h3
        · rw [hb] at h3; cases h3
        · exact h3
    · rintro ⟨hi, h3, h4⟩
      obtain ⟨o, ho, h1, h2⟩ := H.nf i hi
      refine ⟨hi, ?_⟩
      rw [ho]
      simp only [Option.map_some, Option.getD_some, Bool.and_eq_true, Bool.not_eq_true', Array.all_eq_true_iff_forall_mem, Bool.or_eq_true]
      refine ⟨?_, fun x hx => ?_⟩
      · rw [Array.getD_eq_getD_getElem?, Array.getElem?_eq_getElem (by omega)] at h3 ⊢
        exact h3
      · cases hb : Region.binds .any x with
        | false => exact .inl rfl
        | true =>
          right
          apply h4
          rw [h2]
          simp only [nfOf, List.mem_map, List.mem_filter, Array.mem_toList_iff]
          exact ⟨x, ⟨hx, hb⟩, rfl⟩
  have all : ∀ (listed : Array Bool), listed.size = n → Region.ready .any ops listed = [] → ∀ i, i < n → listed.getD i false = true := by
    intro listed hs hr i
    induction i using Nat.strongRecOn with
    | _ i ih =>
      intro hi
      cases hl : listed.getD i false with
      | true => rfl
      | false =>
        have : i ∈ Region.ready .any ops listed := (mem listed hs i).2 ⟨hi, hl, fun e he => ih e (H.fwd i hi e he) (by have := H.fwd i hi e he; omega)⟩
        rw [hr] at this; cases this
  have done : ∀ (listed : Array Bool) (a : Act) (w : World), (∀ i, i < n → listed.getD i false = true) → Con cx (upTo E (fun j => listed.getD j false) n σ) a w → Q .normal a w := by
    intro listed a w hl hc
    apply hQ
    have : (List.range n).filter (fun j => listed.getD j false) = List.range n := List.filter_eq_self.2 fun j hj => hl j (List.mem_range.1 hj)
    unfold upTo at hc
    rw [this] at hc
    exact hc
  intro fuel
  induction fuel with
  | zero =>
    intro listed a w hs hcl hf hc
    have hl : ∀ i, i < n → listed.getD i false = true := by
      intro i hi
      have : ((List.range n).filter fun j => !listed.getD j false) = [] := List.eq_nil_of_length_eq_zero (by omega)
      have := List.filter_eq_nil_iff.1 this i (List.mem_range.2 hi)
      simpa using this
    refine ⟨?_, done listed a w hl hc⟩
    rw [List.eq_nil_iff_forall_not_mem]
    intro i hi
    have := (mem listed hs i).1 hi
    rw [hl i this.1] at this
    cases this.2.1
  | succ fuel ih =>
    intro listed a w hs hcl hf hc
    refine ⟨fun hr => done listed a w (all listed hs hr) hc, fun i hi => ?_⟩
    obtain ⟨hin, hni, hre⟩ := (mem listed hs i).1 hi
    obtain ⟨o, ho, hd, hnf⟩ := H.nf i hin
    unfold wpOp
    rw [ho]
    have hsee := H.sees (D := fun j => listed.getD j false) hcl hin hni hre σ
    have hfree := H.free (D := fun j => listed.getD j false) hcl hin hni hre (h0 i hin)
    have hstep := H.step (D := fun j => listed.getD j false) hcl hin hni σ
    rw [hnf] at hsee hfree
    rw [hd] at hfree hstep
    have key := hrun i o hin ho (upTo E (fun j => listed.getD j false) n σ) a w hsee.1 hsee.2 hfree hc
      (wpAny P .any ops Q fuel (listed.setIfInBounds i true)) Q ?_
    · simp only []
      split
      · rename_i hw; rw [if_pos hw] at key; exact .inl key
      · rename_i hw; rw [if_neg hw] at key; exact key
    · intro a' w' hc'
      have hg : ∀ j, (listed.setIfInBounds i true).getD j false = (listed.getD j false || j == i) := by
        intro j
        rw [Array.getD_eq_getD_getElem?, Array.getD_eq_getD_getElem?, Array.getElem?_setIfInBounds]
        by_cases hji : i = j
        · subst hji; simp [hs, hin]
        · have : (j == i) = false := by simp; omega
          simp [hji, this]
      refine ih _ a' w' (by simp [hs]) (fun j hj h e he => ?_) ?_ ?_
      · rw [hg] at h ⊢
        simp only [Bool.or_eq_true, beq_iff_eq] at h ⊢
        rcases h with h | rfl
        · exact .inl (hcl j hj h e he)
        · exact .inl (hre e he)
      · have e1 : ((List.range n).filter fun j => !listed.getD j false) = (List.range i).filter (fun j => !listed.getD j false) ++ i :: (List.range' (i + 1) (n - i - 1)).filter (fun j => !listed.getD j false) := by
          rw [range_split hin, List.filter_append, List.filter_cons]
          rw [hni]; rfl
        have e2 : ((List.range n).filter fun j => !(listed.setIfInBounds i true).getD j false) = (List.range i).filter (fun j => !listed.getD j false) ++ (List.range' (i + 1) (n - i - 1)).filter (fun j => !listed.getD j false) := by
          rw [range_split hin, List.filter_append, List.filter_cons]
          rw [hg i]
          simp only [beq_self_eq_true, Bool.or_true, Bool.not_true, Bool.false_eq_true, if_false]
          congr 1
          · exact List.filter_congr fun j hj => by have := List.mem_range.1 hj; rw [hg]; have : (j == i) = false := by simp; omega
                                                   simp [this]
          · exact List.filter_congr fun j hj => by have := List.mem_range'.1 hj; rw [hg]; have : (j == i) = false := by simp; omega
                                                   simp [this]
        rw [e1] at hf
        rw [e2]
        simp only [List.length_append, List.length_cons] at hf ⊢
        omega
      · have : (fun j => (listed.setIfInBounds i true).getD j false) = fun j => listed.getD j false || j == i := funext hg
        rw [this, hstep]
        exact hc'
end
end Go.Fl
