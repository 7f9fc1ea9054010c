/- Steps of states: new blocks, new objects, objects that change. -/
import Derived.Test.YtkfmdjbfffncpaaGreatFlOps
set_option linter.unusedVariables false
namespace Go.Fl
open Go.RowKit

section
variable {P : Program} {cx : Cx} {dst : Option Nat} {σ : St} {μ : Nat → Option Value} {a : Act} {w : World}

theorem live_lt (hc : Conc cx σ μ a w) {b k : Nat} {v : Value} (hb : (σ.B b).isSome = true) (hμ : μ b = some v) (hk : blk v = some k) : k < w.heap.size ∧ cx.w0.heap.size ≤ k := by
  obtain ⟨o, ho⟩ := Option.isSome_iff_exists.1 hb
  have := hc.objs b o ho
  cases o with
  | bx T cs =>
    obtain ⟨g, us, h1, h2, h3, h4⟩ := this
    rw [hμ] at h1
    injection h1 with h1
    subst h1
    simp only [blk, Option.some.injEq] at hk
    subst hk
    exact ⟨(Array.getElem?_eq_some_iff.1 h3).1, h2⟩
  | rw E z n cs =>
    obtain ⟨v', us, h1, h2, h3⟩ := this
    rw [hμ] at h1
    injection h1 with h1
    subst h1
    rcases h2.2 with ⟨rfl, _⟩ | ⟨g, cap, cur, rfl, hb, hh, _⟩
    · simp [blk] at hk
    · simp only [blk, Option.some.injEq] at hk
      subst hk
      exact ⟨(Array.getElem?_eq_some_iff.1 hh).1, hb⟩
  | mp es clock =>
    obtain ⟨g, us, h1, h2, h3, h4⟩ := this
    rw [hμ] at h1
    injection h1 with h1
    subst h1
    simp only [blk, Option.some.injEq] at hk
    subst hk
    exact ⟨(Array.getElem?_eq_some_iff.1 h3).1, h2⟩
  | it m since seen last =>
    obtain ⟨g, gm, h1, h2, h3, h4⟩ := this
    rw [hμ] at h1
    injection h1 with h1
    subst h1
    simp only [blk, Option.some.injEq] at hk
    subst hk
    exact ⟨(Array.getElem?_eq_some_iff.1 h4).1, h2⟩
  | itn =>
    obtain ⟨g, h1, h2, h3⟩ := this
    rw [hμ] at h1
    injection h1 with h1
    subst h1
    simp only [blk, Option.some.injEq] at hk
    subst hk
    exact ⟨(Array.getElem?_eq_some_iff.1 h3).1, h2⟩

theorem RdO.keep {w1 : World} {ok ok1 : Bool → Nat → Prop} {μ1 : Nat → Option Value} {base b : Nat} {o : O} (hw : ∀ f k, ok f k → k < w.heap.size → w1.heap[k]? = w.heap[k]?) (ho : ∀ f k, ok f k → k < w.heap.size → ok1 f k)
    (hμb : μ1 b = μ b) (hμ : ∀ b' ∈ o.nm, μ1 b' = μ b') (hk : ∀ v k, μ b = some v → blk v = some k → w1.heap[k]? = w.heap[k]?) (h : RdO base w ok μ b o) : RdO base w1 ok1 μ1 b o := by
  cases o with
  | bx T cs =>
    obtain ⟨g, us, h1, h2, h3, h4⟩ := h
    exact ⟨g, us, hμb.trans h1, h2, (hk _ g h1 rfl).trans h3, h4.keep hw ho hμ⟩
  | rw E z n cs =>
    obtain ⟨v, us, h1, h2, h3⟩ := h
    refine ⟨v, us, hμb.trans h1, ⟨h2.1, ?_⟩, h3.keep hw ho hμ⟩
    rcases h2.2 with h | ⟨g, cap, cur, rfl, hb, hh, hr⟩
    · exact .inl h
    · exact .inr ⟨g, cap, cur, rfl, hb, (hk _ g h1 rfl).trans hh, hr⟩
  | mp es clock =>
    obtain ⟨g, vs, h1, h2, h3, h4⟩ := h
    exact ⟨g, vs, hμb.trans h1, h2, (hk _ g h1 rfl).trans h3, h4.keep hw ho hμ⟩
  | it m since seen last =>
    obtain ⟨g, gm, h1, h2, h3, h4⟩ := h
    exact ⟨g, gm, hμb.trans h1, h2, (hμ m (by simp [O.nm])).trans h3, (hk _ g h1 rfl).trans h4⟩
  | itn =>
    obtain ⟨g, h1, h2, h3⟩ := h
    exact ⟨g, hμb.trans h1, h2, (hk _ g h1 rfl).trans h3⟩

theorem conc_step (hc : Conc cx σ μ a w) (hd : ∀ d, dst = some d → d < cx.N) (ev : Ev) (v : Value) (w1 : World) (μ1 : Nat → Option Value) (hbel : Below cx.w0.heap.size cx.w0 w1)
    (hw : ∀ f k, okOf cx σ μ f k → k < w.heap.size → w1.heap[k]? = w.heap[k]?) (hok : ∀ f k, okOf cx σ μ f k → k < w.heap.size → okOf cx (σ.app dst ev) μ1 f k)
    (hμ : ∀ t, dst ≠ some t → ∀ b ∈ (σ.S t).nm, μ1 b = μ b) (hv : dst = none ∨ RdA w1 (okOf cx (σ.app dst ev) μ1) μ1 v ev.av)
    (hobj : ∀ b x, (σ.app dst ev).B b = some x → RdO cx.w0.heap.size w1 (okOf cx (σ.app dst ev) μ1) μ1 b x)
    (hap : ∀ b b' v v' k, ((σ.app dst ev).B b).isSome = true → ((σ.app dst ev).B b').isSome = true → μ1 b = some v → μ1 b' = some v' → blk v = some k → blk v' = some k → b = b')
    (hfx : ∀ k, cx.fx k → w1.heap[k]? = w.heap[k]?) (hunf : ∀ b v k, ((σ.app dst ev).B b).isSome = true → μ1 b = some v → blk v = some k → ¬ cx.fx k) (hnam : ∀ b, cx.nf b = true → μ1 b = μ b) :
    Con cx (σ.app dst ev) (a.put dst v) w1 := by
  refine ⟨μ1, ?_, ?_, hbel, fun t => ?_, hobj, hap, fun k hk => ?_, hunf, hc.badfx, fun b hb => (hnam b hb).trans (hc.named b hb)⟩
  · cases dst <;> simp [Act.put, hc.defers]
  · cases dst <;> simp [Act.put, hc.size]
  · cases dst with
    | none =>
      have := (hc.slots t).keep hw hok (hμ t (by simp))
      simpa [Act.put, St.app, Ev.uS] using this
    | some d =>
      have hlt := hd d rfl
      by_cases hdt : d = t
      · subst hdt
        simp only [Act.put]
        rw [Array.getD_eq_getD_getElem?, Array.getElem?_setIfInBounds_self_of_lt (by rw [hc.size]; exact hlt)]
        rcases hv with hv | hv
        · cases hv
        · simpa [St.app, Ev.uS] using hv
      · have := (hc.slots t).keep hw hok (hμ t (by simpa using hdt))
        simp only [Act.put]
        rw [Array.getD_eq_getD_getElem?, Array.getElem?_setIfInBounds_ne hdt, ← Array.getD_eq_getD_getElem?]
        have e : (σ.app (some d) ev).S t = σ.S t := by simp [St.app, Ev.uS, hdt]
        rw [e]; exact this
  · obtain ⟨h1, h2⟩ := hc.fixed k hk
    have h3 := hfx k hk
    refine ⟨?_, h3.trans h2⟩
    rw [Array.getElem?_eq_getElem h1] at h3
    exact (Array.getElem?_eq_some_iff.1 h3).1

/-- Where all blocks that were stay as they were, and no object is struck or made. -/
theorem conc_grow (hc : Conc cx σ μ a w) (hd : ∀ d, dst = some d → d < cx.N) (av : AV) (v : Value) (w1 : World) (hbel : Below w.heap.size w w1) (rd : List Nat)
    (hv : dst = none ∨ RdA w1 (okOf cx σ μ) μ v av) : Con cx (σ.app dst ⟨av, rd, [], []⟩) (a.put dst v) w1 := by
  have hB : ∀ b, (σ.app dst ⟨av, rd, [], []⟩).B b = σ.B b := fun b => by simp [St.app, Ev.uB]
  have hok : okOf cx (σ.app dst ⟨av, rd, [], []⟩) μ = okOf cx σ μ := by
    funext f k; simp [okOf, hB]
  have hb0 : Below cx.w0.heap.size cx.w0 w1 := hc.below.trans ⟨hbel.os, hbel.tape, hbel.output, hbel.size, fun k hk => hbel.block k (Nat.lt_of_lt_of_le hk hc.below.size)⟩
  refine conc_step hc hd _ v w1 μ hb0 (fun f k _ hk => hbel.block k hk) (fun f k h _ => by rw [hok]; exact h) (fun _ _ _ _ => rfl) (by rw [hok]; exact hv) (fun b x hx => ?_) (fun b b' v v' k h1 h2 => ?_) (fun k hk => hbel.block k (hc.fixed k hk).1) (fun b v k h1 => hc.unfix b v k (by rw [hB] at h1; exact h1)) (fun _ _ => rfl)
  · rw [hB] at hx
    rw [hok]
    exact (hc.objs b x hx).keep (fun f k _ hk => hbel.block k hk) (fun _ _ h _ => h) rfl (fun _ _ => rfl) fun v k hv hk => hbel.block k (live_lt hc (by rw [hx]; rfl) hv hk).1
  · rw [hB] at h1 h2
    exact hc.apart b b' v v' k h1 h2

theorem rdl_ones {ok : Bool → Nat → Prop} {us : List Value} {ds : List D} (h : RdL w ok μ us (ds.map Ce.one)) : us.length = ds.length ∧ ∀ (j : Nat) (u : Value) (d : D), us[j]? = some u → ds[j]? = some d → Rd w ok u d := by
  refine ⟨by simpa using h.1, fun j u d h1 h2 => ?_⟩
  have := h.2 j u (.one d) h1 (by simp [h2])
  cases this; assumption
theorem ones_rdl {ok : Bool → Nat → Prop} {us : List Value} {ds : List D} (hl : us.length = ds.length) (h : ∀ (j : Nat) (u : Value) (d : D), us[j]? = some u → ds[j]? = some d → Rd w ok u d) : RdL w ok μ us (ds.map Ce.one) := by
  refine ⟨by simpa using hl, fun j u x h1 h2 => ?_⟩
  rw [List.getElem?_map, Option.map_eq_some_iff] at h2
  obtain ⟨d, hd, rfl⟩ := h2
  exact .one _ _ (h j u d h1 hd)
theorem RdL.oneCell {ok : Bool → Nat → Prop} {us : List Value} {cs : List Ce} (h : RdL w ok μ us cs) : ∀ u ∈ us, u.oneCell' = true := by
  intro u hu
  obtain ⟨j, hj, rfl⟩ := List.mem_iff_getElem.1 hu
  have hj2 : j < cs.length := by rw [← h.1]; exact hj
  exact (h.2 j _ _ (List.getElem?_eq_getElem hj) (List.getElem?_eq_getElem hj2)).oneCell

theorem cell_new (w : World) (us : List Value) (E : TypeId) (j : Nat) (u : Value) (h : us[j]? = some u) : (w.alloc (.cells us.toArray E)).cell? ((⟨w.heap.size, 0, none⟩ : Addr).add j) = some u := by
  rw [Addr.add_mid]
  simp only [World.cell?, heap_alloc_new]
  simp [h]
theorem below_alloc' (w : World) (o : Obj) : Below w.heap.size w (w.alloc o) := (Below.refl _ _).alloc (Nat.le_refl _) o

/-- A slice of cells that were just laid. -/
theorem conc_slice (hc : Conc cx σ μ a w) (hd : ∀ d, dst = some d → d < cx.N) (E : TypeId) (n : Nat) (us : List Value) (ds : List D) (hm : n ≤ 9223372036854775807) (hr : RdL w (okOf cx σ μ) μ us (ds.map Ce.one)) :
    Con cx (σ.app dst ⟨.d (.s true n ds), [], [], []⟩) (a.put dst (.slice (some ⟨w.heap.size, 0, none⟩) n n)) (w.alloc (.cells us.toArray E)) := by
  have hb := below_alloc' w (.cells us.toArray E)
  refine conc_grow hc hd _ _ _ hb [] (.inr (.c _ _ (.one _ _ ?_)))
  obtain ⟨hl, hr⟩ := rdl_ones hr
  refine .s true _ n n ⟨w.heap.size, 0, none⟩ us ds (Nat.le_refl _) hm (fun _ => rfl) hl (fun _ => ⟨.inl hc.below.size, fun hbad => Nat.lt_irrefl _ (hc.fixed _ (hc.badfx _ hbad)).1, fun b v hb' hv hk => ?_⟩) (fun j u hj => cell_new w us E j u hj) (fun j u d h1 h2 => (hr j u d h1 h2).keep (fun f k _ hk => hb.block k hk) (fun _ _ h _ => h))
  exact absurd (live_lt hc hb' hv hk).1 (Nat.lt_irrefl _)

/-- An object that was just laid. -/
theorem conc_obj (hc : Conc cx σ μ a w) (hd : ∀ d, dst = some d → d < cx.N) (b : Nat) (o : O) (av : AV) (v : Value) (w1 : World) (hnf : cx.nf b = false) (hfree : Free σ dst [b]) (hbel : Below w.heap.size w w1) (hnm : b ∉ o.nm)
    (hblk : blk v = none ∨ blk v = some w.heap.size)
    (hav : RdA w1 (fun _ _ => False) (fun x => if x = b then some v else none) v av)
    (hobj : ∀ (ok : Bool → Nat → Prop) (μ1 : Nat → Option Value), (∀ f k, okOf cx σ μ f k → k < w.heap.size → ok f k) → (∀ x, x ≠ b → μ1 x = μ x) → μ1 b = some v → RdO cx.w0.heap.size w1 ok μ1 b o) :
    Con cx (σ.app dst ⟨av, [], [b], [(b, some o)]⟩) (a.put dst v) w1 := by
  obtain ⟨f1, f2, f3⟩ := hfree b (List.mem_singleton.2 rfl)
  have hB : ∀ x, (σ.app dst ⟨av, [], [b], [(b, some o)]⟩).B x = if x = b then some o else σ.B x := fun x => by
    simp only [St.app, Ev.uB, List.lookup_cons, List.lookup_nil]
    by_cases h : x = b
    · subst h; simp
    · have : (x == b) = false := by simpa using h
      simp [this, h]
  have hb0 : Below cx.w0.heap.size cx.w0 w1 := hc.below.trans ⟨hbel.os, hbel.tape, hbel.output, hbel.size, fun k hk => hbel.block k (Nat.lt_of_lt_of_le hk hc.below.size)⟩
  let μ1 : Nat → Option Value := fun x => if x = b then some v else μ x
  have hμ1 : ∀ x, x ≠ b → μ1 x = μ x := fun x hx => by simp [μ1, hx]
  have hμb : μ1 b = some v := by simp [μ1]
  have hok : ∀ f k, okOf cx σ μ f k → k < w.heap.size → okOf cx (σ.app dst ⟨av, [], [b], [(b, some o)]⟩) μ1 f k := by
    rintro f k ⟨h1, hbd, h2⟩ hk
    refine ⟨h1, hbd, fun x y hx hy => ?_⟩
    by_cases hxb : x = b
    · subst hxb
      rw [hμb] at hy
      injection hy with hy
      subst hy
      rcases hblk with h | h <;> rw [h]
      · simp
      · intro e; injection e; omega
    · rw [hB, if_neg hxb] at hx
      rw [hμ1 x hxb] at hy
      exact h2 x y hx hy
  refine conc_step hc hd _ v w1 μ1 hb0 (fun f k _ hk => hbel.block k hk) hok (fun t ht x hx => hμ1 x fun e => f2 t ht (e ▸ hx)) (.inr ?_) (fun x y hy => ?_) (fun x x' y y' k h1 h2 h3 h4 h5 h6 => ?_) (fun k hk => hbel.block k (hc.fixed k hk).1) (fun x y k h1 h3 h5 hfx => ?_) (fun x hx => hμ1 x fun e => by rw [e, hnf] at hx; cases hx)
  · refine hav.keep (fun _ _ h => h.elim) (fun _ _ h => h.elim) fun x hx => ?_
    by_cases hxb : x = b
    · subst hxb; simp [μ1]
    · have := hav.nm_some x hx
      simp [hxb] at this
  · rw [hB] at hy
    by_cases hxb : x = b
    · subst hxb
      rw [if_pos rfl] at hy
      injection hy with hy
      subst hy
      exact hobj _ μ1 hok hμ1 hμb
    · rw [if_neg hxb] at hy
      refine (hc.objs x y hy).keep (fun f k _ hk => hbel.block k hk) hok (hμ1 x hxb) (fun z hz => hμ1 z fun e => f3 x y hy (e ▸ hz)) fun v k hv hk => hbel.block k (live_lt hc (by rw [hy]; rfl) hv hk).1
  · rw [hB] at h1 h2
    by_cases hxb : x = b
    · by_cases hxb' : x' = b
      · rw [hxb, hxb']
      · exfalso
        rw [if_neg hxb'] at h2
        rw [hμ1 x' hxb'] at h4
        have := (live_lt hc h2 h4 h6).1
        subst hxb
        rw [hμb] at h3
        injection h3 with h3
        subst h3
        rcases hblk with h | h <;> rw [h] at h5
        · cases h5
        · injection h5; omega
    · by_cases hxb' : x' = b
      · exfalso
        rw [if_neg hxb] at h1
        rw [hμ1 x hxb] at h3
        have := (live_lt hc h1 h3 h5).1
        subst hxb'
        rw [hμb] at h4
        injection h4 with h4
        subst h4
        rcases hblk with h | h <;> rw [h] at h6
        · cases h6
        · injection h6; omega
      · rw [if_neg hxb] at h1
        rw [if_neg hxb'] at h2
        rw [hμ1 x hxb] at h3
        rw [hμ1 x' hxb'] at h4
        exact hc.apart x x' y y' k h1 h2 h3 h4 h5 h6
  · rw [hB] at h1
    by_cases hxb : x = b
    · subst hxb
      rw [hμb] at h3
      injection h3 with h3
      subst h3
      have := (hc.fixed k hfx).1
      rcases hblk with h | h <;> rw [h] at h5
      · cases h5
      · injection h5; omega
    · rw [if_neg hxb] at h1
      rw [hμ1 x hxb] at h3
      exact hc.unfix x y k h1 h3 h5 hfx

/-- An object whose block alone has changed. -/
theorem conc_set (hc : Conc cx σ μ a w) (hd : ∀ d, dst = some d → d < cx.N) (b : Nat) (o o' : O) (av : AV) (v vb : Value) (w1 : World) (rd : List Nat) (hb : σ.B b = some o) (hμ : μ b = some vb)
    (hbel : Below cx.w0.heap.size cx.w0 w1) (hw : ∀ k, blk vb ≠ some k → w1.heap[k]? = w.heap[k]?)
    (hv : dst = none ∨ RdA w1 (okOf cx σ μ) μ v av)
    (hobj : RdO cx.w0.heap.size w1 (okOf cx σ μ) μ b o') : Con cx (σ.app dst ⟨av, rd, [], [(b, some o')]⟩) (a.put dst v) w1 := by
  have hB : ∀ x, (σ.app dst ⟨av, rd, [], [(b, some o')]⟩).B x = if x = b then some o' else σ.B x := fun x => by
    simp only [St.app, Ev.uB, List.lookup_cons, List.lookup_nil]
    by_cases h : x = b
    · subst h; simp
    · have : (x == b) = false := by simpa using h
      simp [this, h]
  have hS : ∀ x, ((σ.app dst ⟨av, rd, [], [(b, some o')]⟩).B x).isSome = (σ.B x).isSome := fun x => by
    rw [hB]; split
    · rename_i h; subst h; rw [hb]; rfl
    · rfl
  have hok : okOf cx (σ.app dst ⟨av, rd, [], [(b, some o')]⟩) μ = okOf cx σ μ := by
    funext f k; simp only [okOf, hS]
  have hw' : ∀ f k, okOf cx σ μ f k → k < w.heap.size → w1.heap[k]? = w.heap[k]? := fun f k h _ => hw k (h.2.2 b vb (by rw [hb]; rfl) hμ)
  refine conc_step hc hd _ v w1 μ hbel hw' (fun f k h _ => by rw [hok]; exact h) (fun _ _ _ _ => rfl) (by rw [hok]; exact hv) (fun x y hy => ?_) (fun x x' y y' k h1 h2 => ?_) (fun k hk => hw k fun e => hc.unfix b vb k (by rw [hb]; rfl) hμ e hk) (fun x y k h1 => hc.unfix x y k (by rw [hS] at h1; exact h1)) (fun _ _ => rfl)
  · rw [hB] at hy
    rw [hok]
    by_cases hxb : x = b
    · subst hxb
      rw [if_pos rfl] at hy
      injection hy with hy
      subst hy
      exact hobj
    · rw [if_neg hxb] at hy
      refine (hc.objs x y hy).keep hw' (fun _ _ h _ => h) rfl (fun _ _ => rfl) fun v k hv hk => hw k fun e => ?_
      exact hxb (hc.apart x b v vb k (by rw [hy]; rfl) (by rw [hb]; rfl) hv hμ hk e)
  · rw [hS] at h1 h2
    exact hc.apart x x' y y' k h1 h2

/-- An object that gives way to another one of its block, or of a new one. -/
theorem conc_turn (hc : Conc cx σ μ a w) (hd : ∀ d, dst = some d → d < cx.N) (b c : Nat) (o o' : O) (av : AV) (vb v : Value) (w1 : World) (hb : σ.B b = some o) (hμ : μ b = some vb) (hnf : cx.nf c = false) (hfree : Free σ dst [c]) (hnm : c ∉ o'.nm)
    (hbel : Below cx.w0.heap.size cx.w0 w1) (hw : ∀ k, k < w.heap.size → blk vb ≠ some k → w1.heap[k]? = w.heap[k]?)
    (hblk : ∀ k, blk v = some k → blk vb = some k ∨ w.heap.size ≤ k)
    (hav : ∀ ok, RdA w1 ok (fun x => if x = c then some v else none) v av)
    (hobj : ∀ (ok : Bool → Nat → Prop) (μ1 : Nat → Option Value), (∀ f k, okOf cx σ μ f k → k < w.heap.size → ok f k) → (∀ x, x ≠ c → μ1 x = μ x) → μ1 c = some v → RdO cx.w0.heap.size w1 ok μ1 c o') :
    Con cx (σ.app dst ⟨av, [b], [c], [(c, some o'), (b, none)]⟩) (a.put dst v) w1 := by
  obtain ⟨f1, f2, f3⟩ := hfree c (List.mem_singleton.2 rfl)
  have hbc : b ≠ c := fun e => by rw [e, f1] at hb; cases hb
  have hB : ∀ x, (σ.app dst ⟨av, [b], [c], [(c, some o'), (b, none)]⟩).B x = if x = c then some o' else if x = b then none else σ.B x := fun x => by
    simp only [St.app, Ev.uB, List.lookup_cons, List.lookup_nil]
    by_cases h : x = c
    · subst h; simp
    · have h1 : (x == c) = false := by simpa using h
      by_cases h2 : x = b
      · subst h2; simp [h1, h]
      · have h3 : (x == b) = false := by simpa using h2
        simp [h1, h, h2, h3]
  let μ1 : Nat → Option Value := fun x => if x = c then some v else μ x
  have hμ1 : ∀ x, x ≠ c → μ1 x = μ x := fun x hx => by simp [μ1, hx]
  have hμc : μ1 c = some v := by simp [μ1]
  have hok : ∀ f k, okOf cx σ μ f k → k < w.heap.size → okOf cx (σ.app dst ⟨av, [b], [c], [(c, some o'), (b, none)]⟩) μ1 f k := by
    rintro f k ⟨h1, hbd, h2⟩ hk
    refine ⟨h1, hbd, fun x y hx hy => ?_⟩
    by_cases hxc : x = c
    · subst hxc
      rw [hμc] at hy
      injection hy with hy
      subst hy
      intro e
      rcases hblk k e with h | h
      · exact h2 b vb (by rw [hb]; rfl) hμ h
      · omega
    · rw [hB, if_neg hxc] at hx
      rw [hμ1 x hxc] at hy
      split at hx
      · cases hx
      · exact h2 x y hx hy
  have hw' : ∀ f k, okOf cx σ μ f k → k < w.heap.size → w1.heap[k]? = w.heap[k]? := fun f k h hk => hw k hk (h.2.2 b vb (by rw [hb]; rfl) hμ)
  refine conc_step hc hd _ v w1 μ1 hbel hw' hok (fun t ht x hx => hμ1 x fun e => f2 t ht (e ▸ hx)) (.inr ?_) (fun x y hy => ?_) (fun x x' y y' k h1 h2 h3 h4 h5 h6 => ?_) (fun k hk => hw k (hc.fixed k hk).1 fun e => hc.unfix b vb k (by rw [hb]; rfl) hμ e hk) (fun x y k h1 h3 h5 hfx => ?_) (fun x hx => hμ1 x fun e => by rw [e, hnf] at hx; cases hx)
  · refine (hav (okOf cx (σ.app dst ⟨av, [b], [c], [(c, some o'), (b, none)]⟩) μ1)).keep (fun _ _ _ _ => rfl) (fun _ _ h _ => h) fun x hx => ?_
    by_cases hxc : x = c
    · subst hxc; simp [μ1]
    · have := (hav (fun _ _ => False)).nm_some x hx
      simp [hxc] at this
  · rw [hB] at hy
    by_cases hxc : x = c
    · subst hxc
      rw [if_pos rfl] at hy
      injection hy with hy
      subst hy
      exact hobj _ μ1 hok hμ1 hμc
    · rw [if_neg hxc] at hy
      by_cases hxb : x = b
      · rw [if_pos hxb] at hy; cases hy
      · rw [if_neg hxb] at hy
        refine (hc.objs x y hy).keep hw' hok (hμ1 x hxc) (fun z hz => hμ1 z fun e => f3 x y hy (e ▸ hz)) fun v k hv hk => hw k (live_lt hc (by rw [hy]; rfl) hv hk).1 fun e => ?_
        exact hxb (hc.apart x b v vb k (by rw [hy]; rfl) (by rw [hb]; rfl) hv hμ hk e)
  · rw [hB] at h1 h2
    have oth : ∀ z y, z ≠ c → (if z = c then some o' else if z = b then none else σ.B z).isSome = true → μ1 z = some y → (σ.B z).isSome = true ∧ z ≠ b ∧ μ z = some y := by
      intro z y hz h hy
      rw [if_neg hz] at h
      rw [hμ1 z hz] at hy
      split at h
      · cases h
      · exact ⟨h, by assumption, hy⟩
    have clash : ∀ z y, z ≠ c → (if z = c then some o' else if z = b then none else σ.B z).isSome = true → μ1 z = some y → blk y = some k → blk v ≠ some k := by
      intro z y hz h hy hk e
      obtain ⟨g1, g2, g3⟩ := oth z y hz h hy
      rcases hblk k e with h' | h'
      · exact g2 (hc.apart z b y vb k g1 (by rw [hb]; rfl) g3 hμ hk h')
      · have := (live_lt hc g1 g3 hk).1; omega
    by_cases hxc : x = c
    · by_cases hxc' : x' = c
      · rw [hxc, hxc']
      · exfalso
        subst hxc
        rw [hμc] at h3
        injection h3 with h3
        subst h3
        exact clash x' y' hxc' h2 h4 h6 h5
    · by_cases hxc' : x' = c
      · exfalso
        subst hxc'
        rw [hμc] at h4
        injection h4 with h4
        subst h4
        exact clash x y hxc h1 h3 h5 h6
      · obtain ⟨g1, _, g3⟩ := oth x y hxc h1 h3
        obtain ⟨g4, _, g6⟩ := oth x' y' hxc' h2 h4
        exact hc.apart x x' y y' k g1 g4 g3 g6 h5 h6
  · rw [hB] at h1
    by_cases hxc : x = c
    · subst hxc
      rw [hμc] at h3
      injection h3 with h3
      subst h3
      rcases hblk k h5 with h | h
      · exact hc.unfix b vb k (by rw [hb]; rfl) hμ h hfx
      · have := (hc.fixed k hfx).1; omega
    · rw [if_neg hxc] at h1
      rw [hμ1 x hxc] at h3
      split at h1
      · cases h1
      · exact hc.unfix x y k h1 h3 h5 hfx
end
end Go.Fl
