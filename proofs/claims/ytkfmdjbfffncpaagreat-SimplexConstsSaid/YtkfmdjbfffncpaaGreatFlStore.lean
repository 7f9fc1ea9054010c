/- Stores into objects; variables and rows that are made. -/
import Derived.Test.YtkfmdjbfffncpaaGreatFlMem
set_option linter.unusedVariables false
namespace Go.Fl
open Go.RowKit

theorem setCell_at (w : World) (g o : Nat) (cur : Array Value) (e : TypeId) (fr : Nat × Nat) (v : Value) (h : w.heap[g]? = some (.cells cur e fr)) : (w.setCell ⟨g, o, none⟩ v).heap[g]? = some (.cells (cur.setIfInBounds o v) e fr) := by
  simp only [World.setCell]
  rw [Array.getElem?_modify]
  simp [h]
theorem setCells_far {g : Nat} : ∀ (vs : List Value) (o : Nat) (w : World) (k : Nat), k ≠ g → (w.setCells g o vs).heap[k]? = w.heap[k]?
  | [], _, _, _, _ => rfl
  | v :: r, o, w, k, hk => by
    rw [World.setCells, setCells_far r (o + 1) _ k hk]
    simp only [World.setCell]
    rw [Array.getElem?_modify, if_neg (fun e => hk e.symm)]
theorem setCells_same (g : Nat) : ∀ (vs : List Value) (o : Nat) (w : World), (w.setCells g o vs).os = w.os ∧ (w.setCells g o vs).tape = w.tape ∧ (w.setCells g o vs).output = w.output ∧ (w.setCells g o vs).heap.size = w.heap.size
  | [], _, _ => ⟨rfl, rfl, rfl, rfl⟩
  | v :: r, o, w => by
    obtain ⟨h1, h2, h3, h4⟩ := setCells_same g r (o + 1) (w.setCell ⟨g, o, none⟩ v)
    rw [World.setCells]
    exact ⟨h1, h2, h3, by rw [h4]; simp [World.setCell]⟩
/-- A list with other cells from an offset on. -/
def spl {α : Type} (l : List α) (o : Nat) (xs : List α) : List α := l.take o ++ xs ++ l.drop (o + xs.length)
theorem spl_length {α : Type} {l : List α} {o : Nat} {xs : List α} (h : o + xs.length ≤ l.length) : (spl l o xs).length = l.length := by
  simp [spl]; omega
theorem spl_get {α : Type} {l : List α} {o : Nat} {xs : List α} (h : o + xs.length ≤ l.length) (j : Nat) : (spl l o xs)[j]? = if o ≤ j ∧ j < o + xs.length then xs[j - o]? else l[j]? := by
  unfold spl
  by_cases h1 : j < o
  · rw [if_neg (by omega), List.append_assoc, List.getElem?_append_left (by simp; omega), List.getElem?_take, if_pos h1]
  · by_cases h2 : j < o + xs.length
    · rw [if_pos ⟨by omega, h2⟩, List.append_assoc, List.getElem?_append_right (by simp; omega)]
      simp only [List.length_take]
      rw [show min o l.length = o by omega, List.getElem?_append_left (by omega)]
    · rw [if_neg (by omega), List.getElem?_append_right (by simp; omega), List.getElem?_drop]
      simp only [List.length_append, List.length_take]
      congr 1
      omega
theorem setCells_at (g : Nat) (e : TypeId) (fr : Nat × Nat) : ∀ (vs : List Value) (o : Nat) (w : World) (cur : Array Value), w.heap[g]? = some (.cells cur e fr) → o + vs.length ≤ cur.size →
    (w.setCells g o vs).heap[g]? = some (.cells (spl cur.toList o vs).toArray e fr)
  | [], o, w, cur, h, _ => by simp [World.setCells, spl, h]
  | v :: r, o, w, cur, h, hl => by
    have hl' : o + r.length + 1 ≤ cur.size := by simpa [Nat.add_assoc] using hl
    rw [World.setCells, setCells_at g e fr r (o + 1) _ _ (setCell_at w g o cur e fr v h) (by simp; omega)]
    congr 2
    apply congrArg
    apply List.ext_getElem?
    intro i
    rw [spl_get (by simp; omega), spl_get (by simpa using hl)]
    simp only [Array.toList_setIfInBounds, List.length_cons]
    by_cases h2 : i = o
    · subst h2
      rw [if_neg (by omega), if_pos (by omega), List.getElem?_set_self (by simp; omega)]
      simp
    · rw [List.getElem?_set_ne (by omega)]
      by_cases h3 : o + 1 ≤ i ∧ i < o + 1 + r.length
      · rw [if_pos h3, if_pos (by omega), show i - o = (i - (o + 1)) + 1 by omega, List.getElem?_cons_succ]
      · rw [if_neg h3, if_neg (by omega)]
theorem RdL.spl {w : World} {ok : Bool → Nat → Prop} {μ : Nat → Option Value} {us vs : List Value} {cs xs : List Ce} {o : Nat} (h : RdL w ok μ us cs) (h' : RdL w ok μ vs xs) (hl : o + xs.length ≤ cs.length) : RdL w ok μ (spl us o vs) (spl cs o xs) := by
  have hl' : o + vs.length ≤ us.length := by rw [h.1, h'.1]; exact hl
  refine ⟨by rw [spl_length hl, spl_length hl', h.1], fun j u x h1 h2 => ?_⟩
  rw [spl_get hl'] at h1
  rw [spl_get hl] at h2
  rw [h'.1] at h1
  split at h1
  · rename_i hj; rw [if_pos hj] at h2; exact h'.2 _ u x h1 h2
  · rename_i hj; rw [if_neg hj] at h2; exact h.2 _ u x h1 h2

def O.put (ob : O) (cs : List Ce) : O :=
  match ob with
  | .bx T _ => .bx T cs
  | .rw E z n _ => .rw E z n cs
  | o => o

section
variable {P : Program} {cx : Cx} {ops : Array Oper} {o : Oper} {σi : St}

theorem run_store_cells {w : World} {T : TypeId} {g off : Nat} {v : Value} {vs : List Value} {b : Bool} (hv : v.cells = vs.toArray) (hs : tSz P T = some (vs.length, b)) (h1 : ∀ u ∈ vs, u.oneCell' = true)
    (ht : ∀ j, j < vs.length → (w.cell? ⟨g, off + j, none⟩).isSome = true ∧ w.frozen? ⟨g, off + j, none⟩ = false) : (Instr.storeAt T (.pointer (some ⟨g, off, none⟩)) v).run P w = .ok () (w.setCells g off vs) := by
  have := run_storeCells_cells (P := P) g off vs 0 w (fun j hj => by simpa using (ht j hj).1) (fun j hj => by simpa using (ht j hj).2) h1
  simp only [Nat.add_zero] at this
  simp [Instr.storeAt, Instr.sureAddr, storeVar, hv, run_sizeOf hs, this]

theorem opw_store (T : TypeId) (x y : Operand) (b off : Nat) (ob : O) (xs : List Ce) (g0 : Bool) (ho : o.op = .store T x y) (hd : o.dst = none) (hx : SV σi x = .c (.ptr b off)) (hb : σi.B b = some ob) (hs : tSz P T = some (xs.length, g0)) (hl : off + xs.length ≤ ob.cells.length)
    (hy : ∀ (σ : St) (μ : Nat → Option Value) (a : Act) (w : World), (∀ t ∈ o.looksAt ops, σ.S t = σi.S t) → Conc cx σ μ a w → ∃ vs, (a.eval y).cells = vs.toArray ∧ RdL w (okOf cx σ μ) μ vs xs) :
    OpW P cx ops o σi ⟨.c .junk, [b], [], [(b, some (ob.put (spl ob.cells off xs)))]⟩ := fun σ a w h1 h2 h3 h4 K Q hK => by
  obtain ⟨μ, hc⟩ := h4
  obtain ⟨g, vb, e1, e2, e3⟩ := sv_ptr hc ((sv_same h1 (x := x) (by simp [ho, Op.operands])).trans hx)
  have hb' := (h2 b (by simp)).trans hb
  obtain ⟨us, h5, h6⟩ := obj_cells hc hb' e2 e3
  obtain ⟨vs, e4, h7⟩ := hy σ μ a w h1 hc
  have hlv : off + vs.length ≤ us.length := by rw [h7.1, h5.1]; exact hl
  have hrun := run_store_cells (P := P) (w := w) (T := T) (g := g) (off := off) e4 (by rw [h7.1]; exact hs) h7.oneCell (fun j hj => by
    have := h6 (off + j) us[off + j] (List.getElem?_eq_getElem (by omega))
    exact ⟨by rw [this.1]; rfl, this.2⟩)
  unfold Oper.wp
  simp only [execOp, ho, e1, Sem.run_bind, hrun, Result.andThen_ok, Sem.run_pure, Oper.upon_skip]
  refine hK _ _ ?_
  have hblk := hd0_blk e3
  have hfar : ∀ k, blk vb ≠ some k → (w.setCells g off vs).heap[k]? = w.heap[k]? := fun k hk => setCells_far vs off w k fun e => hk (by rw [hblk, e])
  obtain ⟨s1, s2, s3, s4⟩ := setCells_same g vs off w
  have hlive := live_lt hc (by rw [hb']; rfl) e2 hblk
  have hbel : Below cx.w0.heap.size cx.w0 (w.setCells g off vs) := hc.below.trans ⟨s1, s2, s3, by rw [s4]; exact Nat.le_refl _, fun k hk => setCells_far vs off w k (by omega)⟩
  have hokg : ∀ f k, okOf cx σ μ f k → k < w.heap.size → (w.setCells g off vs).heap[k]? = w.heap[k]? := fun f k h _ => hfar k (h.2.2 b vb (by rw [hb']; rfl) e2)
  refine conc_set hc (by simp [hd]) b ob _ _ _ vb _ [b] hb' e2 hbel hfar (.inl hd) ?_
  have kp : ∀ {us : List Value} {cs : List Ce}, RdL w (okOf cx σ μ) μ us cs → RdL (w.setCells g off vs) (okOf cx σ μ) μ us cs := fun h => h.keep hokg (fun _ _ h _ => h) (fun _ _ => rfl)
  have hobj := hc.objs b ob hb'
  cases ob with
  | bx T' cs =>
    obtain ⟨g', us', g1, g2, g3, g4⟩ := hobj
    rw [e2] at g1
    injection g1 with g1
    subst g1
    have : g' = g := by simpa [hd0] using e3
    subst this
    refine ⟨g', spl us' off vs, e2, g2, ?_, kp (g4.spl h7 hl)⟩
    have := setCells_at g' T' (0, 0) vs off w us'.toArray g3 (by simp only [List.size_toArray]; rw [h7.1, g4.1]; exact hl)
    simpa using this
  | rw E z n cs =>
    obtain ⟨v', us', g1, g2, g3⟩ := hobj
    rw [e2] at g1
    injection g1 with g1
    subst g1
    refine ⟨vb, spl us' off vs, e2, ⟨?_, ?_⟩, kp (g3.spl h7 hl)⟩
    · rw [spl_length (by rw [h7.1, g3.1]; exact hl)]; exact g2.1
    · rcases g2.2 with ⟨rfl, _⟩ | ⟨g', cap, cur, rfl, hb2, hh, q1, q2, q3, q4⟩
      · simp [hd0] at e3
      · have : g' = g := by simpa [hd0] using e3
        subst this
        have hlen : off + vs.length ≤ n * z := by have := g2.1; rw [h7.1, ← this, g3.1]; exact hl
        have hfit : off + vs.length ≤ cur.size := by rw [q3]; exact Nat.le_trans hlen (Nat.mul_le_mul_right _ q1)
        refine .inr ⟨g', cap, _, rfl, hb2, setCells_at g' E (0, 0) vs off w cur hh hfit, q1, q2, ?_, ?_⟩
        · rw [List.size_toArray, spl_length (by simpa using hfit)]; simpa using q3
        · have hcut : n * z ≤ cur.size := by rw [q3]; exact Nat.mul_le_mul_right _ q1
          apply List.ext_getElem?
          intro i
          rw [List.getElem?_take, spl_get (by simpa using hfit), spl_get (by rw [h7.1, g3.1]; exact hl), ← q4, List.getElem?_take]
          by_cases hi : i < n * z
          · simp [hi]
          · rw [if_neg hi]
            split
            · rename_i h; omega
            · simp
  | mp es clock =>
    have e0 : vs = [] := List.eq_nil_of_length_eq_zero (by have h0 : off + xs.length ≤ 0 := hl; have := h7.1; omega)
    subst e0; exact hobj
  | it m since seen last =>
    have e0 : vs = [] := List.eq_nil_of_length_eq_zero (by have h0 : off + xs.length ≤ 0 := hl; have := h7.1; omega)
    subst e0; exact hobj
  | itn =>
    have e0 : vs = [] := List.eq_nil_of_length_eq_zero (by have h0 : off + xs.length ≤ 0 := hl; have := h7.1; omega)
    subst e0; exact hobj

theorem op_store_agg (T : TypeId) (x y : Operand) (b off : Nat) (ob : O) (xs : List Ce) (ob' : O) (ho : o.op = .store T x y) (hd : o.dst = none) (hx : SV σi x = .c (.ptr b off)) (hy : SV σi y = .agg xs) (hb : σi.B b = some ob) (hs : tSz P T = some (xs.length, true)) (hl : off + xs.length ≤ ob.cells.length)
    (hob : ob.put (spl ob.cells off xs) = ob') : OpW P cx ops o σi ⟨.c .junk, [b], [], [(b, some ob')]⟩ := by
  subst hob
  refine opw_store T x y b off ob xs true ho hd hx hb hs hl fun σ μ a w h1 hc => ?_
  have := sv_rd hc y
  rw [(sv_same h1 (x := y) (by simp [ho, Op.operands])).trans hy] at this
  generalize a.eval y = v at this ⊢
  cases this with
  | agg us _ h => exact ⟨us, rfl, h⟩
theorem op_store (T : TypeId) (x y : Operand) (b off : Nat) (ob : O) (c : Ce) (ob' : O) (ho : o.op = .store T x y) (hd : o.dst = none) (hx : SV σi x = .c (.ptr b off)) (hy : SV σi y = .c c) (hj : c ≠ .junk) (hb : σi.B b = some ob) (hs : tSz P T = some (1, false)) (hl : off + 1 ≤ ob.cells.length)
    (hob : ob.put (spl ob.cells off [c]) = ob') : OpW P cx ops o σi ⟨.c .junk, [b], [], [(b, some ob')]⟩ := by
  subst hob
  refine opw_store T x y b off ob [c] false ho hd hx hb hs hl fun σ μ a w h1 hc => ?_
  have := sv_rd hc y
  rw [(sv_same h1 (x := y) (by simp [ho, Op.operands])).trans hy] at this
  generalize a.eval y = v at this ⊢
  cases this with
  | c _ _ h =>
    refine ⟨[v], ?_, rfl, fun j u x h1 h2 => ?_⟩
    · have := h.oneCell
      cases v <;> simp_all [Value.cells, Value.oneCell']
    · cases j with
      | zero => simp at h1 h2; subst h1; subst h2; exact h
      | succ j => simp at h1
  | none => exact absurd rfl hj

/-! ### Variables that are made -/
theorem op_alloc (T : TypeId) (b : Nat) (zs : List Value) (cs : List Ce) (ho : o.op = .alloc T) (hd : ∀ d, o.dst = some d → d < cx.N) (hnf : cx.nf b = false) (hz : tZ P T = some zs) (hcs : zs.map constX = cs) : OpW P cx ops o σi ⟨.c (.ptr b 0), [], [b], [(b, some (.bx T cs))]⟩ := fun σ a w h1 h2 h3 h4 K Q hK => by
  obtain ⟨μ, hc⟩ := h4
  subst hcs
  have hz' : ∃ i z, P.info? T = some i ∧ i.zero = some z ∧ z.cells = zs.toArray ∧ ∀ u ∈ zs, u.oneCell' = true := by
    unfold tZ at hz
    split at hz
    · rename_i i hi
      split at hz
      · rename_i z hzz
        split at hz
        · rename_i hall
          injection hz with hz
          subst hz
          exact ⟨i, z, hi, hzz, by simp, fun u hu => List.all_eq_true.1 hall u hu⟩
        · cases hz
      · cases hz
    · cases hz
  obtain ⟨i, z, g1, g2, g3, g4⟩ := hz'
  have hrun : (Instr.alloc T true (.tuple #[])).run P w = .ok (.pointer (some ⟨w.heap.size, 0, none⟩)) (w.alloc (.cells zs.toArray T)) := by
    simp [Instr.alloc, zeroValue, typeInfo, g1, g2, newVar, newRow, g3]
  unfold Oper.wp
  simp only [execOp, ho, Sem.run_bind, hrun, Result.andThen_ok, Sem.run_pure, Oper.upon_value]
  refine hK _ _ ?_
  have hnil : ∀ (c : Ce), c ∈ zs.map constX → c.nm = [] := by
    intro c hcm
    obtain ⟨u, _, rfl⟩ := List.mem_map.1 hcm
    unfold constX; split <;> rfl
  refine conc_obj hc hd b _ _ (.pointer (some ⟨w.heap.size, 0, none⟩)) _ hnf h3 (below_alloc' w _) (by
    simp only [O.nm, List.mem_flatMap, not_exists, not_and]
    intro c hcm; rw [hnil c hcm]; simp) (.inr rfl) (.c _ _ (.ptr b 0 w.heap.size (.pointer (some ⟨w.heap.size, 0, none⟩)) (by simp) rfl)) fun ok μ1 hok hμ1 hμb => ?_
  refine ⟨w.heap.size, zs, hμb, hc.below.size, heap_alloc_new w _, by simp, fun j u x hu hx => ?_⟩
  rw [List.getElem?_map, hu] at hx
  injection hx with hx
  subst hx
  exact constX_rd _ _ _ u (g4 u (List.mem_of_getElem? hu))

theorem opw_box (T : TypeId) (x : Operand) (b : Nat) (cs : List Ce) (ho : o.op = .box T x) (hd : ∀ d, o.dst = some d → d < cx.N) (hnf : cx.nf b = false) (hn : (cs.flatMap Ce.nm).contains b = false)
    (hx : ∀ (σ : St) (μ : Nat → Option Value) (a : Act) (w : World), (∀ t ∈ o.looksAt ops, σ.S t = σi.S t) → Conc cx σ μ a w → ∃ vs, (a.eval x).cells = vs.toArray ∧ RdL w (okOf cx σ μ) μ vs cs) :
    OpW P cx ops o σi ⟨.c (.ptr b 0), [], [b], [(b, some (.bx T cs))]⟩ := fun σ a w h1 h2 h3 h4 K Q hK => by
  obtain ⟨μ, hc⟩ := h4
  obtain ⟨vs, e1, h5⟩ := hx σ μ a w h1 hc
  have hrun : (Instr.box T (a.eval x)).run P w = .ok (.pointer (some ⟨w.heap.size, 0, none⟩)) (w.alloc (.cells vs.toArray T)) := by
    simp [Instr.box, newVar, newRow, e1]
  unfold Oper.wp
  simp only [execOp, ho, Sem.run_bind, hrun, Result.andThen_ok, Sem.run_pure, Oper.upon_value]
  refine hK _ _ ?_
  have hb := below_alloc' w (.cells vs.toArray T)
  refine conc_obj hc hd b _ _ (.pointer (some ⟨w.heap.size, 0, none⟩)) _ hnf h3 hb (by simpa [O.nm] using hn) (.inr rfl) (.c _ _ (.ptr b 0 w.heap.size (.pointer (some ⟨w.heap.size, 0, none⟩)) (by simp) rfl)) fun ok μ1 hok hμ1 hμb => ?_
  refine ⟨w.heap.size, vs, hμb, hc.below.size, heap_alloc_new w _, h5.keep (fun f k _ hk => hb.block k hk) hok fun y hy => hμ1 y fun e => ?_⟩
  subst e
  simp at hn
  obtain ⟨c, h6, h7⟩ := List.mem_flatMap.1 hy
  exact hn c h6 h7
theorem op_box_agg (T : TypeId) (x : Operand) (b : Nat) (cs : List Ce) (ho : o.op = .box T x) (hd : ∀ d, o.dst = some d → d < cx.N) (hnf : cx.nf b = false) (hn : (cs.flatMap Ce.nm).contains b = false) (hx : SV σi x = .agg cs) : OpW P cx ops o σi ⟨.c (.ptr b 0), [], [b], [(b, some (.bx T cs))]⟩ :=
  opw_box T x b cs ho hd hnf hn fun σ μ a w h1 hc => by
    have := sv_rd hc x
    rw [(sv_same h1 (x := x) (by simp [ho, Op.operands])).trans hx] at this
    generalize a.eval x = v at this ⊢
    cases this with
    | agg us _ h => exact ⟨us, rfl, h⟩
theorem op_box (T : TypeId) (x : Operand) (b : Nat) (c : Ce) (ho : o.op = .box T x) (hd : ∀ d, o.dst = some d → d < cx.N) (hnf : cx.nf b = false) (hn : c.nm.contains b = false) (hj : c ≠ .junk) (hx : SV σi x = .c c) : OpW P cx ops o σi ⟨.c (.ptr b 0), [], [b], [(b, some (.bx T [c]))]⟩ :=
  opw_box T x b [c] ho hd hnf (by simpa using hn) fun σ μ a w h1 hc => by
    have := sv_rd hc x
    rw [(sv_same h1 (x := x) (by simp [ho, Op.operands])).trans hx] at this
    generalize a.eval x = v at this ⊢
    cases this with
    | c _ _ h =>
      refine ⟨[v], ?_, rfl, fun j u x h1 h2 => ?_⟩
      · have := h.oneCell
        cases v <;> simp_all [Value.cells, Value.oneCell']
      · cases j with
        | zero => simp at h1 h2; subst h1; subst h2; exact h
        | succ j => simp at h1
    | none => exact absurd rfl hj
end
end Go.Fl
