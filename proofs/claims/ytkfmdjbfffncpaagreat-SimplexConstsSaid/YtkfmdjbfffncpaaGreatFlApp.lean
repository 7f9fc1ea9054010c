/- append and copy, from whatever can be read, names and all. -/
import Derived.Test.YtkfmdjbfffncpaaGreatFlOps2
import Derived.Test.YtkfmdjbfffncpaaGreatFlCopy
set_option linter.unusedVariables false
namespace Go.Fl
open Go.RowKit

/-! ### What a slice holds -/
def srcC (σ : St) (z : Nat) : AV → Option (Nat × List Ce × List Nat)
  | .c (.row b n) => match σ.B b with
    | some (.rw _ z' n' cs) => if n = n' ∧ z = z' then some (n, cs, [b]) else none
    | _ => none
  | .c (.sl b off n) => match σ.B b with
    | some ob => if off + n * z ≤ ob.cells.length then some (n, (ob.cells.drop off).take (n * z), [b]) else none
    | _ => none
  | .c .nil => some (0, [], [])
  | .c (.one (.s _ n ds)) => if ds.length = n * z then some (n, ds.map .one, []) else none
  | _ => none
theorem srcC_same {σ σi : St} {z : Nat} {av : AV} {m : Nat} {cs : List Ce} {rd : List Nat} (h : srcC σi z av = some (m, cs, rd)) (hB : ∀ b ∈ rd, σ.B b = σi.B b) : srcC σ z av = some (m, cs, rd) := by
  unfold srcC at h ⊢
  split at h
  · rename_i b n
    split at h
    · rename_i E z' n' cs' hb
      split at h
      · rename_i hh
        simp only [Option.some.injEq, Prod.mk.injEq] at h
        obtain ⟨rfl, rfl, rfl⟩ := h
        simp only [hB b (by simp), hb, if_pos hh]
      · cases h
    · cases h
  · rename_i b off n
    split at h
    · rename_i ob hb
      split at h
      · rename_i hh
        simp only [Option.some.injEq, Prod.mk.injEq] at h
        obtain ⟨rfl, rfl, rfl⟩ := h
        simp only [hB b (by simp), hb, if_pos hh]
      · cases h
    · cases h
  · exact h
  · exact h
  · cases h

section
variable {P : Program} {cx : Cx} {ops : Array Oper} {o : Oper} {σi : St}

theorem src_ok {σ : St} {μ : Nat → Option Value} {a : Act} {w : World} (hc : Conc cx σ μ a w) {z m : Nat} {y : Operand} {cs : List Ce} {rd : List Nat} (h : srcC σ z (SV σ y) = some (m, cs, rd)) :
    ∃ (A : Option Addr) (c : Nat) (ad : Addr) (us : List Value), a.eval y = .slice A m c ∧ (0 < m * z → A = some ad) ∧ us.length = m * z ∧ (∀ (j : Nat) (u : Value), us[j]? = some u → w.cell? (ad.add j) = some u) ∧ RdL w (okOf cx σ μ) μ us cs := by
  have hrd := sv_rd hc y
  generalize a.eval y = v at hrd ⊢
  generalize SV σ y = av at h hrd
  unfold srcC at h
  split at h
  · rename_i b n
    split at h
    · rename_i E z' n' cs' hb
      split at h
      · rename_i hh
        simp only [Option.some.injEq, Prod.mk.injEq] at h
        obtain ⟨rfl, rfl, rfl⟩ := h
        obtain ⟨rfl, rfl⟩ := hh
        cases hrd with
        | c _ _ h => cases h with
          | row _ _ c A hm hμ =>
            obtain ⟨v', us, g1, g2, g3⟩ := hc.objs b _ hb
            rw [hμ] at g1
            injection g1 with g1
            subst g1
            rcases g2.2 with ⟨h9, h0⟩ | ⟨g, cap, cur, h9, _, hh', _, _, _, ht⟩
            · injection h9 with h10 h11 h12
              subst h10; subst h11; subst h12
              exact ⟨none, 0, default, us, rfl, by simp, g2.1, fun j u hj => by
                have : us = [] := List.eq_nil_of_length_eq_zero (by rw [g2.1]; simp)
                subst this; simp at hj, g3⟩
            · injection h9 with h10 h11 h12
              subst h10; subst h12
              refine ⟨_, c, ⟨g, 0, none⟩, us, rfl, fun _ => rfl, g2.1, fun j u hj => ?_, g3⟩
              rw [Addr.add_mid]
              have hcur : cur[j]? = some u := by
                rw [← ht, List.getElem?_take] at hj
                split at hj
                · simpa using hj
                · cases hj
              simp [World.cell?, hh', hcur]
      · cases h
    · cases h
  · rename_i b off n
    split at h
    · rename_i ob hb
      split at h
      · rename_i hh
        simp only [Option.some.injEq, Prod.mk.injEq] at h
        obtain ⟨rfl, rfl, rfl⟩ := h
        cases hrd with
        | c _ _ h => cases h with
          | sl _ _ _ c g N C hn hm hμ =>
            obtain ⟨us, h3, h4⟩ := obj_cells hc hb hμ (g := g) rfl
            refine ⟨_, c, ⟨g, off, none⟩, (us.drop off).take (n * z), rfl, fun _ => rfl, by rw [List.length_take, List.length_drop, h3.1]; omega, fun j u hj => ?_, (h3.drop off).take _⟩
            rw [Addr.add_mid]
            exact (h4 _ u (list_cut hj)).1
      · cases h
    · cases h
  · simp only [Option.some.injEq, Prod.mk.injEq] at h
    obtain ⟨rfl, rfl, rfl⟩ := h
    cases hrd with
    | c _ _ h => cases h with
      | nil => exact ⟨none, 0, default, [], rfl, by simp, by simp, by simp, ⟨rfl, fun j u x h => by simp at h⟩⟩
  · rename_i f n ds
    split at h
    · rename_i hh
      simp only [Option.some.injEq, Prod.mk.injEq] at h
      obtain ⟨rfl, rfl, rfl⟩ := h
      cases hrd with
      | c _ _ h => cases h with
        | one _ _ h => cases h with
          | s _ A _ c ad us _ hn hm hA hl hok hcc hr => exact ⟨A, c, ad, us, rfl, fun h0 => hA (by omega), by rw [hl, hh], hcc, ones_rdl hl hr⟩
    · cases h
  · cases h

/-- append(row, s...). -/
theorem op_appendG (x y : Operand) (T : TypeId) (b b' n m e z by' : Nat) (rd2 : List Nat) (zs : List Value) (cs cs2 : List Ce) (ho : o.op = .call { callee := .builtin .append, args := #[x, y], argTypes := #[T, T] }) (hd : ∀ d, o.dst = some d → d < cx.N) (hnf : cx.nf b' = false) (hx : SV σi x = .c (.row b n)) (hy : srcC σi z (SV σi y) = some (m, cs2, rd2))
    (hb : σi.B b = some (.rw e z n cs)) (hT : tEl P T = some (e, z, by')) (hz : tZ P e = some zs) (hzl : zs.length = z) (hz0 : 0 < z) (hnm : ((cs ++ cs2).flatMap Ce.nm).contains b' = false) (h63 : n + m ≤ 9223372036854775807) (hby : (n + m) * by' ≤ 140737488355328) :
    OpW P cx ops o σi ⟨.c (.row b' (n + m)), b :: rd2, [b'], [(b', some (.rw e z (n + m) (cs ++ cs2))), (b, none)]⟩ := fun σ a w h1 h2 h3 h4 K Q hK => by
  obtain ⟨μ, hc⟩ := h4
  have hwk : Con cx σ a w := ⟨μ, hc⟩
  obtain ⟨A, c, e1, e2, _⟩ := sv_row hc ((sv_same h1 (x := x) (by simp [ho, Op.operands, Call.operands])).trans hx)
  have hy' : srcC σ z (SV σ y) = some (m, cs2, rd2) := by
    rw [sv_same h1 (x := y) (by simp [ho, Op.operands, Call.operands])]
    exact srcC_same hy fun b hb => h2 b (List.mem_cons_of_mem _ hb)
  obtain ⟨A', c', ad, us, e3, hA, hl, hcc, hr⟩ := src_ok hc hy'
  have hb' := (h2 b (by simp)).trans hb
  obtain ⟨v, us0, g1, g2, g3⟩ := hc.objs b _ hb'
  rw [e2] at g1
  injection g1 with g1
  subst g1
  obtain ⟨hu, i, zv, q1, q2, q3, q4, q5, q6⟩ := tEl_zero hT hz
  have hone : ∀ u ∈ us, u.oneCell' = true := hr.oneCell
  have hzc : zv.cells.size = z := by rw [q5]; simpa using hzl
  have hrun : ∃ v' w', (Builtin.append_ #[T, T] o.type #[.slice A n c, .slice A' m c']).run P w = .ok v' w' ∧ w'.ownsRow cx.w0.heap.size e z v' (n + m) (us0 ++ us) ∧ w.grownBy w' (Value.slice A n c).ownBlock ∧ (v'.ownBlock = (Value.slice A n c).ownBlock ∨ v'.ownBlock = some w.heap.size) := by
    by_cases hm0 : m = 0
    · subst hm0
      have hus : us = [] := List.eq_nil_of_length_eq_zero (by rw [hl]; simp)
      subst hus
      refine ⟨.slice A n c, w, ?_, by simpa using g2, World.grownBy.refl _ _, .inl rfl⟩
      rcases g2.2 with ⟨h, hn0⟩ | ⟨g, cap, cur, h, _, hh, hcap, _⟩
      · injection h with hA0 hn1 hc0
        subst hA0; subst hn1; subst hc0
        cases A' <;> simp [Builtin.append_, run_underlying hu, sizeOf, typeInfo, q1, Builtin.lenOf, Builtin.firstCells, loadCells, loadCellsFrom]
      · injection h with hA0 hn1 hc0
        subst hA0; subst hc0
        cases A' <;> simp [Builtin.append_, run_underlying hu, sizeOf, typeInfo, q1, Builtin.lenOf, Builtin.firstCells, hcap, storeCells, loadCells, loadCellsFrom]
    · have hA' := hA (Nat.mul_pos (by omega) hz0)
      subst hA'
      obtain ⟨v', w', r1, r2, r3, _, r5⟩ := run_append_own_at (P := P) w cx.w0.heap.size T o.type e i zv z by' hu q1 q4 q2 q3 hzc hz0 (.slice A n c) n us0 g2 ad m c' us hl hcc hone (by simp only [maxLen]; omega) hby hc.below.size
      exact ⟨v', w', r1, r2, r3, r5⟩
  obtain ⟨v', w', r1, r2, r3, r5⟩ := hrun
  have hshape : ∃ A1 c1, v' = .slice A1 (n + m) c1 := by
    rcases r2.2 with ⟨h, h0⟩ | ⟨g, cap, cur, h, _⟩
    · exact ⟨none, 0, by rw [h, h0]⟩
    · exact ⟨_, cap, h⟩
  obtain ⟨A1, c1, rfl⟩ := hshape
  have ob : ∀ (v : Value) A n c, v = .slice A n c → blk v = v.ownBlock := by
    intro v A n c h; subst h; cases A <;> rfl
  unfold Oper.wp
  rw [exec_builtin (P := P) (w := w) (w1 := w') (n := .value (.slice A1 (n + m) c1)) ho rfl (by simp [builtin, e1, e3, r1]), Oper.upon_value]
  refine hK _ _ ?_
  have hgrow : ∀ k, k < w.heap.size → blk (.slice A n c) ≠ some k → w'.heap[k]? = w.heap[k]? := fun k hk hne => r3.block k hk fun h => hne (by rw [ob _ A n c rfl]; exact h.symm)
  have hbel : Below cx.w0.heap.size cx.w0 w' := hc.below.grown r3 hc.below.size fun k hk => (live_lt hc (by rw [hb']; rfl) e2 (by rw [ob _ A n c rfl]; exact hk)).2
  have hnm' : ∀ y, (y ∈ cs.flatMap Ce.nm ∨ y ∈ cs2.flatMap Ce.nm) → y ≠ b' := fun y hy e => by
    subst e
    have : y ∈ (cs ++ cs2).flatMap Ce.nm := by rw [List.flatMap_append]; exact List.mem_append.2 hy
    rw [← List.contains_iff_mem] at this
    rw [hnm] at this; cases this
  have key := conc_turn hc hd b b' (.rw e z n cs) (.rw e z (n + m) (cs ++ cs2)) (.c (.row b' (n + m))) (.slice A n c) (.slice A1 (n + m) c1) w' hb' e2 hnf h3 (fun hy => hnm' b' (by simpa only [O.nm, List.flatMap_append, List.mem_append] using hy) rfl) hbel hgrow (fun k hk => by
    rw [ob _ A1 (n + m) c1 rfl] at hk
    rw [ob _ A n c rfl]
    rcases r5 with h | h
    · exact .inl (h ▸ hk)
    · rw [h] at hk; injection hk with hk; exact .inr (by omega)) (fun ok => .c _ _ (.row b' (n + m) c1 A1 h63 (by simp))) fun ok μ1 hok hμ1 hμb => ?_
  · exact key
  · have hw' : ∀ f k, okOf cx σ μ f k → k < w.heap.size → w'.heap[k]? = w.heap[k]? := fun f k h hk => hgrow k hk (h.2.2 b _ (by rw [hb']; rfl) e2)
    refine ⟨.slice A1 (n + m) c1, us0 ++ us, hμb, r2, ?_⟩
    have p1 := g3.keep (w1 := w') (ok1 := ok) (μ1 := μ1) hw' hok fun y hy => hμ1 y (hnm' y (.inl hy))
    have p2 := hr.keep (w1 := w') (ok1 := ok) (μ1 := μ1) hw' hok fun y hy => hμ1 y (hnm' y (.inr hy))
    refine ⟨by rw [List.length_append, List.length_append, p1.1, p2.1], fun j u x hj1 hj2 => ?_⟩
    by_cases hj : j < us0.length
    · rw [List.getElem?_append_left hj] at hj1
      rw [List.getElem?_append_left (by rw [← p1.1]; exact hj)] at hj2
      exact p1.2 j u x hj1 hj2
    · rw [List.getElem?_append_right (by omega)] at hj1
      rw [List.getElem?_append_right (by rw [← p1.1]; omega), ← p1.1] at hj2
      exact p2.2 _ u x hj1 hj2

/-- append(nil, s...). -/
theorem op_append0 (x y : Operand) (T : TypeId) (b' m e z by' : Nat) (rd2 : List Nat) (zs : List Value) (cs2 : List Ce) (ho : o.op = .call { callee := .builtin .append, args := #[x, y], argTypes := #[T, T] }) (hd : ∀ d, o.dst = some d → d < cx.N) (hnf : cx.nf b' = false) (hx : SV σi x = .c .nil) (hy : srcC σi z (SV σi y) = some (m, cs2, rd2))
    (hT : tEl P T = some (e, z, by')) (hz : tZ P e = some zs) (hzl : zs.length = z) (hz0 : 0 < z) (hnm : (cs2.flatMap Ce.nm).contains b' = false) (h63 : m ≤ 9223372036854775807) (hby : m * by' ≤ 140737488355328) :
    OpW P cx ops o σi ⟨.c (.row b' m), rd2, [b'], [(b', some (.rw e z m cs2))]⟩ := fun σ a w h1 h2 h3 h4 K Q hK => by
  obtain ⟨μ, hc⟩ := h4
  have e1 : a.eval x = .slice none 0 0 := by
    have := sv_rd hc x
    rw [(sv_same h1 (x := x) (by simp [ho, Op.operands, Call.operands])).trans hx] at this
    generalize a.eval x = v at this
    cases this with
    | c _ _ h => cases h with
      | nil => rfl
  have hy' : srcC σ z (SV σ y) = some (m, cs2, rd2) := by
    rw [sv_same h1 (x := y) (by simp [ho, Op.operands, Call.operands])]
    exact srcC_same hy h2
  obtain ⟨A', c', ad, us, e3, hA, hl, hcc, hr⟩ := src_ok hc hy'
  obtain ⟨hu, i, zv, q1, q2, q3, q4, q5, q6⟩ := tEl_zero hT hz
  have hone : ∀ u ∈ us, u.oneCell' = true := hr.oneCell
  have hzc : zv.cells.size = z := by rw [q5]; simpa using hzl
  have g2 : w.ownsRow cx.w0.heap.size e z (.slice none 0 0) 0 [] := ⟨by simp, .inl ⟨rfl, rfl⟩⟩
  have hrun : ∃ v' w', (Builtin.append_ #[T, T] o.type #[.slice none 0 0, .slice A' m c']).run P w = .ok v' w' ∧ w'.ownsRow cx.w0.heap.size e z v' m us ∧ w.grownBy w' none ∧ (v'.ownBlock = none ∨ v'.ownBlock = some w.heap.size) := by
    by_cases hm0 : m = 0
    · subst hm0
      have hus : us = [] := List.eq_nil_of_length_eq_zero (by rw [hl]; simp)
      subst hus
      refine ⟨.slice none 0 0, w, ?_, g2, World.grownBy.refl _ _, .inl rfl⟩
      cases A' <;> simp [Builtin.append_, run_underlying hu, sizeOf, typeInfo, q1, Builtin.lenOf, Builtin.firstCells, loadCells, loadCellsFrom]
    · have hA' := hA (Nat.mul_pos (by omega) hz0)
      subst hA'
      obtain ⟨v', w', r1, r2, r3, _, r5⟩ := run_append_own_at (P := P) w cx.w0.heap.size T o.type e i zv z by' hu q1 q4 q2 q3 hzc hz0 (.slice none 0 0) 0 [] g2 ad m c' us hl hcc hone (by simp only [maxLen]; omega) (by rw [Nat.zero_add]; exact hby) hc.below.size
      exact ⟨v', w', r1, by simpa using r2, r3, r5⟩
  obtain ⟨v', w', r1, r2, r3, r5⟩ := hrun
  have hshape : ∃ A1 c1, v' = .slice A1 m c1 := by
    rcases r2.2 with ⟨h, h0⟩ | ⟨g, cap, cur, h, _⟩
    · exact ⟨none, 0, by rw [h, h0]⟩
    · exact ⟨_, cap, h⟩
  obtain ⟨A1, c1, rfl⟩ := hshape
  unfold Oper.wp
  rw [exec_builtin (P := P) (w := w) (w1 := w') (n := .value (.slice A1 m c1)) ho rfl (by simp [builtin, e1, e3, r1]), Oper.upon_value]
  refine hK _ _ ?_
  have hbelw : Below w.heap.size w w' := ⟨r3.os, r3.tape, r3.output, r3.size, fun k hk => r3.block k hk (by simp)⟩
  have hnm' : ∀ y, y ∈ cs2.flatMap Ce.nm → y ≠ b' := fun y hy e => by
    subst e
    rw [← List.contains_iff_mem] at hy
    rw [hnm] at hy; cases hy
  have hbk : blk (.slice A1 m c1) = (Value.slice A1 m c1).ownBlock := by cases A1 <;> rfl
  have key := conc_obj hc hd b' (.rw e z m cs2) (.c (.row b' m)) (.slice A1 m c1) w' hnf h3 hbelw (fun hy => hnm' b' hy rfl) (by rw [hbk]; exact r5) (.c _ _ (.row b' m c1 A1 h63 (by simp))) fun ok μ1 hok hμ1 hμb => ⟨_, us, hμb, r2, hr.keep (fun f k _ hk => hbelw.block k hk) hok fun y hy => hμ1 y (hnm' y hy)⟩
  obtain ⟨μ9, k9⟩ := key
  exact ⟨μ9, k9.defers, k9.size, k9.below, k9.slots, k9.objs, k9.apart, k9.fixed, k9.unfix, k9.badfx, k9.named⟩

/-- copy(row or cut, s). -/
theorem op_copyG (x y : Operand) (T T' : TypeId) (b off n m e z by' : Nat) (rd2 : List Nat) (ob : O) (cs2 : List Ce) (ho : o.op = .call { callee := .builtin .copy, args := #[x, y], argTypes := #[T, T'] }) (hd : ∀ d, o.dst = some d → d < cx.N) (hx : SV σi x = .c (.sl b off n) ∨ (SV σi x = .c (.row b n) ∧ off = 0)) (hy : srcC σi z (SV σi y) = some (m, cs2, rd2))
    (hb : σi.B b = some ob) (hbl : off + n * z ≤ ob.cells.length) (hT : tEl P T = some (e, z, by')) (hz0 : 0 < z) :
    OpW P cx ops o σi ⟨.v (.int .i64 (min m n : Nat)), b :: rd2, [], [(b, some (ob.put (spl ob.cells off (cs2.take (min m n * z)))))]⟩ := fun σ a w h1 h2 h3 h4 K Q hK => by
  obtain ⟨μ, hc⟩ := h4
  have hb' := (h2 b (by simp)).trans hb
  have hsx := sv_same h1 (x := x) (by simp [ho, Op.operands, Call.operands])
  obtain ⟨A, c, vb, e1, e2, hg⟩ : ∃ A c vb, a.eval x = .slice A n c ∧ μ b = some vb ∧ (0 < n → ∃ g, A = some ⟨g, off, none⟩ ∧ hd0 vb = some g) := by
    rcases hx with hx | ⟨hx, rfl⟩
    · obtain ⟨c, g, N, C, q1, q2, q3, q4⟩ := sv_sl hc (hsx.trans hx)
      exact ⟨_, c, _, q1, q4, fun _ => ⟨g, rfl, rfl⟩⟩
    · obtain ⟨A, c, q1, q2, _⟩ := sv_row hc (hsx.trans hx)
      refine ⟨A, c, _, q1, q2, fun hn => ?_⟩
      have hob := hc.objs b _ hb'
      cases ob with
      | rw E z n' cs =>
        obtain ⟨v, us, g1, g2, g3⟩ := hob
        rw [q2] at g1
        injection g1 with g1
        subst g1
        rcases g2.2 with ⟨h9, _⟩ | ⟨g, cap, cur, h9, _⟩
        · injection h9 with _ h9 _; omega
        · injection h9 with h9 _ _
          subst h9
          exact ⟨g, rfl, rfl⟩
      | bx T cs => obtain ⟨g, us, g1, _⟩ := hob; rw [q2] at g1; cases g1
      | mp es cl => obtain ⟨g, us, g1, _⟩ := hob; rw [q2] at g1; cases g1
      | it m s se l => obtain ⟨g, us, g1, _⟩ := hob; rw [q2] at g1; cases g1
      | itn => obtain ⟨g, g1, _⟩ := hob; rw [q2] at g1; cases g1
  have hy' : srcC σ z (SV σ y) = some (m, cs2, rd2) := by
    rw [sv_same h1 (x := y) (by simp [ho, Op.operands, Call.operands])]
    exact srcC_same hy fun b hb => h2 b (List.mem_cons_of_mem _ hb)
  obtain ⟨A', c', ad, us, e3, hA, hl, hcc, hr⟩ := src_ok hc hy'
  obtain ⟨hu, i, q1, q2, _⟩ := tEl_info hT
  have hcs2 : cs2.length = m * z := by rw [← hr.1]; exact hl
  have hk : min m n * z ≤ m * z := Nat.mul_le_mul_right _ (Nat.min_le_left _ _)
  have hk2 : min m n * z ≤ n * z := Nat.mul_le_mul_right _ (Nat.min_le_right _ _)
  have hfin : ∀ w1, (Builtin.copy_ #[T, T'] o.type #[.slice A n c, .slice A' m c']).run P w = .ok (goInt (min m n : Nat)) w1 → Con cx (σ.app o.dst ⟨.v (.int .i64 (min m n : Nat)), [b], [], [(b, some (ob.put (spl ob.cells off (cs2.take (min m n * z)))))]⟩) (a.put o.dst (goInt (min m n : Nat))) w1 → o.wp P a w K Q := fun w1 hrun hcon => by
    unfold Oper.wp
    rw [exec_builtin (P := P) (w := w) (w1 := w1) (n := .value (goInt (min m n : Nat))) ho rfl (by simp [builtin, e1, e3, hrun]), Oper.upon_value]
    exact hK _ _ hcon
  by_cases h0 : min m n = 0
  · refine hfin w ?_ ?_
    · rw [h0]
      have : (Builtin.firstCells z 0 (.slice A' m c')).run P w = .ok #[] w := by
        cases A' <;> simp [Builtin.firstCells, loadCells, loadCellsFrom]
      cases A <;> simp [Builtin.copy_, run_underlying hu, sizeOf, typeInfo, q1, q2, Builtin.lenOf, h0, this, storeCells, show Nat.min m n = 0 from h0]
    · have hsp : ob.put (spl ob.cells off (cs2.take (min m n * z))) = ob := by
        rw [h0]
        have : spl ob.cells off (cs2.take (0 * z)) = ob.cells := by simp [spl]
        rw [this]
        cases ob <;> rfl
      rw [hsp]
      exact conc_set hc hd b ob ob _ _ vb w [b] hb' e2 hc.below (fun _ _ => rfl) (.inr (.c _ _ (.one _ _ (.v _ rfl)))) (hc.objs b ob hb')
  · have hA' := hA (Nat.mul_pos (by omega) hz0)
    subst hA'
    obtain ⟨g, rfl, hgv⟩ := hg (by omega)
    have hvs : (us.take (min m n * z)).length = min m n * z := by rw [List.length_take, hl]; omega
    have hload := run_loadCells_list (P := P) w ad (us.take (min m n * z)) (fun j u hj => hcc j u (by
      rw [List.getElem?_take] at hj
      split at hj
      · exact hj
      · cases hj))
    rw [hvs] at hload
    have hone := hr.take (min m n * z)
    obtain ⟨us5, h5, h6⟩ := obj_cells hc hb' e2 hgv
    have hat : ∀ j, j < (us.take (min m n * z)).length → (w.cell? ⟨g, off + j, none⟩).isSome = true ∧ w.frozen? ⟨g, off + j, none⟩ = false := fun j hj => by
      rw [hvs] at hj
      have hj5 : off + j < us5.length := by rw [h5.1]; omega
      have := h6 (off + j) us5[off + j] (List.getElem?_eq_getElem hj5)
      exact ⟨by rw [this.1]; rfl, this.2⟩
    have hst := run_storeCells_cells (P := P) g off (us.take (min m n * z)) 0 w (fun j hj => by simpa using (hat j hj).1) (fun j hj => by simpa using (hat j hj).2) hone.oneCell
    simp only [Nat.add_zero] at hst
    refine hfin (w.setCells g off (us.take (min m n * z))) ?_ ?_
    · simp [Builtin.copy_, run_underlying hu, sizeOf, typeInfo, q1, q2, Builtin.lenOf, Builtin.firstCells, show Nat.min m n = min m n from rfl, hload, hst]
    · exact conc_store hc o.dst hd b off g _ _ _ ob _ _ hb' e2 hgv hone (by rw [List.length_take, hcs2]; omega) (.inr fun _ _ => .c _ _ (.one _ _ (.v _ rfl)))
end
end Go.Fl
