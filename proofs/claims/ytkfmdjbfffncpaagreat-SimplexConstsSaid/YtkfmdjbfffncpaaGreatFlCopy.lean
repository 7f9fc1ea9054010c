/- The builtin copy, into a row of one's own. -/
import Derived.Test.YtkfmdjbfffncpaaGreatFlGen
set_option linter.unusedVariables false
namespace Go.Fl
open Go.RowKit
section
variable {P : Program} {cx : Cx} {ops : Array Oper} {o : Oper} {σi : St}
theorem conc_store {σ : St} {μ : Nat → Option Value} {a : Act} {w : World} (hc : Conc cx σ μ a w) (dst : Option Nat) (hd : ∀ d, dst = some d → d < cx.N) (b off g : Nat) (vb v : Value) (av : AV) (ob : O) (vs : List Value) (xs : List Ce) (hb' : σ.B b = some ob) (e2 : μ b = some vb) (e3 : hd0 vb = some g)
    (h7 : RdL w (okOf cx σ μ) μ vs xs) (hl : off + xs.length ≤ ob.cells.length) (hv : dst = none ∨ ∀ w1 ok, RdA w1 ok μ v av) : Con cx (σ.app dst ⟨av, [b], [], [(b, some (ob.put (spl ob.cells off xs)))]⟩) (a.put dst v) (w.setCells g off vs) := by
  have hblk := hd0_blk e3
  have hfar : ∀ k, blk vb ≠ some k → (w.setCells g off vs).heap[k]? = w.heap[k]? := fun k hk => setCells_far vs off w k fun e => hk (by rw [hblk, e])
  obtain ⟨s1, s2, s3, s4⟩ := setCells_same g vs off w
  have hlive := live_lt hc (by rw [hb']; rfl) e2 hblk
  have hbel : Below cx.w0.heap.size cx.w0 (w.setCells g off vs) := hc.below.trans ⟨s1, s2, s3, by rw [s4]; exact Nat.le_refl _, fun k hk => setCells_far vs off w k (by omega)⟩
  have hokg : ∀ f k, okOf cx σ μ f k → k < w.heap.size → (w.setCells g off vs).heap[k]? = w.heap[k]? := fun f k h _ => hfar k (h.2.2 b vb (by rw [hb']; rfl) e2)
  refine conc_set hc hd b ob _ _ _ vb _ [b] hb' e2 hbel hfar (hv.imp id fun h => h _ _) ?_
  have kp : ∀ {us : List Value} {cs : List Ce}, RdL w (okOf cx σ μ) μ us cs → RdL (w.setCells g off vs) (okOf cx σ μ) μ us cs := fun h => h.keep hokg (fun _ _ h _ => h) (fun _ _ => rfl)
  have hobj := hc.objs b ob hb'
  cases ob with
  | bx T' cs =>
    obtain ⟨g', us', g1, g2, g3, g4⟩ := hobj
    rw [e2] at g1
    injection g1 with g1
    subst g1
    have : g' = g := by simpa [hd0] using e3
    subst this
    refine ⟨g', spl us' off vs, e2, g2, ?_, kp (g4.spl h7 hl)⟩
    have := setCells_at g' T' (0, 0) vs off w us'.toArray g3 (by simp only [List.size_toArray]; rw [h7.1, g4.1]; exact hl)
    simpa using this
  | rw E z n cs =>
    obtain ⟨v', us', g1, g2, g3⟩ := hobj
    rw [e2] at g1
    injection g1 with g1
    subst g1
    refine ⟨vb, spl us' off vs, e2, ⟨?_, ?_⟩, kp (g3.spl h7 hl)⟩
    · rw [spl_length (by rw [h7.1, g3.1]; exact hl)]; exact g2.1
    · rcases g2.2 with ⟨rfl, _⟩ | ⟨g', cap, cur, rfl, hb2, hh, q1, q2, q3, q4⟩
      · simp [hd0] at e3
      · have : g' = g := by simpa [hd0] using e3
        subst this
        have hlen : off + vs.length ≤ n * z := by have := g2.1; rw [h7.1, ← this, g3.1]; exact hl
        have hfit : off + vs.length ≤ cur.size := by rw [q3]; exact Nat.le_trans hlen (Nat.mul_le_mul_right _ q1)
        refine .inr ⟨g', cap, _, rfl, hb2, setCells_at g' E (0, 0) vs off w cur hh hfit, q1, q2, ?_, ?_⟩
        · rw [List.size_toArray, spl_length (by simpa using hfit)]; simpa using q3
        · have hcut : n * z ≤ cur.size := by rw [q3]; exact Nat.mul_le_mul_right _ q1
          apply List.ext_getElem?
          intro i
          rw [List.getElem?_take, spl_get (by simpa using hfit), spl_get (by rw [h7.1, g3.1]; exact hl), ← q4, List.getElem?_take]
          by_cases hi : i < n * z
          · simp [hi]
          · rw [if_neg hi]
            split
            · rename_i h; omega
            · simp
  | mp es clock =>
    have e0 : vs = [] := List.eq_nil_of_length_eq_zero (by have h0 : off + xs.length ≤ 0 := hl; have := h7.1; omega)
    subst e0; exact hobj
  | it m since seen last =>
    have e0 : vs = [] := List.eq_nil_of_length_eq_zero (by have h0 : off + xs.length ≤ 0 := hl; have := h7.1; omega)
    subst e0; exact hobj
  | itn =>
    have e0 : vs = [] := List.eq_nil_of_length_eq_zero (by have h0 : off + xs.length ≤ 0 := hl; have := h7.1; omega)
    subst e0; exact hobj

/-- copy(row, s): as many of the slice's elements as both have. -/
theorem op_copy (x y : Operand) (T T' : TypeId) (b n m e z by' : Nat) (f : Bool) (cs : List Ce) (ds : List D) (ho : o.op = .call { callee := .builtin .copy, args := #[x, y], argTypes := #[T, T'] }) (hd : ∀ d, o.dst = some d → d < cx.N) (hx : SV σi x = .c (.row b n)) (hy : SV σi y = .d (.s f m ds))
    (hb : σi.B b = some (.rw e z n cs)) (hT : tEl P T = some (e, z, by')) (hds : ds.length = m * z) (hz0 : 0 < z) :
    OpW P cx ops o σi ⟨.v (.int .i64 (min m n : Nat)), [b], [], [(b, some (.rw e z n (spl cs 0 ((ds.take (min m n * z)).map .one))))]⟩ := fun σ a w h1 h2 h3 h4 K Q hK => by
  obtain ⟨μ, hc⟩ := h4
  obtain ⟨A, c, e1, e2, _⟩ := sv_row hc ((sv_same h1 (x := x) (by simp [ho, Op.operands, Call.operands])).trans hx)
  obtain ⟨A', c', ad, us, e3, hn, hm, hA, hl, hok, hcc, hr⟩ := sv_s hc ((sv_same h1 (x := y) (by simp [ho, Op.operands, Call.operands])).trans hy)
  have hb' := (h2 b (by simp)).trans hb
  obtain ⟨v, us0, g1, g2, g3⟩ := hc.objs b _ hb'
  rw [e2] at g1
  injection g1 with g1
  subst g1
  obtain ⟨hu, i, q1, q2⟩ : P.underlying T = some (.slice e) ∧ ∃ i, P.info? e = some i ∧ i.size = z := by
    unfold tEl at hT
    split at hT
    · rename_i e' h5
      split at hT
      · rename_i i h6
        simp only [Option.some.injEq, Prod.mk.injEq] at hT
        obtain ⟨rfl, h7, _⟩ := hT
        exact ⟨h5, i, h6, h7⟩
      · cases hT
    · cases hT
  have hcl : cs.length = n * z := by rw [← g3.1]; exact g2.1
  have hk : min m n * z ≤ m * z := Nat.mul_le_mul_right _ (Nat.min_le_left _ _)
  have hk2 : min m n * z ≤ n * z := Nat.mul_le_mul_right _ (Nat.min_le_right _ _)
  have hfin : ∀ w1, (Builtin.copy_ #[T, T'] o.type #[.slice A n c, .slice A' m c']).run P w = .ok (goInt (min m n : Nat)) w1 → Con cx (σ.app o.dst ⟨.v (.int .i64 (min m n : Nat)), [b], [], [(b, some (.rw e z n (spl cs 0 ((ds.take (min m n * z)).map .one))))]⟩) (a.put o.dst (goInt (min m n : Nat))) w1 → o.wp P a w K Q := fun w1 hrun hcon => by
    unfold Oper.wp
    rw [exec_builtin (P := P) (w := w) (w1 := w1) (n := .value (goInt (min m n : Nat))) ho rfl (by simp [builtin, e1, e3, hrun]), Oper.upon_value]
    exact hK _ _ hcon
  by_cases h0 : min m n = 0
  · refine hfin w ?_ ?_
    · rw [h0]
      have : (Builtin.firstCells z 0 (.slice A' m c')).run P w = .ok #[] w := by
        cases A' <;> simp [Builtin.firstCells, loadCells, loadCellsFrom]
      cases A <;> simp [Builtin.copy_, run_underlying hu, sizeOf, typeInfo, q1, q2, Builtin.lenOf, h0, this, storeCells, show Nat.min m n = 0 from h0]
    · have hsp : spl cs 0 ((ds.take (min m n * z)).map .one) = cs := by rw [h0]; simp [spl]
      rw [hsp]
      exact conc_set hc hd b _ _ _ _ (.slice A n c) w [b] hb' e2 hc.below (fun _ _ => rfl) (.inr (.c _ _ (.one _ _ (.v _ rfl)))) ⟨_, us0, e2, g2, g3⟩
  · have hA' := hA (by rw [hds]; exact Nat.mul_pos (by omega) hz0)
    subst hA'
    rcases g2.2 with ⟨h, hn0⟩ | ⟨g, cap, cur, h, hb2, hh, hcap, hmax, hsz, ht⟩
    · omega
    · injection h with hA0 hn1 hc0
      subst hA0; subst hc0
      have hvs : (us.take (min m n * z)).length = min m n * z := by rw [List.length_take, hl, hds]; omega
      have hload := run_loadCells_list (P := P) w ad (us.take (min m n * z)) (fun j u hj => hcc j u (by
        rw [List.getElem?_take] at hj
        split at hj
        · exact hj
        · cases hj))
      rw [hvs] at hload
      have hone : RdL w (okOf cx σ μ) μ (us.take (min m n * z)) ((ds.take (min m n * z)).map .one) := by
        have := ones_rdl (μ := μ) hl hr
        refine ⟨by simp [hl], fun j u x h1 h2 => ?_⟩
        rw [List.map_take] at h2
        rw [List.getElem?_take] at h1 h2
        split at h1
        · rename_i hj; rw [if_pos hj] at h2; exact this.2 j u x h1 h2
        · cases h1
      obtain ⟨us5, h5, h6⟩ := obj_cells hc hb' e2 (g := g) rfl
      have h5l : us5.length = n * z := by rw [h5.1]; exact hcl
      have hat : ∀ j, j < (us.take (min m n * z)).length → (w.cell? ⟨g, j, none⟩).isSome = true ∧ w.frozen? ⟨g, j, none⟩ = false := fun j hj => by
        rw [hvs] at hj
        have hj5 : j < us5.length := by omega
        have := h6 j us5[j] (List.getElem?_eq_getElem hj5)
        exact ⟨by rw [this.1]; rfl, this.2⟩
      have hst := run_storeCells_cells (P := P) g 0 (us.take (min m n * z)) 0 w (fun j hj => by simpa using (hat j hj).1) (fun j hj => by simpa using (hat j hj).2) hone.oneCell
      refine hfin (w.setCells g 0 (us.take (min m n * z))) ?_ ?_
      · simp [Builtin.copy_, run_underlying hu, sizeOf, typeInfo, q1, q2, Builtin.lenOf, Builtin.firstCells, show Nat.min m n = min m n from rfl, hload, hst]
      · exact conc_store hc o.dst hd b 0 g _ _ _ (.rw e z n cs) _ _ hb' e2 rfl hone (by simp [O.cells, hds, hcl]; omega) (.inr fun _ _ => .c _ _ (.one _ _ (.v _ rfl)))
/-- A row of numbers that is filled whole. -/
theorem op_copy_I (x y : Operand) (T T' : TypeId) (b e by' : Nat) (f : Bool) (k : IntKind) (n : Nat) (zs xs : List Int) (ho : o.op = .call { callee := .builtin .copy, args := #[x, y], argTypes := #[T, T'] }) (hd : ∀ d, o.dst = some d → d < cx.N) (hx : SV σi x = .c (.row b n)) (hy : SV σi y = .d (encI k f xs))
    (hb : σi.B b = some (.rw e 1 n (ceI k zs))) (hT : tEl P T = some (e, 1, by')) (hn : n = xs.length) (hz : zs.length = n) :
    OpW P cx ops o σi ⟨.v (.int .i64 xs.length), [b], [], [(b, some (.rw e 1 n (ceI k xs)))]⟩ := by
  have := op_copy (P := P) (cx := cx) (ops := ops) (o := o) (σi := σi) x y T T' b n xs.length e 1 by' f (ceI k zs) _ ho hd hx hy hb hT (by simp) (by omega)
  have e1 : spl (ceI k zs) 0 (((xs.map fun x => D.v (.int k x)).take (min xs.length n * 1)).map .one) = ceI k xs := by
    subst hn
    rw [Nat.min_self, Nat.mul_one, List.take_of_length_le (by simp)]
    simp only [spl, ceI, List.map_map, List.take_zero, List.nil_append, List.length_map, Nat.zero_add]
    rw [List.drop_of_length_le (by simp; omega), List.append_nil]
    rfl
  rw [e1, hn, Nat.min_self] at this
  rw [hn]
  exact this
/-! ### Results -/
theorem fin_c {σ : St} (t : Nat) (d : D) (h : σ.S t = .d d) : Fin P [.tmp t] (.d d) .ret σ := by
  refine ⟨.inl rfl, [.c d], ?_, rfl⟩
  simp only [resL, resX, h, AV.d, ceD, Option.map_some]
theorem fin_nilI {σ : St} (t : Nat) (k : IntKind) (xs : List Int) (h : σ.S t = .c .nil) (hx : xs = []) : Fin P [.tmp t] (.d (encI k true xs)) .ret σ := by
  subst hx
  refine ⟨.inl rfl, [.c (.s true 0 [])], ?_, rfl⟩
  simp only [resL, resX, h, ceD, Option.map_some]
theorem fin_rowI {σ : St} (t b n E : Nat) (k : IntKind) (xs : List Int) (h : σ.S t = .c (.row b n)) (hB : σ.B b = some (.rw E 1 n (ceI k xs))) (hn : n = xs.length) : Fin P [.tmp t] (.d (encI k true xs)) .ret σ := by
  subst hn
  refine ⟨.inl rfl, [.c (encI k true xs)], ?_, rfl⟩
  simp only [resL, resX, h, ceD, hB, if_true, toDs_ceI, Option.map_some]
  rfl
end
end Go.Fl
