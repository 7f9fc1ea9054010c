/- Lengths, cuts, nil checks, appends. -/
import Derived.Test.YtkfmdjbfffncpaaGreatFlMake
import Derived.Maps.AppendAt
import Derived.Laws.Slices
import Derived.Deep.Onto
set_option linter.unusedVariables false
namespace Go.Fl
open Go.RowKit

section
variable {P : Program} {cx : Cx} {ops : Array Oper} {o : Oper} {σi : St}

theorem exec_builtin {ρ : Operand → Value} {c : Call} {b : Builtin} (ho : o.op = .call c) (hc : c.callee = .builtin b) {w w1 : World} {n : Next} (h : (builtin b c.argTypes o.type (c.args.map fun | .const _ => true | _ => false) (c.args.map ρ)).run P w = .ok n w1) : (execOp ρ o).run P w = .ok n w1 := by
  simp only [execOp, ho, resolve, hc, Sem.run_bind, Sem.run_pure, Result.andThen_ok, invoke]
  exact h

theorem op_len (x : Operand) (T : TypeId) (f : Bool) (n : Nat) (ds : List D) (e z by' : Nat) (ho : o.op = .call { callee := .builtin .len, args := #[x], argTypes := #[T] }) (hd : ∀ d, o.dst = some d → d < cx.N) (hx : SV σi x = .d (.s f n ds)) (hT : tEl P T = some (e, z, by')) :
    OpW P cx ops o σi ⟨.v (.int .i64 n), [], [], []⟩ :=
  opw_val hd fun σ μ a w hs h2 hc => by
    obtain ⟨A, c, ad, us, e1, _⟩ := sv_s hc ((sv_same hs (x := x) (by simp [ho, Op.operands, Call.operands])).trans hx)
    obtain ⟨hu, _⟩ := tEl_info hT
    refine ⟨.int .i64 n, exec_builtin ho rfl ?_, .c _ _ (.one _ _ (.v _ rfl))⟩
    simp [builtin, e1, Builtin.len_, run_underlying hu, goInt]
theorem op_rlen (x : Operand) (T : TypeId) (b n : Nat) (e z by' : Nat) (ho : o.op = .call { callee := .builtin .len, args := #[x], argTypes := #[T] }) (hd : ∀ d, o.dst = some d → d < cx.N) (hx : SV σi x = .c (.row b n)) (hT : tEl P T = some (e, z, by')) :
    OpW P cx ops o σi ⟨.v (.int .i64 n), [], [], []⟩ :=
  opw_val hd fun σ μ a w hs h2 hc => by
    obtain ⟨A, c, e1, _⟩ := sv_row hc ((sv_same hs (x := x) (by simp [ho, Op.operands, Call.operands])).trans hx)
    obtain ⟨hu, _⟩ := tEl_info hT
    refine ⟨.int .i64 n, exec_builtin ho rfl ?_, .c _ _ (.one _ _ (.v _ rfl))⟩
    simp [builtin, e1, Builtin.len_, run_underlying hu, goInt]
theorem sv_nil {σ : St} {μ : Nat → Option Value} {a : Act} {w : World} (hc : Conc cx σ μ a w) {x : Operand} (hx : SV σ x = .c .nil) : a.eval x = .slice none 0 0 := by
  have := sv_rd hc x
  rw [hx] at this
  generalize a.eval x = y at this ⊢
  cases this with
  | c _ _ h => cases h; rfl
theorem op_nlen (x : Operand) (T : TypeId) (e z by' : Nat) (ho : o.op = .call { callee := .builtin .len, args := #[x], argTypes := #[T] }) (hd : ∀ d, o.dst = some d → d < cx.N) (hx : SV σi x = .c .nil) (hT : tEl P T = some (e, z, by')) :
    OpW P cx ops o σi ⟨.v (.int .i64 0), [], [], []⟩ :=
  opw_val hd fun σ μ a w hs h2 hc => by
    have e1 := sv_nil hc ((sv_same hs (x := x) (by simp [ho, Op.operands, Call.operands])).trans hx)
    obtain ⟨hu, _⟩ := tEl_info hT
    refine ⟨.int .i64 0, exec_builtin ho rfl ?_, .c _ _ (.one _ _ (.v _ rfl))⟩
    simp [builtin, e1, Builtin.len_, run_underlying hu, goInt]
theorem op_nilCheck (x : Operand) (b off : Nat) (ho : o.op = .nilCheck x) (hd : ∀ d, o.dst = some d → d < cx.N) (hx : SV σi x = .c (.ptr b off)) : OpW P cx ops o σi ⟨.c (.ptr b off), [], [], []⟩ :=
  opw_val hd fun σ μ a w hs h2 hc => by
    obtain ⟨g, vb, e1, e2, e3⟩ := sv_ptr hc ((sv_same hs (x := x) (by simp [ho, Op.operands])).trans hx)
    refine ⟨.pointer (some ⟨g, off, none⟩), by simp [execOp, ho, e1], .c _ _ (.ptr b off g vb e2 e3)⟩

/-- A cut of a slice that is read: x[l:h]. -/
theorem sliced_rd {w : World} {ok : Bool → Nat → Prop} {f : Bool} {A : Option Addr} {n c l h z : Nat} {ad : Addr} {us : List Value} {ds : List D} (hn : n ≤ c) (hm : c ≤ 9223372036854775807) (hA : 0 < ds.length → A = some ad) (hl : us.length = ds.length) (hok : 0 < ds.length → ok f ad.block)
    (hcc : ∀ (j : Nat) (u : Value), us[j]? = some u → w.cell? (ad.add j) = some u) (hr : ∀ (j : Nat) (u : Value) (d : D), us[j]? = some u → ds[j]? = some d → Rd w ok u d) (h1 : l ≤ h) (h2 : h ≤ n) (hz : 0 < z) (hd : ds.length = n * z) :
    Rd w ok (sliced A l h c z) (.s f (h - l) ((ds.drop (l * z)).take ((h - l) * z))) := by
  unfold sliced
  have hlz : ∀ {k : Nat}, k * z ≤ n * z ↔ k ≤ n := fun {k} => ⟨fun q => Nat.le_of_mul_le_mul_right q hz, fun q => Nat.mul_le_mul_right z q⟩
  have hlen : ((ds.drop (l * z)).take ((h - l) * z)).length = (h - l) * z := by
    rw [List.length_take, List.length_drop, hd]
    have : (h - l) * z ≤ n * z - l * z := by rw [Nat.sub_mul]; exact Nat.sub_le_sub_right (hlz.2 h2) _
    omega
  by_cases h0 : h - l = 0
  · have e0 : (ds.drop (l * z)).take ((h - l) * z) = [] := by rw [h0]; simp
    rw [e0, h0]
    exact .s f _ 0 _ default [] [] (by omega) (by omega) (by simp) rfl (by simp) (by simp) (by simp)
  · have hpos : 0 < (h - l) * z := Nat.mul_pos (by omega) hz
    have hdp : 0 < ds.length := by rw [hd]; exact Nat.mul_pos (by omega) hz
    have hA' := hA hdp
    subst hA'
    rw [if_neg (by omega)]
    refine .s f _ (h - l) (c - l) (ad.add (l * z)) ((us.drop (l * z)).take ((h - l) * z)) _ (by omega) (by omega) (fun _ => rfl) (by rw [hlen, List.length_take, List.length_drop, hl, hd]; rw [Nat.sub_mul] at hlen ⊢; have := hlz.2 h2; omega) (fun _ => by rw [add_block]; exact hok hdp) (fun j u hj => by rw [add_add']; exact hcc _ u (list_cut hj)) (fun j u d g1 g2 => hr (l * z + j) u d (list_cut g1) (list_cut g2))

theorem run_sliceAt {w : World} {T e z by' : Nat} (hT : tEl P T = some (e, z, by')) (A : Option Addr) (n c : Nat) (kl kh : IntKind) (l h : Option Int) (hl : ∀ x, l = some x → 0 ≤ x ∧ x ≤ h.getD n) (hh : ∀ y, h = some y → 0 ≤ y ∧ y ≤ c) :
    (Instr.sliceAt T (.slice A n c) (l.map (.int kl)) (h.map (.int kh)) none).run P w = .ok (sliced A ((l.getD 0).toNat) ((h.getD n).toNat) c z) w := by
  obtain ⟨hu, i, hi, hz, _⟩ := tEl_info hT
  have hel : P.elem T = e := by
    simp [Program.elem, hu]
  have hu' : P.underlying T = some (.slice (P.elem T)) := by rw [hel]; exact hu
  have hsz : (sizeOf (P.elem T)).run P w = .ok z w := by rw [hel]; simp [sizeOf, typeInfo, hi, hz]
  rw [run_sliceAt_slice (h := hu')]
  cases l with
  | none =>
    cases h with
    | none => simp [run_slice_all (ht := hu'), hsz]
    | some y =>
      obtain ⟨h1, h2⟩ := hh y rfl
      simp [run_slice_h (ht := hu') (h0 := h1) (h2 := h2), hsz]
  | some x =>
    obtain ⟨g1, g2⟩ := hl x rfl
    cases h with
    | none =>
      simp only [Option.getD_none] at g2
      simp [run_slice_l (ht := hu') (h0 := g1) (h1 := g2), hsz]
    | some y =>
      obtain ⟨h1, h2⟩ := hh y rfl
      simp only [Option.getD_some] at g2
      simp [run_slice_lh (ht := hu') (h0 := g1) (h1 := g2) (h2 := h2), hsz]
def bnd (σ : St) : Option Operand → Option (Option Int)
  | none => some none
  | some x => match SV σ x with
    | .c (.one (.v (.int _ i))) => some (some i)
    | _ => none
theorem op_slice (T : TypeId) (x : Operand) (lo hi : Option Operand) (l h : Option Int) (f : Bool) (n e z by' : Nat) (ds cs : List D) (m : Nat) (ho : o.op = .slice T x lo hi none) (hd : ∀ d, o.dst = some d → d < cx.N) (hx : SV σi x = .d (.s f n ds)) (hlo : bnd σi lo = some l) (hhi : bnd σi hi = some h)
    (hT : tEl P T = some (e, z, by')) (hz : 0 < z) (hl : 0 ≤ l.getD 0 ∧ l.getD 0 ≤ h.getD n) (hh : h.getD n ≤ n) (hds : ds.length = n * z) (hm : (h.getD n).toNat - (l.getD 0).toNat = m) (hcs : (ds.drop ((l.getD 0).toNat * z)).take (m * z) = cs) : OpW P cx ops o σi ⟨.d (.s f m cs), [], [], []⟩ := by
  subst hm
  subst hcs
  refine opw_val hd fun σ μ a w hs h2 hc => ?_
  obtain ⟨A, c, ad, us, e1, hn, hmx, hA, hlen, hok, hcc, hr⟩ := sv_s hc ((sv_same hs (x := x) (by simp [ho, Op.operands])).trans hx)
  have bv : ∀ (q : Option Operand) (r : Option Int), (∀ y, q = some y → y ∈ o.op.operands.toList) → bnd σi q = some r → ∃ k, q.map a.eval = r.map (.int k) := by
    intro q r hq hb
    cases q with
    | none => simp only [bnd, Option.some.injEq] at hb; subst hb; exact ⟨.i64, rfl⟩
    | some y =>
      simp only [bnd] at hb
      split at hb
      · rename_i k i hy
        simp only [Option.some.injEq] at hb
        subst hb
        exact ⟨k, by simp [sv_v hc ((sv_same hs (x := y) (hq y rfl)).trans hy)]⟩
      · cases hb
  obtain ⟨kl, el⟩ := bv lo l (fun y hy => by subst hy; simp [ho, Op.operands]) hlo
  obtain ⟨kh, eh⟩ := bv hi h (fun y hy => by subst hy; simp [ho, Op.operands]) hhi
  refine ⟨sliced A ((l.getD 0).toNat) ((h.getD n).toNat) c z, ?_, .c _ _ (.one _ _ (sliced_rd hn hmx hA hlen hok hcc hr (by omega) (by omega) hz hds))⟩
  have hrun := run_sliceAt (P := P) (w := w) hT A n c kl kh l h (fun x hx => by subst hx; simpa using hl) (fun y hy => by subst hy; simp only [Option.getD_some] at hl hh; omega)
  simp only [execOp, ho, e1, el, eh, Option.map_none, Sem.run_bind, hrun, Result.andThen_ok, Sem.run_pure]

/-! ### append -/
/-- append(row, s...): the row's cells, and those of a slice that is read. -/
theorem op_append (x y : Operand) (T : TypeId) (b b' n m e z by' : Nat) (f : Bool) (zs : List Value) (cs : List Ce) (ds : List D) (ho : o.op = .call { callee := .builtin .append, args := #[x, y], argTypes := #[T, T] }) (hd : ∀ d, o.dst = some d → d < cx.N) (hnf : cx.nf b' = false) (hx : SV σi x = .c (.row b n)) (hy : SV σi y = .d (.s f m ds))
    (hb : σi.B b = some (.rw e z n cs)) (hT : tEl P T = some (e, z, by')) (hz : tZ P e = some zs) (hzl : zs.length = z) (hz0 : 0 < z) (hds : ds.length = m * z) (hnm : (cs.flatMap Ce.nm).contains b' = false) (h63 : n + m ≤ 9223372036854775807) (hby : (n + m) * by' ≤ 140737488355328) :
    OpW P cx ops o σi ⟨.c (.row b' (n + m)), [b], [b'], [(b', some (.rw e z (n + m) (cs ++ ds.map .one))), (b, none)]⟩ := fun σ a w h1 h2 h3 h4 K Q hK => by
  obtain ⟨μ, hc⟩ := h4
  obtain ⟨A, c, e1, e2, _⟩ := sv_row hc ((sv_same h1 (x := x) (by simp [ho, Op.operands, Call.operands])).trans hx)
  obtain ⟨A', c', ad, us, e3, hn, hm, hA, hl, hok, hcc, hr⟩ := sv_s hc ((sv_same h1 (x := y) (by simp [ho, Op.operands, Call.operands])).trans hy)
  have hb' := (h2 b (by simp)).trans hb
  obtain ⟨v, us0, g1, g2, g3⟩ := hc.objs b _ hb'
  rw [e2] at g1
  injection g1 with g1
  subst g1
  obtain ⟨hu, i, zv, q1, q2, q3, q4, q5, q6⟩ := tEl_zero hT hz
  have hone : ∀ u ∈ us, u.oneCell' = true := (ones_rdl (μ := μ) hl hr).oneCell
  have hzc : zv.cells.size = z := by rw [q5]; simpa using hzl
  have hrun : ∃ v' w', (Builtin.append_ #[T, T] o.type #[.slice A n c, .slice A' m c']).run P w = .ok v' w' ∧ w'.ownsRow cx.w0.heap.size e z v' (n + m) (us0 ++ us) ∧ w.grownBy w' (Value.slice A n c).ownBlock ∧ (v'.ownBlock = (Value.slice A n c).ownBlock ∨ v'.ownBlock = some w.heap.size) := by
    by_cases hm0 : m = 0
    · subst hm0
      have hus : us = [] := List.eq_nil_of_length_eq_zero (by rw [hl, hds]; simp)
      subst hus
      refine ⟨.slice A n c, w, ?_, by simpa using g2, World.grownBy.refl _ _, .inl rfl⟩
      rcases g2.2 with ⟨h, hn0⟩ | ⟨g, cap, cur, h, _, hh, hcap, _⟩
      · injection h with hA0 hn1 hc0
        subst hA0; subst hn1; subst hc0
        cases A' <;> simp [Builtin.append_, run_underlying hu, sizeOf, typeInfo, q1, Builtin.lenOf, Builtin.firstCells, loadCells, loadCellsFrom]
      · injection h with hA0 hn1 hc0
        subst hA0; subst hc0
        cases A' <;> simp [Builtin.append_, run_underlying hu, sizeOf, typeInfo, q1, Builtin.lenOf, Builtin.firstCells, hcap, storeCells, loadCells, loadCellsFrom]
    · have hA' := hA (by rw [hds]; exact Nat.mul_pos (by omega) hz0)
      subst hA'
      obtain ⟨v', w', r1, r2, r3, _, r5⟩ := run_append_own_at (P := P) w cx.w0.heap.size T o.type e i zv z by' hu q1 q4 q2 q3 hzc hz0 (.slice A n c) n us0 g2 ad m c' us (by rw [hl, hds]) hcc hone (by simp only [maxLen]; omega) hby hc.below.size
      exact ⟨v', w', r1, r2, r3, r5⟩
  obtain ⟨v', w', r1, r2, r3, r5⟩ := hrun
  have hshape : ∃ A1 c1, v' = .slice A1 (n + m) c1 := by
    rcases r2.2 with ⟨h, h0⟩ | ⟨g, cap, cur, h, _⟩
    · exact ⟨none, 0, by rw [h, h0]⟩
    · exact ⟨_, cap, h⟩
  obtain ⟨A1, c1, rfl⟩ := hshape
  have ob : ∀ (v : Value) A n c, v = .slice A n c → blk v = v.ownBlock := by
    intro v A n c h; subst h; cases A <;> rfl
  unfold Oper.wp
  rw [exec_builtin (P := P) (w := w) (w1 := w') (n := .value (.slice A1 (n + m) c1)) ho rfl (by simp [builtin, e1, e3, r1]), Oper.upon_value]
  refine hK _ _ ?_
  have hgrow : ∀ k, k < w.heap.size → blk (.slice A n c) ≠ some k → w'.heap[k]? = w.heap[k]? := fun k hk hne => r3.block k hk fun h => hne (by rw [ob _ A n c rfl]; exact h.symm)
  have hbel : Below cx.w0.heap.size cx.w0 w' := hc.below.grown r3 hc.below.size fun k hk => (live_lt hc (by rw [hb']; rfl) e2 (by rw [ob _ A n c rfl]; exact hk)).2
  refine conc_turn hc hd b b' (.rw e z n cs) _ _ (.slice A n c) (.slice A1 (n + m) c1) w' hb' e2 hnf h3 (by
    simp only [O.nm, List.flatMap_append, List.mem_append, not_or]
    refine ⟨by simpa using hnm, ?_⟩
    simp [List.flatMap_map, Ce.nm]) hbel hgrow (fun k hk => ?_) (fun ok => .c _ _ (.row b' (n + m) c1 A1 h63 (by simp))) fun ok μ1 hok hμ1 hμb => ?_
  · rw [ob _ A1 (n + m) c1 rfl] at hk
    rw [ob _ A n c rfl]
    rcases r5 with h | h
    · exact .inl (h ▸ hk)
    · rw [h] at hk; injection hk with hk; exact .inr (by omega)
  · have hw' : ∀ f k, okOf cx σ μ f k → k < w.heap.size → w'.heap[k]? = w.heap[k]? := fun f k h hk => hgrow k hk (h.2.2 b _ (by rw [hb']; rfl) e2)
    refine ⟨.slice A1 (n + m) c1, us0 ++ us, hμb, r2, ?_⟩
    have p1 := g3.keep (w1 := w') (ok1 := ok) (μ1 := μ1) hw' hok fun y hy => hμ1 y fun e => by
      subst e
      simp at hnm
      obtain ⟨cc, h6, h7⟩ := List.mem_flatMap.1 hy
      exact hnm cc h6 h7
    have p2 := (ones_rdl (μ := μ) hl hr).keep (w1 := w') (ok1 := ok) (μ1 := μ1) hw' hok fun y hy => by simp [List.flatMap_map, Ce.nm] at hy
    refine ⟨by rw [List.length_append, List.length_append, p1.1, p2.1], fun j u x hj1 hj2 => ?_⟩
    by_cases hj : j < us0.length
    · rw [List.getElem?_append_left hj] at hj1
      rw [List.getElem?_append_left (by rw [← p1.1]; exact hj)] at hj2
      exact p1.2 j u x hj1 hj2
    · rw [List.getElem?_append_right (by omega)] at hj1
      rw [List.getElem?_append_right (by rw [← p1.1]; omega), ← p1.1] at hj2
      exact p2.2 _ u x hj1 hj2
end
end Go.Fl
