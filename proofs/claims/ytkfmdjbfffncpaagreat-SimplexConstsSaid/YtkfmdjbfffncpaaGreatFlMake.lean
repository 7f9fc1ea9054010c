/- Values and rows that are made out of parts; lengths; cuts. -/
import Derived.Test.YtkfmdjbfffncpaaGreatFlStore
import Derived.Laws.MakeOwn
import Derived.IntWalk
set_option linter.unusedVariables false
namespace Go.Fl
open Go.RowKit

/-! ### Parts put into cells -/
def fillC (place : Nat → Option (Nat × Nat)) (cells : List Ce) : List (Nat × List Ce) → Option (List Ce)
  | [] => some cells
  | p :: rest =>
    match place p.1 with
    | none => none
    | some (off, size) => if p.2.length = size ∧ off + p.2.length ≤ cells.length then fillC place (spl cells off p.2) rest else none

theorem spl_set {α : Type} (l : List α) (o : Nat) (x : α) (r : List α) (h : o + (r.length + 1) ≤ l.length) : spl (l.set o x) (o + 1) r = spl l o (x :: r) := by
  apply List.ext_getElem?
  intro i
  rw [spl_get (by simp; omega), spl_get (by simpa using h)]
  simp only [List.length_cons]
  by_cases h2 : i = o
  · subst h2
    rw [if_neg (by omega), if_pos (by omega), List.getElem?_set_self (by omega)]
    simp
  · rw [List.getElem?_set_ne (by omega)]
    by_cases h3 : o + 1 ≤ i ∧ i < o + 1 + r.length
    · rw [if_pos h3, if_pos (by omega), show i - o = (i - (o + 1)) + 1 by omega, List.getElem?_cons_succ]
    · rw [if_neg h3, if_neg (by omega)]
theorem foldl_spl : ∀ (vs : List Value) (off k : Nat) (cells : Array Value), off + k + vs.length ≤ cells.size → (vs.zipIdx k).foldl (fun cs (p : Value × Nat) => cs.setIfInBounds (off + p.2) p.1) cells = (spl cells.toList (off + k) vs).toArray
  | [], off, k, cells, _ => by simp [spl]
  | v :: r, off, k, cells, h => by
    have h' : off + k + (r.length + 1) ≤ cells.size := by simpa [Nat.add_assoc] using h
    rw [List.zipIdx_cons, List.foldl_cons, foldl_spl r off (k + 1) _ (by simp; omega)]
    simp only [Array.toList_setIfInBounds]
    rw [← Nat.add_assoc, spl_set _ _ _ _ (by simpa using h')]
/-- A part's cells are read as these. -/
def PartOk (w : World) (ok : Bool → Nat → Prop) (μ : Nat → Option Value) (v : Value) (xs : List Ce) : Prop := ∃ vs, v.cells = vs.toArray ∧ RdL w ok μ vs xs
theorem fill_rd {w : World} {ok : Bool → Nat → Prop} {μ : Nat → Option Value} (place : Nat → Option (Nat × Nat)) : ∀ (ps : List (Nat × Value)) (xs : List (Nat × List Ce)) (us : List Value) (cs cs' : List Ce), ps.map (·.1) = xs.map (·.1) → (∀ (j : Nat) (p : Nat × Value) (x : Nat × List Ce), ps[j]? = some p → xs[j]? = some x → PartOk w ok μ p.2 x.2) → RdL w ok μ us cs → fillC place cs xs = some cs' →
    ∃ us', Instr.fill place us.toArray ps = some us'.toArray ∧ RdL w ok μ us' cs'
  | [], xs, us, cs, cs', hl, hp, hr, hf => by
    cases xs with
    | nil => simp only [fillC, Option.some.injEq] at hf; subst hf; exact ⟨us, rfl, hr⟩
    | cons => simp at hl
  | p :: ps, xs, us, cs, cs', hl, hp, hr, hf => by
    cases xs with
    | nil => simp at hl
    | cons x xs =>
      simp only [List.map_cons, List.cons.injEq] at hl
      obtain ⟨hl0, hl⟩ := hl
      obtain ⟨i, v⟩ := p
      obtain ⟨i', y⟩ := x
      simp only at hl0
      subst hl0
      obtain ⟨vs, e1, h1⟩ := hp 0 _ _ rfl rfl
      simp only at e1 h1
      simp only [fillC] at hf
      unfold Instr.fill
      split at hf
      · cases hf
      · rename_i off size hpl
        rw [hpl]
        split at hf
        · rename_i hsz
          obtain ⟨hs1, hs2⟩ := hsz
          have hv : v.cells.size = y.length := by rw [e1]; simpa using h1.1
          have hu : us.toArray.size = cs.length := by simpa using hr.1
          simp only [hv, hu]
          rw [if_neg (by simp [hs1]; omega)]
          have hfo := foldl_spl vs off 0 us.toArray (by simp; rw [h1.1, hr.1]; exact hs2)
          have e2 : v.cells.zipIdx.foldl (fun cs (x : Value × Nat) => match x with | (c, j) => cs.setIfInBounds (off + j) c) us.toArray = (spl us off vs).toArray := by
            rw [e1]
            simpa using hfo
          rw [e2]
          exact fill_rd place ps xs _ _ cs' hl (fun j p x h2 h3 => hp (j + 1) p x (by simpa using h2) (by simpa using h3)) (hr.spl h1 hs2) hf
        · cases hf

def avC : AV → Option (List Ce)
  | .c .junk => none
  | .c x => some [x]
  | .agg cs => some cs
  | .tup _ => none
def partsC (σ : St) : List (Nat × Operand) → Option (List (Nat × List Ce))
  | [] => some []
  | p :: r => match avC (SV σ p.2), partsC σ r with
    | some x, some l => some ((p.1, x) :: l)
    | _, _ => none

section
variable {P : Program} {cx : Cx} {ops : Array Oper} {o : Oper} {σi : St}

theorem avC_ok {w : World} {ok : Bool → Nat → Prop} {μ : Nat → Option Value} {v : Value} {av : AV} {xs : List Ce} (h : RdA w ok μ v av) (hx : avC av = some xs) : PartOk w ok μ v xs := by
  cases h with
  | c v x h =>
    have : xs = [x] := by
      unfold avC at hx
      split at hx <;> simp_all
    subst this
    refine ⟨[v], ?_, rfl, fun j u x h1 h2 => ?_⟩
    · have := h.oneCell
      cases v <;> simp_all [Value.cells, Value.oneCell']
    · cases j with
      | zero => simp at h1 h2; subst h1; subst h2; exact h
      | succ j => simp at h1
  | agg us cs h => simp only [avC, Option.some.injEq] at hx; subst hx; exact ⟨us, rfl, h⟩
  | tup => simp [avC] at hx
  | none => simp [avC] at hx
theorem partsC_ok {σ : St} {μ : Nat → Option Value} {a : Act} {w : World} (hc : Conc cx σ μ a w) : ∀ (ps : List (Nat × Operand)) (xs : List (Nat × List Ce)), partsC σ ps = some xs →
    (ps.map fun p => (p.1, a.eval p.2)).map (·.1) = xs.map (·.1) ∧ ∀ (j : Nat) (p : Nat × Value) (x : Nat × List Ce), (ps.map fun p => (p.1, a.eval p.2))[j]? = some p → xs[j]? = some x → PartOk w (okOf cx σ μ) μ p.2 x.2
  | [], xs, h => by simp only [partsC, Option.some.injEq] at h; subst h; exact ⟨rfl, fun j p x h => by simp at h⟩
  | q :: r, xs, h => by
    simp only [partsC] at h
    split at h
    · rename_i x l h1 h2
      simp only [Option.some.injEq] at h
      subst h
      obtain ⟨g1, g2⟩ := partsC_ok hc r l h2
      refine ⟨by simp only [List.map_cons]; rw [g1], fun j p y hp hy => ?_⟩
      cases j with
      | zero => simp at hp hy; subst hp; subst hy; exact avC_ok (sv_rd hc q.2) h1
      | succ j => exact g2 j p y (by simpa using hp) (by simpa using hy)
    · cases h
theorem partsC_same {σ : St} (h : ∀ t ∈ o.looksAt ops, σ.S t = σi.S t) : ∀ (ps : List (Nat × Operand)), (∀ p ∈ ps, p.2 ∈ o.op.operands.toList) → partsC σ ps = partsC σi ps
  | [], _ => rfl
  | p :: r, hm => by
    simp only [partsC]
    rw [sv_same h (hm p (List.mem_cons_self ..)), partsC_same h r fun q hq => hm q (List.mem_cons_of_mem _ hq)]

def tPl (P : Program) (T : TypeId) : Option (List Value × List (Nat × Nat)) :=
  match P.underlying T with
  | some (.struct fs) => match tZ P T, fs.toList.mapM (fun f => (P.info? f.type).map fun i => (f.offset, i.size)) with
    | some z, some pl => some (z, pl)
    | _, _ => none
  | _ => none
theorem tZ_info {T : TypeId} {zs : List Value} (hz : tZ P T = some zs) : ∃ i z, P.info? T = some i ∧ i.zero = some z ∧ z.cells = zs.toArray ∧ ∀ u ∈ zs, u.oneCell' = true := by
  unfold tZ at hz
  split at hz
  · rename_i i hi
    split at hz
    · rename_i z hzz
      split at hz
      · rename_i hall
        injection hz with hz
        subst hz
        exact ⟨i, z, hi, hzz, by simp, fun u hu => List.all_eq_true.1 hall u hu⟩
      · cases hz
    · cases hz
  · cases hz
theorem rdl_zero {w : World} {ok : Bool → Nat → Prop} {μ : Nat → Option Value} {zs : List Value} (h : ∀ u ∈ zs, u.oneCell' = true) : RdL w ok μ zs (zs.map constX) := by
  refine ⟨by simp, fun j u x hu hx => ?_⟩
  rw [List.getElem?_map, hu] at hx
  injection hx with hx
  subst hx
  exact constX_rd _ _ _ u (h u (List.mem_of_getElem? hu))

theorem op_build (T : TypeId) (ps : List (Nat × Operand)) (zs : List Value) (pl : List (Nat × Nat)) (xs : List (Nat × List Ce)) (cs : List Ce) (ho : o.op = .build T ps.toArray) (hd : ∀ d, o.dst = some d → d < cx.N) (hT : tPl P T = some (zs, pl)) (hp : partsC σi ps = some xs)
    (hf : fillC (pl.toArray[·]?) (zs.map constX) xs = some cs) : OpW P cx ops o σi ⟨.agg cs, [], [], []⟩ :=
  opw_val hd fun σ μ a w hs h2 hc => by
    have hp' := (partsC_same hs ps (fun p hp => by simp only [ho, Op.operands]; simpa using ⟨p.1, hp⟩)).trans hp
    obtain ⟨g1, g2⟩ := partsC_ok hc ps xs hp'
    unfold tPl at hT
    split at hT
    · rename_i fs hu
      split at hT
      · rename_i z' pl' hz hpl
        simp only [Option.some.injEq, Prod.mk.injEq] at hT
        obtain ⟨rfl, rfl⟩ := hT
        obtain ⟨i, z, q1, q2, q3, q4⟩ := tZ_info hz
        obtain ⟨us', e1, e2⟩ := fill_rd (pl'.toArray[·]?) _ xs z' _ cs g1 g2 (rdl_zero q4) hf
        have hb : P.built T (ps.map fun p => (p.1, a.eval p.2)) = some us'.toArray := by
          simp only [Program.built, q1, hu, q2, hpl, q3]
          exact e1
        refine ⟨.agg us'.toArray, ?_, .agg _ _ e2⟩
        have hrun := run_build (P := P) w T (ps.toArray.map fun p => (p.1, a.eval p.2)) us'.toArray (by simpa using hb)
        simp only [execOp, ho, Sem.run_bind]
        have e3 : (ps.toArray.map fun x => match x with | (i, x) => (i, a.eval x)) = ps.toArray.map fun p => (p.1, a.eval p.2) := by
          apply congrArg (fun f => ps.toArray.map f)
          funext ⟨i, x⟩; rfl
        rw [e3, hrun]
        rfl
      · cases hT
    · cases hT

/-! ### Slices of what is listed -/
def toD : Ce → Option D
  | .one d => some d
  | .nil => some (.s true 0 [])
  | _ => none
theorem toD_rd {w : World} {ok : Bool → Nat → Prop} {μ : Nat → Option Value} {u : Value} {c : Ce} {d : D} (h : RdC w ok μ u c) (hd : toD c = some d) : Rd w ok u d := by
  cases h with
  | one v d' h => simp only [toD, Option.some.injEq] at hd; subst hd; exact h
  | nil => simp only [toD, Option.some.injEq] at hd; subst hd; exact .s true none 0 0 default [] [] (Nat.le_refl _) (by omega) (by simp) rfl (by simp) (by simp) (by simp)
  | _ => simp [toD] at hd
def toDs : List Ce → Option (List D)
  | [] => some []
  | c :: r => match toD c, toDs r with
    | some d, some l => some (d :: l)
    | _, _ => none
theorem toDs_rd {w : World} {ok : Bool → Nat → Prop} {μ : Nat → Option Value} : ∀ (us : List Value) (cs : List Ce) (ds : List D), RdL w ok μ us cs → toDs cs = some ds → RdL w ok μ us (ds.map .one)
  | us, [], ds, h, hd => by simp only [toDs, Option.some.injEq] at hd; subst hd; exact h
  | [], c :: r, ds, h, hd => by have := h.1; simp at this
  | u :: us, c :: r, ds, h, hd => by
    simp only [toDs] at hd
    split at hd
    · rename_i d l h1 h2
      simp only [Option.some.injEq] at hd
      subst hd
      have ih := toDs_rd us r l ⟨by have := h.1; simpa using this, fun j u x h3 h4 => h.2 (j + 1) u x (by simpa using h3) (by simpa using h4)⟩ h2
      refine ⟨by have := ih.1; simpa using this, fun j v x h3 h4 => ?_⟩
      cases j with
      | zero => simp at h3 h4; subst h3; subst h4; exact .one _ _ (toD_rd (h.2 0 _ _ rfl rfl) h1)
      | succ j => exact ih.2 j v x (by simpa using h3) (by simpa using h4)
    · cases hd

theorem tEl_zero {T e z by' : Nat} {zs : List Value} (hT : tEl P T = some (e, z, by')) (hz : tZ P e = some zs) : P.underlying T = some (.slice e) ∧ ∃ i zv, P.info? e = some i ∧ i.size = z ∧ i.bytes = by' ∧ i.zero = some zv ∧ zv.cells = zs.toArray ∧ ∀ u ∈ zs, u.oneCell' = true := by
  obtain ⟨h1, i, h2, h3, h4⟩ := tEl_info hT
  obtain ⟨i', zv, q1, q2, q3, q4⟩ := tZ_info hz
  rw [h2] at q1
  injection q1 with q1
  subst q1
  exact ⟨h1, i, zv, h2, h3, h4, q2, q3, q4⟩
/-- The cells of so many noughts. -/
def zer (zs : List Value) (k : Nat) : List Value := (List.range k).map fun j => zs.getD (j % zs.length) default
theorem zer_arr (zs : List Value) (k : Nat) : (Array.range k).map (zs.toArray[· % zs.toArray.size]!) = (zer zs k).toArray := by
  apply Array.ext'
  simp [zer]
theorem zer_one {zs : List Value} {k : Nat} (h : ∀ u ∈ zs, u.oneCell' = true) (hp : 0 < k → 0 < zs.length) : ∀ u ∈ zer zs k, u.oneCell' = true := by
  intro u hu
  obtain ⟨j, hj, rfl⟩ := List.mem_map.1 hu
  have hk := List.mem_range.1 hj
  have := hp (by omega)
  rw [List.getD_eq_getElem?_getD, List.getElem?_eq_getElem (Nat.mod_lt _ this)]
  exact h _ (List.getElem_mem _)

theorem run_lit {σ : St} {μ : Nat → Option Value} {a : Act} {w : World} (hc : Conc cx σ μ a w) (T e z by' n : Nat) (ps : List (Nat × Operand)) (zs : List Value) (xs : List (Nat × List Ce)) (cs : List Ce) (hT : tEl P T = some (e, z, by')) (hz : tZ P e = some zs) (hzl : zs.length = z) (hp : partsC σ ps = some xs) (hn : n * z ≤ 16777216)
    (hf : fillC (fun i => some (i * z, z)) ((zer zs (n * z)).map constX) xs = some cs) :
    ∃ us, (Instr.buildSlice T n (ps.toArray.map fun (i, x) => (i, a.eval x))).run P w = .ok (.slice (some ⟨w.heap.size, 0, none⟩) n n) (w.alloc (.cells us.toArray e)) ∧ RdL w (okOf cx σ μ) μ us cs := by
  obtain ⟨g1, g2⟩ := partsC_ok hc ps xs hp
  obtain ⟨hu, i, zv, q1, q2, q3, q4, q5, q6⟩ := tEl_zero hT hz
  obtain ⟨us', e1, e2⟩ := fill_rd (fun i => some (i * z, z)) _ xs (zer zs (n * z)) _ cs g1 g2 (rdl_zero (zer_one q6 fun h => by rw [hzl]; exact Nat.pos_of_ne_zero fun e => by simp [e] at h)) hf
  refine ⟨us', ?_, e2⟩
  have e3 : (ps.toArray.map fun x => match x with | (i, x) => (i, a.eval x)) = (ps.map fun p => (p.1, a.eval p.2)).toArray := by
    rw [List.map_toArray]
  rw [e3]
  have hsz : (sizeOf e).run P w = .ok z w := by simp [sizeOf, typeInfo, q1, q2]
  have hzv : (zeroValue e).run P w = .ok zv w := by simp [zeroValue, typeInfo, q1, q4]
  simp only [Instr.buildSlice, Sem.run_bind, run_underlying hu, Result.andThen_ok, hsz]
  rw [if_neg (by omega)]
  by_cases h0 : n * z = 0
  · have e0 : zer zs (n * z) = [] := by rw [h0]; rfl
    rw [e0] at e1
    have er : ∀ f : Nat → Value, (Array.range 0).map f = ([] : List Value).toArray := fun f => by simp
    simp only [h0, if_true, Sem.run_pure, Sem.run_bind, Result.andThen_ok, er, e1]
    simp [newRow]
  · simp only [h0, if_false, Sem.run_pure, Sem.run_bind, Result.andThen_ok, hzv, q5, zer_arr, e1]
    simp [newRow]
theorem op_lit (T e z by' n : Nat) (ps : List (Nat × Operand)) (zs : List Value) (xs : List (Nat × List Ce)) (cs : List Ce) (ds : List D) (ho : o.op = .buildSlice T n ps.toArray) (hd : ∀ d, o.dst = some d → d < cx.N) (hT : tEl P T = some (e, z, by')) (hz : tZ P e = some zs) (hzl : zs.length = z) (hp : partsC σi ps = some xs) (hn : n * z ≤ 16777216) (hn2 : n ≤ 16777216)
    (hf : fillC (fun i => some (i * z, z)) ((zer zs (n * z)).map constX) xs = some cs) (hds : toDs cs = some ds) : OpW P cx ops o σi ⟨.d (.s true n ds), [], [], []⟩ := fun σ a w h1 h2 h3 h4 K Q hK => by
  obtain ⟨μ, hc⟩ := h4
  have hp' := (partsC_same h1 ps (fun p hp => by simp only [ho, Op.operands]; simpa using ⟨p.1, hp⟩)).trans hp
  obtain ⟨us, hrun, hr⟩ := run_lit hc T e z by' n ps zs xs cs hT hz hzl hp' hn hf
  unfold Oper.wp
  simp only [execOp, ho, Sem.run_bind, hrun, Result.andThen_ok, Sem.run_pure, Oper.upon_value]
  exact hK _ _ (conc_slice hc hd e n us ds (by omega) (toDs_rd us cs ds hr hds))
/-- The same as a row of one's own. -/
theorem op_litrow (T e z by' n b : Nat) (ps : List (Nat × Operand)) (zs : List Value) (xs : List (Nat × List Ce)) (cs : List Ce) (ho : o.op = .buildSlice T n ps.toArray) (hd : ∀ d, o.dst = some d → d < cx.N) (hnf : cx.nf b = false) (hT : tEl P T = some (e, z, by')) (hz : tZ P e = some zs) (hzl : zs.length = z) (hp : partsC σi ps = some xs) (hn : n * z ≤ 16777216) (hn2 : n ≤ 16777216)
    (hf : fillC (fun i => some (i * z, z)) ((zer zs (n * z)).map constX) xs = some cs) (hnm : (cs.flatMap Ce.nm).contains b = false) : OpW P cx ops o σi ⟨.c (.row b n), [], [b], [(b, some (.rw e z n cs))]⟩ := fun σ a w h1 h2 h3 h4 K Q hK => by
  obtain ⟨μ, hc⟩ := h4
  have hp' := (partsC_same h1 ps (fun p hp => by simp only [ho, Op.operands]; simpa using ⟨p.1, hp⟩)).trans hp
  obtain ⟨us, hrun, hr⟩ := run_lit hc T e z by' n ps zs xs cs hT hz hzl hp' hn hf
  have hlen : us.length = n * z := by
    rw [hr.1]
    have : ∀ (xs : List (Nat × List Ce)) (c0 c1 : List Ce), fillC (fun i => some (i * z, z)) c0 xs = some c1 → c1.length = c0.length := by
      intro xs
      induction xs with
      | nil => intro c0 c1 h; simp only [fillC, Option.some.injEq] at h; rw [h]
      | cons x xs ih =>
        intro c0 c1 h
        simp only [fillC] at h
        split at h
        · rename_i hh; rw [ih _ _ h, spl_length hh.2]
        · cases h
    rw [this _ _ _ hf]; simp [zer]
  unfold Oper.wp
  simp only [execOp, ho, Sem.run_bind, hrun, Result.andThen_ok, Sem.run_pure, Oper.upon_value]
  refine hK _ _ ?_
  have hb := below_alloc' w (.cells us.toArray e)
  refine conc_obj hc hd b _ _ (.slice (some ⟨w.heap.size, 0, none⟩) n n) _ hnf h3 hb (by simpa [O.nm] using hnm) (.inr rfl) (.c _ _ (.row b n n _ (by omega) (by simp))) fun ok μ1 hok hμ1 hμb => ?_
  refine ⟨_, us, hμb, ⟨hlen, .inr ⟨w.heap.size, n, us.toArray, rfl, hc.below.size, heap_alloc_new w _, Nat.le_refl _, by simp only [maxLen]; omega, by simpa using hlen, by rw [List.take_of_length_le (by simp [hlen])]⟩⟩, hr.keep (fun f k _ hk => hb.block k hk) hok fun y hy => hμ1 y fun e => ?_⟩
  subst e
  simp at hnm
  obtain ⟨c, h6, h7⟩ := List.mem_flatMap.1 hy
  exact hnm c h6 h7

/-- make([]T, n). -/
theorem op_make (T e z by' b n : Nat) (x y : Operand) (k1 k2 : IntKind) (zs : List Value) (cs : List Ce) (ho : o.op = .makeSlice T x y) (hd : ∀ d, o.dst = some d → d < cx.N) (hnf : cx.nf b = false) (hx : SV σi x = .v (.int k1 n)) (hy : SV σi y = .v (.int k2 n)) (hT : tEl P T = some (e, z, by')) (hz : tZ P e = some zs) (hzl : zs.length = z)
    (hn : by' * n ≤ 281474976710656) (hn2 : n ≤ 9223372036854775807) (hcs : (zer zs (n * z)).map constX = cs) : OpW P cx ops o σi ⟨.c (.row b n), [], [b], [(b, some (.rw e z n cs))]⟩ := fun σ a w h1 h2 h3 h4 K Q hK => by
  obtain ⟨μ, hc⟩ := h4
  subst hcs
  have e1 := sv_v hc ((sv_same h1 (x := x) (by simp [ho, Op.operands])).trans hx)
  have e2 := sv_v hc ((sv_same h1 (x := y) (by simp [ho, Op.operands])).trans hy)
  obtain ⟨hu, i, zv, q1, q2, q3, q4, q5, q6⟩ := tEl_zero hT hz
  have hb : (i.bytes : Int) * (n : Int) ≤ 281474976710656 := by
    have h : ((i.bytes * n : Nat) : Int) ≤ 281474976710656 := by rw [q3]; omega
    rwa [Int.natCast_mul] at h
  have hrun := run_make (P := P) w T e i zv hu q1 q4 k1 k2 n n (by omega) (Int.le_refl _) hb (by omega)
  have hmc : madeCells zv.cells (((n : Int)).toNat * i.size) = (zer zs (n * z)).toArray := by
    rw [q5, q2, Int.toNat_natCast]; exact zer_arr zs _
  rw [hmc, Int.toNat_natCast] at hrun
  unfold Oper.wp
  simp only [execOp, ho, e1, e2, Sem.run_bind, hrun, Result.andThen_ok, Sem.run_pure, Oper.upon_value]
  refine hK _ _ ?_
  have hone := zer_one (zs := zs) (k := n * z) q6 fun h => by rw [hzl]; exact Nat.pos_of_ne_zero fun e => by simp [e] at h
  have hnil : ∀ (c : Ce), c ∈ (zer zs (n * z)).map constX → c.nm = [] := by
    intro c hcm
    obtain ⟨u, _, rfl⟩ := List.mem_map.1 hcm
    unfold constX; split <;> rfl
  have hnm : b ∉ (O.rw e z n ((zer zs (n * z)).map constX)).nm := by
    simp only [O.nm, List.mem_flatMap, not_exists, not_and]
    intro c hcm; rw [hnil c hcm]; simp
  have hlen : (zer zs (n * z)).length = n * z := by simp [zer]
  refine conc_obj hc hd b _ _ (.slice (some ⟨w.heap.size, 0, none⟩) n n) _ hnf h3 (below_alloc' w _) hnm (.inr rfl) (.c _ _ (.row b n n _ hn2 (by simp))) fun ok μ1 hok hμ1 hμb => ?_
  exact ⟨_, zer zs (n * z), hμb, ⟨hlen, .inr ⟨w.heap.size, n, (zer zs (n * z)).toArray, rfl, hc.below.size, heap_alloc_new w _, Nat.le_refl _, by simp only [maxLen]; omega, by simpa using hlen, by rw [List.take_of_length_le (by simp [hlen])]⟩⟩, rdl_zero hone⟩

end
end Go.Fl
