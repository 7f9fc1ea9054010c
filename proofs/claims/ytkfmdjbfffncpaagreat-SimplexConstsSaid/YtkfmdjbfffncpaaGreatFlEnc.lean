/- Lists of numbers and of structs as data; rows of them. -/
import Derived.Test.YtkfmdjbfffncpaaGreatFlInt
set_option linter.unusedVariables false
namespace Go.Fl
open Go.RowKit

/-- A slice of whole numbers of a kind. -/
def encI (k : IntKind) (f : Bool) (xs : List Int) : D := .s f xs.length (xs.map fun x => .v (.int k x))
theorem encI_lo (k : IntKind) (f : Bool) (xs : List Int) : (encI k f xs).lo = encI k false xs := by
  simp [encI, D.lo, los_eq, Function.comp_def]
/-- A slice of structs. -/
def encS {α : Type} (enc : α → List D) (f : Bool) (l : List α) : D := .s f l.length (l.flatMap enc)
/-- Cells of a row of numbers, of structs. -/
def ceI (k : IntKind) (xs : List Int) : List Ce := xs.map fun x => .one (.v (.int k x))
def ceS {α : Type} (enc : α → List D) (l : List α) : List Ce := (l.flatMap enc).map .one

theorem flat_length {α : Type} {enc : α → List D} {z : Nat} (hz : ∀ x, (enc x).length = z) (l : List α) : (l.flatMap enc).length = l.length * z := by
  induction l with
  | nil => simp
  | cons x l ih => rw [List.flatMap_cons, List.length_append, hz, ih, List.length_cons, Nat.add_mul, Nat.one_mul, Nat.add_comm]
theorem flat_drop {α : Type} {enc : α → List D} {z : Nat} (hz : ∀ x, (enc x).length = z) (l : List α) (i : Nat) : (l.flatMap enc).drop (i * z) = (l.drop i).flatMap enc := by
  induction l generalizing i with
  | nil => simp
  | cons x l ih =>
    cases i with
    | zero => simp
    | succ i =>
      rw [List.flatMap_cons, Nat.add_mul, Nat.one_mul, List.drop_succ_cons, ← ih i, Nat.add_comm, ← List.drop_drop]
      rw [List.drop_left' (hz x)]
theorem flat_take {α : Type} {enc : α → List D} {z : Nat} (hz : ∀ x, (enc x).length = z) (l : List α) (i : Nat) : (l.flatMap enc).take (i * z) = (l.take i).flatMap enc := by
  induction l generalizing i with
  | nil => simp
  | cons x l ih =>
    cases i with
    | zero => simp
    | succ i =>
      rw [List.flatMap_cons, List.take_succ_cons, List.flatMap_cons, ← ih i, Nat.add_mul, Nat.one_mul, Nat.add_comm (i * z) z, ← hz x, List.take_length_add_append]
theorem drop_getD {α : Type} [Inhabited α] (l : List α) (i : Nat) (h : i < l.length) : l.drop i = l.getD i default :: l.drop (i + 1) := by
  rw [List.drop_eq_getElem_cons h, List.getD_eq_getElem?_getD, List.getElem?_eq_getElem h]; rfl

section
variable {P : Program} {cx : Cx} {ops : Array Oper} {o : Oper} {σi : St}

theorem op_len_I (x : Operand) (T : TypeId) (k : IntKind) (f : Bool) (xs : List Int) (e z by' : Nat) (ho : o.op = .call { callee := .builtin .len, args := #[x], argTypes := #[T] }) (hd : ∀ d, o.dst = some d → d < cx.N) (hx : SV σi x = .d (encI k f xs)) (hT : tEl P T = some (e, z, by')) :
    OpW P cx ops o σi ⟨.v (.int .i64 xs.length), [], [], []⟩ := op_len x T f _ _ e z by' ho hd hx hT
theorem op_index_I (T : TypeId) (x ix : Operand) (kk : IntKind) (f : Bool) (e by' : Nat) (xs : List Int) (k : IntKind) (i : Int) (ho : o.op = .indexAddr T x ix) (hd : ∀ d, o.dst = some d → d < cx.N) (hx : SV σi x = .d (encI kk f xs)) (hi : SV σi ix = .v (.int k i))
    (hT : tEl P T = some (e, 1, by')) (h0 : 0 ≤ i) (h1 : i < xs.length) : OpW P cx ops o σi ⟨.d (.e f (.v (.int kk (xs.getD i.toNat 0)) :: (xs.drop (i.toNat + 1)).map fun x => .v (.int kk x))), [], [], []⟩ := by
  have h := op_index (P := P) (cx := cx) (ops := ops) (σi := σi) T x ix f _ e 1 by' _ k i ho hd hx hi hT h0 h1 (by simp; omega)
  have e1 : (xs.map fun x => D.v (.int kk x)).drop (i.toNat * 1) = .v (.int kk (xs.getD i.toNat 0)) :: (xs.drop (i.toNat + 1)).map fun x => .v (.int kk x) := by
    rw [Nat.mul_one, ← List.map_drop]
    have : xs.drop i.toNat = xs.getD i.toNat 0 :: xs.drop (i.toNat + 1) := by
      rw [List.drop_eq_getElem_cons (by omega), List.getD_eq_getElem?_getD, List.getElem?_eq_getElem (by omega)]; rfl
    rw [this]; rfl
  rw [e1] at h
  exact h
theorem op_index_S {α : Type} [Inhabited α] {enc : α → List D} (T : TypeId) (x ix : Operand) (f : Bool) (e z by' : Nat) (l : List α) (k : IntKind) (i : Int) (hz : ∀ x, (enc x).length = z) (hz0 : 0 < z) (ho : o.op = .indexAddr T x ix) (hd : ∀ d, o.dst = some d → d < cx.N) (hx : SV σi x = .d (encS enc f l)) (hi : SV σi ix = .v (.int k i))
    (hT : tEl P T = some (e, z, by')) (h0 : 0 ≤ i) (h1 : i < l.length) : OpW P cx ops o σi ⟨.d (.e f (enc (l.getD i.toNat default) ++ (l.drop (i.toNat + 1)).flatMap enc)), [], [], []⟩ := by
  have hlt : i.toNat < l.length := by omega
  have h := op_index (P := P) (cx := cx) (ops := ops) (σi := σi) T x ix f _ e z by' _ k i ho hd hx hi hT h0 h1 (by rw [flat_length hz]; exact Nat.mul_lt_mul_of_pos_right hlt hz0)
  rw [flat_drop hz, drop_getD l _ hlt, List.flatMap_cons] at h
  exact h
theorem op_eload_agg' (T : TypeId) (x : Operand) (f : Bool) (z : Nat) (ds cs : List D) (ho : o.op = .load T x) (hd : ∀ d, o.dst = some d → d < cx.N) (hx : SV σi x = .d (.e f ds))
    (hs : tSz P T = some (z, true)) (hcs : ds.take z = cs) (hl : cs.length = z) : OpW P cx ops o σi ⟨.agg (cs.map .one), [], [], []⟩ :=
  op_eload_agg T x f ds cs ho hd hx (by rw [hl]; exact hs) (by rw [hl]; exact hcs)
theorem op_load_agg' (T : TypeId) (x : Operand) (b off z : Nat) (ob : O) (cs : List Ce) (ho : o.op = .load T x) (hd : ∀ d, o.dst = some d → d < cx.N) (hx : SV σi x = .c (.ptr b off)) (hb : σi.B b = some ob)
    (hs : tSz P T = some (z, true)) (hcs : (ob.cells.drop off).take z = cs) (hl : cs.length = z) : OpW P cx ops o σi ⟨.agg cs, [b], [], []⟩ :=
  op_load_agg T x b off ob cs ho hd hx hb (by rw [hl]; exact hs) (by rw [hl]; exact hcs)

/-! ### Rows of numbers -/
theorem ceI_nm (k : IntKind) (xs : List Int) : (ceI k xs).flatMap Ce.nm = [] := by
  simp [ceI, List.flatMap_map, Ce.nm]
theorem ceI_length (k : IntKind) (xs : List Int) : (ceI k xs).length = xs.length := by simp [ceI]
theorem zer_replicate (v : Value) (n : Nat) : zer [v] n = List.replicate n v := by
  apply List.ext_getElem
  · simp [zer]
  · intro i h1 h2
    simp [zer, Nat.mod_one]
theorem op_make_I (T e by' b n : Nat) (x y : Operand) (k k1 k2 : IntKind) (i : Int) (ho : o.op = .makeSlice T x y) (hd : ∀ d, o.dst = some d → d < cx.N) (hnf : cx.nf b = false) (hx : SV σi x = .v (.int k1 i)) (hy : SV σi y = .v (.int k2 i)) (hT : tEl P T = some (e, 1, by')) (hz : tZ P e = some [.int k 0])
    (hi : i = n) (hn : by' * n ≤ 281474976710656) (hn2 : n ≤ 9223372036854775807) : OpW P cx ops o σi ⟨.c (.row b n), [], [b], [(b, some (.rw e 1 n (ceI k (List.replicate n 0))))]⟩ := by
  subst hi
  refine op_make T e 1 by' b n x y k1 k2 _ _ ho hd hnf hx hy hT hz rfl hn hn2 ?_
  rw [Nat.mul_one, zer_replicate]
  simp [ceI, constX]
theorem op_rindex_I (T : TypeId) (x ix : Operand) (b n E e by' : Nat) (kk : IntKind) (xs : List Int) (k : IntKind) (i : Int) (ho : o.op = .indexAddr T x ix) (hd : ∀ d, o.dst = some d → d < cx.N) (hx : SV σi x = .c (.row b n)) (hi : SV σi ix = .v (.int k i)) (hb : σi.B b = some (.rw E 1 n (ceI kk xs)))
    (hT : tEl P T = some (e, 1, by')) (h0 : 0 ≤ i) (h1 : i < n) : OpW P cx ops o σi ⟨.c (.ptr b i.toNat), [b], [], []⟩ := by
  have h := op_rindex (P := P) (cx := cx) (ops := ops) (σi := σi) T x ix b n n E e 1 1 by' _ k i ho hd hx hi hb hT h0 h1
  rw [Nat.mul_one] at h
  exact h
theorem op_rload_I (T : TypeId) (x : Operand) (b off n E : Nat) (kk : IntKind) (xs : List Int) (ho : o.op = .load T x) (hd : ∀ d, o.dst = some d → d < cx.N) (hx : SV σi x = .c (.ptr b off)) (hb : σi.B b = some (.rw E 1 n (ceI kk xs)))
    (hs : tSz P T = some (1, false)) (hl : off < xs.length) : OpW P cx ops o σi ⟨.v (.int kk (xs.getD off 0)), [b], [], []⟩ :=
  op_load T x b off _ _ ho hd hx hb hs (by
    simp only [O.cells, ceI, List.getElem?_map, List.getElem?_eq_getElem hl, Option.map_some, List.getD_eq_getElem?_getD, Option.getD_some])
theorem op_rstore_I (T : TypeId) (x y : Operand) (b off n E : Nat) (kk : IntKind) (xs : List Int) (v : Int) (ho : o.op = .store T x y) (hd : o.dst = none) (hx : SV σi x = .c (.ptr b off)) (hy : SV σi y = .v (.int kk v)) (hb : σi.B b = some (.rw E 1 n (ceI kk xs))) (hs : tSz P T = some (1, false)) (hl : off < xs.length) :
    OpW P cx ops o σi ⟨.c .junk, [b], [], [(b, some (.rw E 1 n (ceI kk (xs.set off v))))]⟩ := by
  refine op_store T x y b off _ (.one (.v (.int kk v))) _ ho hd hx hy (by simp) hb hs (by simp only [O.cells, ceI_length]; omega) ?_
  simp only [O.put, O.cells]
  congr 1
  apply List.ext_getElem?
  intro j
  rw [spl_get (by simp only [ceI_length, List.length_singleton]; omega)]
  simp only [List.length_singleton, ceI, List.getElem?_map]
  by_cases hj : j = off
  · subst hj
    rw [if_pos ⟨by omega, by omega⟩, Nat.sub_self, List.getElem?_set_self hl]; rfl
  · rw [if_neg (by omega), List.getElem?_set_ne (by omega)]
/-- A row of numbers handed on as data. -/
theorem toDs_ceI (k : IntKind) (xs : List Int) : toDs (ceI k xs) = some (xs.map fun x => .v (.int k x)) := by
  induction xs with
  | nil => rfl
  | cons x xs ih =>
    have : ceI k (x :: xs) = .one (.v (.int k x)) :: ceI k xs := rfl
    rw [this, toDs, toD, ih]; rfl
end
end Go.Fl
