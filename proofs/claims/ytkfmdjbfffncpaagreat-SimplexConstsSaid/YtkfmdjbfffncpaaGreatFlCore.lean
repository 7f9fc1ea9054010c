/-
  A small logic for functions that only compute: values are read as abstract data (D); a function's own variables and rows are objects with names;
  a state gives each slot its abstract value. This text: the data, the states, what they mean in a world.
-/
import Derived.Below
import Derived.Orders
import Derived.Tactics
import Derived.Laws.AppendOwn
import Derived.Deep.MidRow
import Derived.Deep.Draws
set_option linter.unusedVariables false
namespace Go.Fl
open Go.RowKit

/-! ### Data -/
/-- What one cell of memory, or a value, is read as: a plain value; a slice (made by this very call: f), its elements and their cells; the address of cells that are only read. -/
inductive D where
  | v (x : Value)
  | s (f : Bool) (n : Nat) (cs : List D)
  | e (f : Bool) (cs : List D)
instance : Inhabited D := ⟨.v (.bool false)⟩

/-- The value reads as this; what is read lies in blocks that 'ok' allows. -/
inductive Rd (w : World) (ok : Bool → Nat → Prop) : Value → D → Prop
  | v (x : Value) (h1 : x.oneCell' = true) : Rd w ok x (.v x)
  | s (f : Bool) (A : Option Addr) (n c : Nat) (ad : Addr) (us : List Value) (cs : List D) (hn : n ≤ c) (hm : c ≤ 9223372036854775807) (hA : 0 < cs.length → A = some ad) (hl : us.length = cs.length) (hok : 0 < cs.length → ok f ad.block)
      (hc : ∀ (j : Nat) (u : Value), us[j]? = some u → w.cell? (ad.add j) = some u) (hr : ∀ (j : Nat) (u : Value) (d : D), us[j]? = some u → cs[j]? = some d → Rd w ok u d) : Rd w ok (.slice A n c) (.s f n cs)
  | e (f : Bool) (ad : Addr) (us : List Value) (cs : List D) (hl : us.length = cs.length) (hok : 0 < cs.length → ok f ad.block)
      (hc : ∀ (j : Nat) (u : Value), us[j]? = some u → w.cell? (ad.add j) = some u) (hr : ∀ (j : Nat) (u : Value) (d : D), us[j]? = some u → cs[j]? = some d → Rd w ok u d) : Rd w ok (.pointer (some ad)) (.e f cs)

theorem add_block (a : Addr) (n : Nat) : (a.add n).block = a.block := by unfold Addr.add; split <;> rfl
theorem add_add' (a : Addr) (m n : Nat) : (a.add m).add n = a.add (m + n) := by
  unfold Addr.add
  by_cases h1 : m = 0 <;> by_cases h2 : n = 0 <;> simp [h1, h2]
  omega

theorem cell_keep {w w1 : World} {ad : Addr} {u : Value} {j : Nat} (h : w.cell? (ad.add j) = some u) (hk : w1.heap[ad.block]? = w.heap[ad.block]?) : w1.cell? (ad.add j) = some u := by
  rw [← h]; exact World.cell?_of_block (by rw [add_block]; exact hk)

theorem Rd.keep {w w1 : World} {ok ok1 : Bool → Nat → Prop} {x : Value} {d : D} (hw : ∀ f k, ok f k → k < w.heap.size → w1.heap[k]? = w.heap[k]?) (ho : ∀ f k, ok f k → k < w.heap.size → ok1 f k) (h : Rd w ok x d) : Rd w1 ok1 x d := by
  have lt : ∀ {ad : Addr} {us : List Value}, (∀ (j : Nat) (u : Value), us[j]? = some u → w.cell? (ad.add j) = some u) → 0 < us.length → ad.block < w.heap.size := by
    intro ad us hc h0
    have := World.block_lt_of_cell? _ _ (hc 0 _ (List.getElem?_eq_getElem h0))
    rwa [add_block] at this
  induction h with
  | v x h1 => exact .v x h1
  | s f A n c ad us cs hn hm hA hl hok hc hr ih =>
    refine .s f A n c ad us cs hn hm hA hl (fun h0 => ho _ _ (hok h0) (lt hc (by omega))) (fun j u hj => ?_) ih
    have h0 : 0 < us.length := by have := (List.getElem?_eq_some_iff.1 hj).1; omega
    exact cell_keep (hc j u hj) (hw f _ (hok (by omega)) (lt hc h0))
  | e f ad us cs hl hok hc hr ih =>
    refine .e f ad us cs hl (fun h0 => ho _ _ (hok h0) (lt hc (by omega))) (fun j u hj => ?_) ih
    have h0 : 0 < us.length := by have := (List.getElem?_eq_some_iff.1 hj).1; omega
    exact cell_keep (hc j u hj) (hw f _ (hok (by omega)) (lt hc h0))

theorem Rd.oneCell {w : World} {ok : Bool → Nat → Prop} {x : Value} {d : D} (h : Rd w ok x d) : x.oneCell' = true := by
  cases h <;> first | assumption | rfl

/-! ### What slots and cells of own variables hold -/
/-- A cell's abstract value: data; the address of a cell of an object with a name; a row with a name; the nil slice; nothing known. -/
inductive Cp where
  | d (d : D)
  | agg (ds : List D)
  | ptr (b o : Nat)
  | mp (b : Nat)
/-- A cell (fn: a function with what it has bound ahead of its arguments, and captured; mp: a map of one's own). -/
inductive Ce where
  | one (d : D)
  | ptr (b o : Nat)
  | row (b n : Nat)
  | fn (f : FuncId) (ps qs : List Cp)
  | mp (b : Nat)
  | sl (b o n : Nat)
  | nil
  | junk
instance : Inhabited Ce := ⟨.junk⟩
/-- One of several results. -/
inductive X where
  | c (x : Ce)
  | agg (cs : List Ce)
instance : Inhabited X := ⟨.c .junk⟩
/-- A slot's abstract value: one cell; a struct by value; several results. -/
inductive AV where
  | c (x : Ce)
  | agg (cs : List Ce)
  | tup (xs : List X)
instance : Inhabited AV := ⟨.c .junk⟩
abbrev AV.d (d : D) : AV := .c (.one d)
abbrev AV.v (x : Value) : AV := .c (.one (.v x))
def X.av : X → AV
  | .c x => .c x
  | .agg cs => .agg cs

def Cp.nm : Cp → List Nat
  | .ptr b _ => [b]
  | .mp b => [b]
  | _ => []
def Ce.nm : Ce → List Nat
  | .ptr b _ => [b]
  | .row b _ => [b]
  | .fn _ ps qs => (ps ++ qs).flatMap Cp.nm
  | .sl b _ _ => [b]
  | .mp b => [b]
  | _ => []
def X.nm : X → List Nat
  | .c x => x.nm
  | .agg cs => cs.flatMap Ce.nm
def AV.nm : AV → List Nat
  | .c x => x.nm
  | .agg cs => cs.flatMap Ce.nm
  | .tup xs => xs.flatMap X.nm

/-- The block at whose head an object lies. -/
def hd0 : Value → Option Nat
  | .pointer (some ⟨g, 0, none⟩) => some g
  | .slice (some ⟨g, 0, none⟩) _ _ => some g
  | _ => none
inductive RdCp (w : World) (ok : Bool → Nat → Prop) (μ : Nat → Option Value) : Value → Cp → Prop
  | d (v : Value) (d : D) (h : Rd w ok v d) : RdCp w ok μ v (.d d)
  | agg (us : List Value) (ds : List D) (hl : us.length = ds.length) (h : ∀ (j : Nat) (u : Value) (d : D), us[j]? = some u → ds[j]? = some d → Rd w ok u d) : RdCp w ok μ (.agg us.toArray) (.agg ds)
  | ptr (b o g : Nat) (y : Value) (h : μ b = some y) (hg : hd0 y = some g) : RdCp w ok μ (.pointer (some ⟨g, o, none⟩)) (.ptr b o)
  | mp (b g : Nat) (h : μ b = some (.map (some g))) : RdCp w ok μ (.map (some g)) (.mp b)
def RdCps (w : World) (ok : Bool → Nat → Prop) (μ : Nat → Option Value) (us : List Value) (ps : List Cp) : Prop :=
  us.length = ps.length ∧ ∀ (j : Nat) (u : Value) (p : Cp), us[j]? = some u → ps[j]? = some p → RdCp w ok μ u p
inductive RdC (w : World) (ok : Bool → Nat → Prop) (μ : Nat → Option Value) : Value → Ce → Prop
  | one (v : Value) (d : D) (h : Rd w ok v d) : RdC w ok μ v (.one d)
  | ptr (b o g : Nat) (y : Value) (h : μ b = some y) (hg : hd0 y = some g) : RdC w ok μ (.pointer (some ⟨g, o, none⟩)) (.ptr b o)
  | row (b n c : Nat) (A : Option Addr) (hm : n ≤ 9223372036854775807) (h : μ b = some (.slice A n c)) : RdC w ok μ (.slice A n c) (.row b n)
  | fn (f : FuncId) (ps qs : List Cp) (us vs : List Value) (h1 : RdCps w ok μ us ps) (h2 : RdCps w ok μ vs qs) : RdC w ok μ (.func (.func f) us.toArray vs.toArray) (.fn f ps qs)
  | mp (b g : Nat) (h : μ b = some (.map (some g))) : RdC w ok μ (.map (some g)) (.mp b)
  | sl (b o n c g N C : Nat) (hn : n ≤ c) (hm : c ≤ 9223372036854775807) (h : μ b = some (.slice (some ⟨g, 0, none⟩) N C)) : RdC w ok μ (.slice (some ⟨g, o, none⟩) n c) (.sl b o n)
  | nil : RdC w ok μ (.slice none 0 0) .nil
  | junk (v : Value) (h1 : v.oneCell' = true) : RdC w ok μ v .junk
/-- Cells, one by one. -/
def RdL (w : World) (ok : Bool → Nat → Prop) (μ : Nat → Option Value) (us : List Value) (cs : List Ce) : Prop :=
  us.length = cs.length ∧ ∀ (j : Nat) (u : Value) (x : Ce), us[j]? = some u → cs[j]? = some x → RdC w ok μ u x
inductive RdX (w : World) (ok : Bool → Nat → Prop) (μ : Nat → Option Value) : Value → X → Prop
  | c (v : Value) (x : Ce) (h : RdC w ok μ v x) : RdX w ok μ v (.c x)
  | agg (us : List Value) (cs : List Ce) (h : RdL w ok μ us cs) : RdX w ok μ (.agg us.toArray) (.agg cs)
inductive RdA (w : World) (ok : Bool → Nat → Prop) (μ : Nat → Option Value) : Value → AV → Prop
  | c (v : Value) (x : Ce) (h : RdC w ok μ v x) : RdA w ok μ v (.c x)
  | agg (us : List Value) (cs : List Ce) (h : RdL w ok μ us cs) : RdA w ok μ (.agg us.toArray) (.agg cs)
  | tup (us : List Value) (xs : List X) (hl : us.length = xs.length) (h : ∀ (j : Nat) (u : Value) (x : X), us[j]? = some u → xs[j]? = some x → RdX w ok μ u x) : RdA w ok μ (.tuple us.toArray) (.tup xs)
  | none (v : Value) : RdA w ok μ v (.c .junk)

theorem RdC.oneCell {w : World} {ok : Bool → Nat → Prop} {μ : Nat → Option Value} {v : Value} {x : Ce} (h : RdC w ok μ v x) : v.oneCell' = true := by
  cases h <;> first | (rename_i h; exact Rd.oneCell h) | rfl | assumption

theorem RdCp.nm_some {w : World} {ok : Bool → Nat → Prop} {μ : Nat → Option Value} {v : Value} {p : Cp} (h : RdCp w ok μ v p) : ∀ b ∈ p.nm, (μ b).isSome = true := by
  cases h with
  | ptr b o g y h hg => simp [Cp.nm, h]
  | mp b g h => simp [Cp.nm, h]
  | _ => simp [Cp.nm]
theorem RdCps.nm_some {w : World} {ok : Bool → Nat → Prop} {μ : Nat → Option Value} {us : List Value} {ps : List Cp} (h : RdCps w ok μ us ps) : ∀ b ∈ ps.flatMap Cp.nm, (μ b).isSome = true := by
  intro b hb
  obtain ⟨y, hy, hx⟩ := List.mem_flatMap.1 hb
  obtain ⟨j, hj, rfl⟩ := List.mem_iff_getElem.1 hy
  have hj2 : j < us.length := by rw [h.1]; exact hj
  exact (h.2 j _ _ (List.getElem?_eq_getElem hj2) (List.getElem?_eq_getElem hj)).nm_some b hx
theorem RdC.nm_some {w : World} {ok : Bool → Nat → Prop} {μ : Nat → Option Value} {v : Value} {x : Ce} (h : RdC w ok μ v x) : ∀ b ∈ x.nm, (μ b).isSome = true := by
  cases h with
  | ptr b o g y h hg => simp [Ce.nm, h]
  | row b n c A hm h => simp [Ce.nm, h]
  | mp b g h => simp [Ce.nm, h]
  | sl b o n c g N C hn hm h => simp [Ce.nm, h]
  | fn f ps qs us vs h1 h2 =>
    intro b hb
    simp only [Ce.nm, List.flatMap_append, List.mem_append] at hb
    exact hb.elim (h1.nm_some b) (h2.nm_some b)
  | _ => simp [Ce.nm]
theorem RdL.nm_some {w : World} {ok : Bool → Nat → Prop} {μ : Nat → Option Value} {us : List Value} {cs : List Ce} (h : RdL w ok μ us cs) : ∀ b ∈ cs.flatMap Ce.nm, (μ b).isSome = true := by
  intro b hb
  obtain ⟨y, hy, hx⟩ := List.mem_flatMap.1 hb
  obtain ⟨j, hj, rfl⟩ := List.mem_iff_getElem.1 hy
  have hj2 : j < us.length := by rw [h.1]; exact hj
  exact (h.2 j _ _ (List.getElem?_eq_getElem hj2) (List.getElem?_eq_getElem hj)).nm_some b hx
theorem RdX.nm_some {w : World} {ok : Bool → Nat → Prop} {μ : Nat → Option Value} {v : Value} {x : X} (h : RdX w ok μ v x) : ∀ b ∈ x.nm, (μ b).isSome = true := by
  cases h with
  | c _ _ h => exact h.nm_some
  | agg _ _ h => exact h.nm_some
theorem RdA.nm_some {w : World} {ok : Bool → Nat → Prop} {μ : Nat → Option Value} {v : Value} {x : AV} (h : RdA w ok μ v x) : ∀ b ∈ x.nm, (μ b).isSome = true := by
  cases h with
  | c _ _ h => exact h.nm_some
  | agg _ _ h => exact h.nm_some
  | tup us xs hl h =>
    intro b hb
    obtain ⟨y, hy, hx⟩ := List.mem_flatMap.1 hb
    obtain ⟨j, hj, rfl⟩ := List.mem_iff_getElem.1 hy
    exact (h j _ _ (List.getElem?_eq_getElem (by omega)) (List.getElem?_eq_getElem hj)).nm_some b hx
  | none => simp [AV.nm, Ce.nm]

section
variable {w w1 : World} {ok ok1 : Bool → Nat → Prop} {μ μ1 : Nat → Option Value} (hw : ∀ f k, ok f k → k < w.heap.size → w1.heap[k]? = w.heap[k]?) (ho : ∀ f k, ok f k → k < w.heap.size → ok1 f k)
include hw ho
theorem RdCp.keep {v : Value} {p : Cp} (hμ : ∀ b ∈ p.nm, μ1 b = μ b) (h : RdCp w ok μ v p) : RdCp w1 ok1 μ1 v p := by
  cases h with
  | d v d h => exact .d v d (h.keep hw ho)
  | agg us ds hl h => exact .agg us ds hl fun j u d h1 h2 => (h j u d h1 h2).keep hw ho
  | ptr b o g y h hg => exact .ptr b o g y ((hμ b (by simp [Cp.nm])).trans h) hg
  | mp b g h => exact .mp b g ((hμ b (by simp [Cp.nm])).trans h)
theorem RdCps.keep {us : List Value} {ps : List Cp} (hμ : ∀ b ∈ ps.flatMap Cp.nm, μ1 b = μ b) (h : RdCps w ok μ us ps) : RdCps w1 ok1 μ1 us ps :=
  ⟨h.1, fun j u p h1 h2 => (h.2 j u p h1 h2).keep hw ho fun b hb => hμ b (List.mem_flatMap.2 ⟨p, List.mem_of_getElem? h2, hb⟩)⟩
theorem RdC.keep {v : Value} {x : Ce} (hμ : ∀ b ∈ x.nm, μ1 b = μ b) (h : RdC w ok μ v x) : RdC w1 ok1 μ1 v x := by
  cases h with
  | one v d h => exact .one v d (h.keep hw ho)
  | ptr b o g y h hg => exact .ptr b o g y ((hμ b (by simp [Ce.nm])).trans h) hg
  | row b n c A hm h => exact .row b n c A hm ((hμ b (by simp [Ce.nm])).trans h)
  | fn f ps qs us vs h1 h2 => exact .fn f ps qs us vs (h1.keep hw ho fun b hb => hμ b (by simp only [Ce.nm, List.flatMap_append, List.mem_append]; exact .inl hb)) (h2.keep hw ho fun b hb => hμ b (by simp only [Ce.nm, List.flatMap_append, List.mem_append]; exact .inr hb))
  | mp b g h => exact .mp b g ((hμ b (by simp [Ce.nm])).trans h)
  | sl b o n c g N C hn hm h => exact .sl b o n c g N C hn hm ((hμ b (by simp [Ce.nm])).trans h)
  | nil => exact .nil
  | junk v h1 => exact .junk v h1
theorem RdL.keep {us : List Value} {cs : List Ce} (hμ : ∀ b ∈ cs.flatMap Ce.nm, μ1 b = μ b) (h : RdL w ok μ us cs) : RdL w1 ok1 μ1 us cs :=
  ⟨h.1, fun j u x h1 h2 => (h.2 j u x h1 h2).keep hw ho fun b hb => hμ b (List.mem_flatMap.2 ⟨x, List.mem_of_getElem? h2, hb⟩)⟩
theorem RdX.keep {v : Value} {x : X} (hμ : ∀ b ∈ x.nm, μ1 b = μ b) (h : RdX w ok μ v x) : RdX w1 ok1 μ1 v x := by
  cases h with
  | c v x h => exact .c v x (h.keep hw ho hμ)
  | agg us cs h => exact .agg us cs (h.keep hw ho hμ)
theorem RdA.keep {v : Value} {x : AV} (hμ : ∀ b ∈ x.nm, μ1 b = μ b) (h : RdA w ok μ v x) : RdA w1 ok1 μ1 v x := by
  cases h with
  | c v x h => exact .c v x (h.keep hw ho hμ)
  | agg us cs h => exact .agg us cs (h.keep hw ho hμ)
  | tup us xs hl h => exact .tup us xs hl fun j u y h1 h2 => (h j u y h1 h2).keep hw ho fun b hb => hμ b (List.mem_flatMap.2 ⟨y, List.mem_of_getElem? h2, hb⟩)
  | none v => exact .none v
end

/-- An own variable (type, cells), or a row of one's own (element type, cells of an element, elements, cells). -/
inductive O where
  | bx (T : TypeId) (cs : List Ce)
  | rw (E z n : Nat) (cs : List Ce)
  /-- A map: keys, when they came, values; the clock. -/
  | mp (es : List (Value × Nat × Ce)) (clock : Nat)
  /-- What goes through a map. -/
  | it (m since : Nat) (seen : List Nat) (last : Nat)
  | itn
def O.nm : O → List Nat
  | .bx _ cs => cs.flatMap Ce.nm
  | .rw _ _ _ cs => cs.flatMap Ce.nm
  | .mp es _ => (es.map (·.2.2)).flatMap Ce.nm
  | .it m _ _ _ => [m]
  | .itn => []

def blk : Value → Option Nat
  | .pointer (some a) => some a.block
  | .slice (some a) _ _ => some a.block
  | .map (some r) => some r
  | _ => none
/-- A map's entries. -/
def ents (es : List (Value × Nat × Ce)) (vs : List Value) : List MapEntry := (es.zip vs).map fun p => ⟨p.1.1, p.2, p.1.2.1⟩

def RdO (base : Nat) (w : World) (ok : Bool → Nat → Prop) (μ : Nat → Option Value) (b : Nat) : O → Prop
  | .bx T cs => ∃ (g : Nat) (us : List Value), μ b = some (.pointer (some ⟨g, 0, none⟩)) ∧ base ≤ g ∧ w.heap[g]? = some (.cells us.toArray T (0, 0)) ∧ RdL w ok μ us cs
  | .rw E z n cs => ∃ (v : Value) (us : List Value), μ b = some v ∧ w.ownsRow base E z v n us ∧ RdL w ok μ us cs
  | .mp es clock => ∃ (g : Nat) (vs : List Value), μ b = some (.map (some g)) ∧ base ≤ g ∧ w.heap[g]? = some (.map (ents es vs).toArray clock) ∧ RdL w ok μ vs (es.map (·.2.2))
  | .it m since seen last => ∃ (g gm : Nat), μ b = some (.pointer (some ⟨g, 0, none⟩)) ∧ base ≤ g ∧ μ m = some (.map (some gm)) ∧ w.heap[g]? = some (.mapIter (some gm) since seen.toArray last)
  | .itn => ∃ (g : Nat), μ b = some (.pointer (some ⟨g, 0, none⟩)) ∧ base ≤ g ∧ w.heap[g]? = some (.mapIter none 0 #[] 0)

/-! ### States -/
structure St where
  S : Nat → AV
  B : Nat → Option O
structure Cx where
  w0 : World
  okC : Nat → Prop
  N : Nat
  /-- Blocks that must stay as they are in this world; blocks that nothing may be read from; names that say what they said. -/
  w1 : World
  fx : Nat → Prop
  bad : Nat → Prop
  nf : Nat → Bool
  μ0 : Nat → Option Value
/-- Where nothing more must stay. -/
abbrev Cx.top (w0 : World) (okC : Nat → Prop) (N : Nat) : Cx := ⟨w0, okC, N, w0, fun _ => False, fun _ => False, fun _ => false, fun _ => none⟩

def okOf (cx : Cx) (σ : St) (μ : Nat → Option Value) (f : Bool) (k : Nat) : Prop :=
  (cx.w0.heap.size ≤ k ∨ (f = false ∧ cx.okC k)) ∧ ¬ cx.bad k ∧ ∀ b v, (σ.B b).isSome = true → μ b = some v → blk v ≠ some k

structure Conc (cx : Cx) (σ : St) (μ : Nat → Option Value) (a : Act) (w : World) : Prop where
  defers : a.defers = []
  size : a.tmps.size = cx.N
  below : Below cx.w0.heap.size cx.w0 w
  slots : ∀ t, RdA w (okOf cx σ μ) μ (a.tmps.getD t undef) (σ.S t)
  objs : ∀ b o, σ.B b = some o → RdO cx.w0.heap.size w (okOf cx σ μ) μ b o
  apart : ∀ b b' v v' k, (σ.B b).isSome = true → (σ.B b').isSome = true → μ b = some v → μ b' = some v' → blk v = some k → blk v' = some k → b = b'
  fixed : ∀ k, cx.fx k → k < w.heap.size ∧ w.heap[k]? = cx.w1.heap[k]?
  unfix : ∀ b v k, (σ.B b).isSome = true → μ b = some v → blk v = some k → ¬ cx.fx k
  badfx : ∀ k, cx.bad k → cx.fx k
  named : ∀ b, cx.nf b = true → μ b = cx.μ0 b
def Con (cx : Cx) (σ : St) (a : Act) (w : World) : Prop := ∃ μ, Conc cx σ μ a w

/-! ### One operation's outcome -/
/-- What the operation's slot holds; objects that it looks at; names that it gives; objects as they are behind it. -/
structure Ev where
  av : AV
  rd : List Nat := []
  nw : List Nat := []
  ef : List (Nat × Option O) := []
def Ev.uS (dst : Option Nat) (ev : Ev) (t : Nat) : Option AV := if dst = some t then some ev.av else none
def Ev.uB (ev : Ev) (b : Nat) : Option (Option O) := ev.ef.lookup b
def St.app (σ : St) (dst : Option Nat) (ev : Ev) : St := ⟨fun t => (ev.uS dst t).getD (σ.S t), fun b => (ev.uB b).getD (σ.B b)⟩

/-- The names are free: no object bears one, nothing but the operation's own slot mentions one. -/
def Free (σ : St) (dst : Option Nat) (mk : List Nat) : Prop := ∀ b ∈ mk, σ.B b = none ∧ (∀ t, dst ≠ some t → b ∉ (σ.S t).nm) ∧ ∀ b' o, σ.B b' = some o → b ∉ o.nm

def OpOK (P : Program) (cx : Cx) (ops : Array Oper) (o : Oper) (σi : St) (ev : Ev) : Prop :=
  ∀ σ a w, (∀ t ∈ o.looksAt ops, σ.S t = σi.S t) → (∀ b ∈ ev.rd, σ.B b = σi.B b) → Free σ o.dst ev.nw → Con cx σ a w →
    ∀ (K : Act → World → Prop) (Q : Exit → Act → World → Prop), (∀ a' w', Con cx (σ.app o.dst ev) a' w' → K a' w') →
      if Region.wanted o (yielded ops a.tmps) = true then o.wp P a w K Q else K (a.put o.dst undef) w

end Go.Fl
