/-
  A region whose order is open: if each operation's outcome, in the text's order, hangs on what it looks at alone, and a look over the edges (by the kernel) shows that
  operations which are not ordered do not disturb one another, then every order ends in the state that the text's order ends in.
-/
import Derived.Test.YtkfmdjbfffncpaaGreatFlCore
set_option linter.unusedVariables false
namespace Go.Fl
open Go.RowKit

/-! ### Updates, one behind the other -/
def val {α : Type} (u : Nat → Option α) (L : List Nat) (x : α) : α := L.foldl (fun acc j => (u j).getD acc) x
theorem val_cons {α : Type} (u : Nat → Option α) (j : Nat) (L : List Nat) (x : α) : val u (j :: L) x = val u L ((u j).getD x) := rfl
theorem val_append {α : Type} (u : Nat → Option α) (L L' : List Nat) (x : α) : val u (L ++ L') x = val u L' (val u L x) := by simp [val]
theorem val_filter {α : Type} (u : Nat → Option α) (L : List Nat) (x : α) : val u L x = val u (L.filter fun j => (u j).isSome) x := by
  induction L generalizing x with
  | nil => rfl
  | cons j L ih =>
    rw [List.filter_cons]
    cases h : u j with
    | none => simp [val_cons, h, ih]
    | some y => simp [val_cons, h, ih]
/-- The last writer says it. -/
theorem val_last {α : Type} (u : Nat → Option α) (L : List Nat) (x : α) (i : Nat) (y : α) (hi : u i = some y) (h : ∀ j ∈ L, (u j).isSome = true → j = i) (hm : i ∈ L) : val u L x = y := by
  induction L generalizing x with
  | nil => cases hm
  | cons j L ih =>
    rw [val_cons]
    by_cases hL : i ∈ L
    · exact ih _ (fun j hj => h j (List.mem_cons_of_mem _ hj)) hL
    · have hji : j = i := by
        rcases List.mem_cons.1 hm with h1 | h1
        · exact h1.symm
        · exact absurd h1 hL
      subst hji
      rw [hi]
      have : ∀ (M : List Nat), (∀ k ∈ M, k ∈ L) → val u M y = y := by
        intro M hM
        rw [val_filter, List.filter_eq_nil_iff.2]
        · rfl
        · intro k hk hs
          have := h k (List.mem_cons_of_mem _ (hM k hk)) hs
          subst this
          exact hL (hM _ hk)
      exact this L fun k hk => hk

def foldSt (E : Nat → Option Nat × Ev) (L : List Nat) (σ : St) : St := L.foldl (fun s j => s.app (E j).1 (E j).2) σ
theorem foldSt_S (E : Nat → Option Nat × Ev) (L : List Nat) (σ : St) (t : Nat) : (foldSt E L σ).S t = val (fun j => (E j).2.uS (E j).1 t) L (σ.S t) := by
  induction L generalizing σ with
  | nil => rfl
  | cons j L ih => simp only [foldSt, List.foldl_cons, val_cons] at ih ⊢; rw [ih]; rfl
theorem foldSt_B (E : Nat → Option Nat × Ev) (L : List Nat) (σ : St) (b : Nat) : (foldSt E L σ).B b = val (fun j => (E j).2.uB b) L (σ.B b) := by
  induction L generalizing σ with
  | nil => rfl
  | cons j L ih => simp only [foldSt, List.foldl_cons, val_cons] at ih ⊢; rw [ih]; rfl
theorem foldSt_append (E : Nat → Option Nat × Ev) (L L' : List Nat) (σ : St) : foldSt E (L ++ L') σ = foldSt E L' (foldSt E L σ) := by simp [foldSt]
theorem St.ext' {σ σ' : St} (h1 : ∀ t, σ.S t = σ'.S t) (h2 : ∀ b, σ.B b = σ'.B b) : σ = σ' := by
  cases σ; cases σ'
  simp only [St.mk.injEq]
  exact ⟨funext h1, funext h2⟩

/-! ### The look over the edges -/
structure Nf where
  dst : Option Nat
  looks : List Nat
  aft : List Nat
  rd : List Nat
  wr : List Nat
  nw : List Nat
  hs : List Nat
def Ev.hs (ev : Ev) : List Nat := ev.av.nm ++ ev.ef.flatMap fun p => match p.2 with
  | some o => o.nm
  | none => []
def nfOf (ops : Array Oper) (o : Oper) (ev : Ev) : Nf :=
  ⟨o.dst, o.looksAt ops, (o.after.toList.filter (Region.binds .any)).map (·.on), ev.rd, ev.ef.map (·.1), ev.nw, ev.hs⟩
def disj (a b : List Nat) : Bool := a.all fun x => !b.contains x
/-- x ahead of y in the text, and not ordered. -/
def indep (x y : Nf) : Bool :=
  disj x.dst.toList y.looks && disj x.dst.toList y.dst.toList && disj y.dst.toList x.looks && disj x.wr y.rd && disj x.wr y.wr && disj y.wr x.rd && disj x.nw y.hs
def rowAt (A : List (List Bool)) (i j : Nat) : Bool := (A.getD i []).getD j false
def okA (A : List (List Bool)) (nfs : List Nf) : Bool :=
  nfs.zipIdx.all fun (x, i) => x.aft.all (fun e => decide (e < i)) && disj x.nw (nfs.zipIdx.flatMap fun (y, j) => if j < i then y.hs ++ y.wr else []) && x.nw.all (fun b => x.wr.contains b) &&
    (List.range i).all fun j => (!rowAt A i j || x.aft.any fun e => e == j || (decide (j < e) && rowAt A e j))
def okI (A : List (List Bool)) (nfs : List Nf) : Bool :=
  nfs.zipIdx.all fun (y, j) => nfs.zipIdx.all fun (x, i) => !decide (i < j) || rowAt A j i || indep x y
/-- The table of what comes ahead of what. -/
def table (nfs : List Nf) : List (List Bool) :=
  nfs.foldl (fun A x => A ++ [(List.range nfs.length).map fun j => x.aft.any fun e => e == j || rowAt A e j]) []
def okOrd (nfs : List Nf) : Bool := let A := table nfs; okA A nfs && okI A nfs

theorem disj_iff {a b : List Nat} : disj a b = true ↔ ∀ x ∈ a, x ∉ b := by
  simp [disj, List.all_eq_true]
end Go.Fl
