/- A computable evaluator of operations over closed states, each step of it an operation's outcome. -/
import Derived.Test.YtkfmdjbfffncpaaGreatFlIter
import Derived.Test.YtkfmdjbfffncpaaGreatFlCallR
set_option linter.unusedVariables false
namespace Go.Fl
open Go.RowKit

/-! ### States as lists of slots and of objects -/
def setL (L : List AV) (dst : Option Nat) (av : AV) : List AV :=
  match dst with
  | some d => L.set d av
  | none => L
def eraseK (b : Nat) : List (Nat × O) → List (Nat × O)
  | [] => []
  | p :: r => if p.1 == b then eraseK b r else p :: eraseK b r
def updM : List (Nat × Option O) → List (Nat × O) → List (Nat × O)
  | [], M => M
  | (b, some o) :: r, M => (b, o) :: eraseK b (updM r M)
  | (b, none) :: r, M => eraseK b (updM r M)
theorem lookup_erase (b x : Nat) : ∀ (M : List (Nat × O)), (eraseK b M).lookup x = if x = b then none else M.lookup x
  | [] => by simp [eraseK]
  | p :: r => by
    unfold eraseK
    by_cases h : p.1 = b
    · rw [if_pos (by simpa using h), lookup_erase b x r]
      by_cases hx : x = b
      · rw [if_pos hx, if_pos hx]
      · rw [if_neg hx, if_neg hx, List.lookup_cons]
        have : (x == p.1) = false := by simp; rw [h]; exact hx
        rw [this]
    · rw [if_neg (by simpa using h), List.lookup_cons, List.lookup_cons, lookup_erase b x r]
      by_cases hx : x = p.1
      · subst hx
        simp [h]
      · have : (x == p.1) = false := by simpa using hx
        rw [this]
theorem lookup_upd (x : Nat) : ∀ (ef : List (Nat × Option O)) (M : List (Nat × O)), (updM ef M).lookup x = (ef.lookup x).getD (M.lookup x)
  | [], M => rfl
  | (b, some o) :: r, M => by
    simp only [updM, List.lookup_cons]
    by_cases hx : x = b
    · subst hx; simp
    · have : (x == b) = false := by simpa using hx
      rw [this]
      simp only []
      rw [lookup_erase, if_neg hx, lookup_upd x r M]
  | (b, none) :: r, M => by
    simp only [updM, List.lookup_cons]
    rw [lookup_erase]
    by_cases hx : x = b
    · subst hx; simp
    · have : (x == b) = false := by simpa using hx
      rw [this, if_neg hx, lookup_upd x r M]
theorem of_app (L : List AV) (M : List (Nat × O)) (dst : Option Nat) (ev : Ev) (hd : ∀ d, dst = some d → d < L.length) : (St.of L M).app dst ev = St.of (setL L dst ev.av) (updM ev.ef M) := by
  apply St.ext'
  · intro t
    simp only [St.app, St.of, Ev.uS, setL]
    cases dst with
    | none => simp
    | some d =>
      simp only [Option.some.injEq]
      by_cases h : d = t
      · subst h; simp [List.getElem?_set_self (hd d rfl)]
      · simp [h, List.getElem?_set_ne h]
  · intro b
    simp only [St.app, St.of, Ev.uB, lookup_upd]

/-! ### One operation -/
abbrev CallH := FuncId → List AV → List (Nat × O) → Nat → Option (AV × List Nat × List Nat × List (Nat × Option O) × Nat)
def plainV : AV → Option Value
  | .c (.one (.v v)) => some v
  | _ => none
theorem plainV_eq {av : AV} {v : Value} (h : plainV av = some v) : av = .v v := by
  unfold plainV at h
  split at h
  · simp only [Option.some.injEq] at h; subst h; rfl
  · cases h
def intV : AV → Option (IntKind × Int)
  | .c (.one (.v (.int k i))) => some (k, i)
  | _ => none
theorem intV_eq {av : AV} {k : IntKind} {i : Int} (h : intV av = some (k, i)) : av = .v (.int k i) := by
  unfold intV at h
  split at h
  · simp only [Option.some.injEq, Prod.mk.injEq] at h; obtain ⟨rfl, rfl⟩ := h; rfl
  · cases h
abbrev Res := Option (Ev × Nat)
def val1 (av : AV) (nx : Nat) : Res := some (⟨av, [], [], []⟩, nx)
def pureV (P : Program) (m : Sem Value) (nx : Nat) : Res :=
  match runPure P m with
  | some v => if v.oneCell' then val1 (.v v) nx else none
  | none => none
theorem pureV_eq {P : Program} {m : Sem Value} {nx nx' : Nat} {ev : Ev} (h : pureV P m nx = some (ev, nx')) : ∃ v, runPure P m = some v ∧ v.oneCell' = true ∧ ev = ⟨.v v, [], [], []⟩ ∧ nx' = nx := by
  unfold pureV at h
  split at h
  · rename_i v hv
    split at h
    · rename_i h1
      simp only [val1, Option.some.injEq, Prod.mk.injEq] at h
      exact ⟨v, hv, h1, h.1.symm, h.2.symm⟩
    · cases h
  · cases h

/-! ### Tables of what is asked of types and functions -/
inductive Tr (α : Type) where
  | leaf
  | node (l : Tr α) (k : Nat) (v : α) (r : Tr α)
def Tr.get {α : Type} : Tr α → Nat → Option α
  | .leaf, _ => none
  | .node l k v r, x => if Nat.beq x k then some v else if Nat.blt x k then l.get x else r.get x
def Tr.All {α : Type} (p : Nat → α → Prop) : Tr α → Prop
  | .leaf => True
  | .node l k v r => p k v ∧ l.All p ∧ r.All p
theorem Tr.get_all {α : Type} {p : Nat → α → Prop} : ∀ (t : Tr α) (x : Nat) (v : α), t.All p → t.get x = some v → p x v
  | .leaf, x, v, _, h => by cases h
  | .node l k w r, x, v, ha, h => by
    unfold Tr.get at h
    split at h
    · rename_i hk
      have hk := Nat.eq_of_beq_eq_true hk
      injection h with h
      subst hk; subst h
      exact ha.1
    · split at h
      · exact Tr.get_all l x v ha.2.1 h
      · exact Tr.get_all r x v ha.2.2 h
def tPlA (P : Program) (T : TypeId) : Option (List Value × Nat) :=
  match P.underlying T with
  | some (.array _ e) => match tZ P T, P.info? e with
    | some z, some ie => some (z, ie.size)
    | _, _ => none
  | _ => none
structure Tb where
  tsz : Tr (Nat × Bool)
  tel : Tr (Nat × Nat × Nat)
  tz : Tr (List Value)
  tfd : Tr (Nat × Nat × Bool)
  tfdT : Tr (Nat × Nat)
  tpl : Tr (List Value × List (Nat × Nat))
  tplA : Tr (List Value × Nat)
  tmp : Tr (TypeId × TypeDesc × Value)
  tarr : Tr (Nat × Nat × Nat)
  tptr : Tr Nat
  tik : Tr IntKind
  tbl : Tr Unit
  tstr : Tr Unit
  tfn : Tr Func
namespace Tb
def sz (tb : Tb) (T : Nat) := tb.tsz.get T
def el (tb : Tb) (T : Nat) := tb.tel.get T
def z (tb : Tb) (T : Nat) := tb.tz.get T
def fdd (tb : Tb) (T f : Nat) := tb.tfd.get (T * 256 + f)
def fdT (tb : Tb) (T f : Nat) := tb.tfdT.get (T * 256 + f)
def pl (tb : Tb) (T : Nat) := tb.tpl.get T
def plA (tb : Tb) (T : Nat) := tb.tplA.get T
def mp (tb : Tb) (T : Nat) := tb.tmp.get T
def arr (tb : Tb) (T : Nat) := tb.tarr.get T
def ptr (tb : Tb) (T : Nat) := tb.tptr.get T
def ik (tb : Tb) (T : Nat) := tb.tik.get T
def bl (tb : Tb) (T : Nat) := tb.tbl.get T
def str (tb : Tb) (T : Nat) := tb.tstr.get T
def fn (tb : Tb) (f : Nat) := tb.tfn.get f
end Tb
structure Tb.OK (P : Program) (tb : Tb) : Prop where
  sz : tb.tsz.All fun T r => tSz P T = some r
  el : tb.tel.All fun T r => tEl P T = some r
  z : tb.tz.All fun T r => tZ P T = some r
  fd : tb.tfd.All fun x r => tFd P (x / 256) (x % 256) = some r
  fdT : tb.tfdT.All fun x r => tFdT P (x / 256) (x % 256) = some r
  pl : tb.tpl.All fun T r => tPl P T = some r
  plA : tb.tplA.All fun T r => tPlA P T = some r
  mp : tb.tmp.All fun T r => tMap P T = some r
  arr : tb.tarr.All fun T r => tArr P T = some r
  ptr : tb.tptr.All fun T e => P.underlying T = some (.pointer e)
  ik : tb.tik.All fun T k => P.underlying T = some (.int k)
  bl : tb.tbl.All fun T _ => P.underlying T = some .bool
  str : tb.tstr.All fun T _ => P.underlying T = some .string
  fn : tb.tfn.All fun f r => P.funcs[f]? = some r
  names : tb.tfn.All fun _ r => (r.name == "runtime.NumGoroutine") = false
  mixed : P.follows .mixedOrders = true
section
variable {P : Program} {tb : Tb} (H : Tb.OK P tb)
include H
theorem Tb.OK.esz {T : Nat} {r : Nat × Bool} (h : tb.sz T = some r) : tSz P T = some r := Tr.get_all _ _ _ H.sz h
theorem Tb.OK.eel {T : Nat} {r : Nat × Nat × Nat} (h : tb.el T = some r) : tEl P T = some r := Tr.get_all _ _ _ H.el h
theorem Tb.OK.ez {T : Nat} {r : List Value} (h : tb.z T = some r) : tZ P T = some r := Tr.get_all _ _ _ H.z h
theorem Tb.OK.epl {T : Nat} {r : List Value × List (Nat × Nat)} (h : tb.pl T = some r) : tPl P T = some r := Tr.get_all _ _ _ H.pl h
theorem Tb.OK.eplA {T : Nat} {r : List Value × Nat} (h : tb.plA T = some r) : tPlA P T = some r := Tr.get_all _ _ _ H.plA h
theorem Tb.OK.emp {T : Nat} {r : TypeId × TypeDesc × Value} (h : tb.mp T = some r) : tMap P T = some r := Tr.get_all _ _ _ H.mp h
theorem Tb.OK.earr {T : Nat} {r : Nat × Nat × Nat} (h : tb.arr T = some r) : tArr P T = some r := Tr.get_all _ _ _ H.arr h
theorem Tb.OK.eptr {T : Nat} {e : Nat} (h : tb.ptr T = some e) : P.underlying T = some (.pointer e) := Tr.get_all _ _ _ H.ptr h
theorem Tb.OK.eik {T : Nat} {k : IntKind} (h : tb.ik T = some k) : P.underlying T = some (.int k) := Tr.get_all _ _ _ H.ik h
theorem Tb.OK.ebl {T : Nat} {u : Unit} (h : tb.bl T = some u) : P.underlying T = some .bool := Tr.get_all _ _ _ H.bl h
theorem Tb.OK.estr {T : Nat} {u : Unit} (h : tb.str T = some u) : P.underlying T = some .string := Tr.get_all _ _ _ H.str h
theorem Tb.OK.efn {f : Nat} {r : Func} (h : tb.fn f = some r) : P.funcs[f]? = some r := Tr.get_all _ _ _ H.fn h
theorem Tb.OK.ename {f : Nat} {r : Func} (h : tb.fn f = some r) : (r.name == "runtime.NumGoroutine") = false := Tr.get_all _ _ _ H.names h
theorem Tb.OK.efd {T f : Nat} {r : Nat × Nat × Bool} (hf : f < 256) (h : tb.fdd T f = some r) : tFd P T f = some r := by
  have := Tr.get_all (p := fun x r => tFd P (x / 256) (x % 256) = some r) _ _ _ H.fd h
  rwa [show (T * 256 + f) / 256 = T by omega, show (T * 256 + f) % 256 = f by omega] at this
theorem Tb.OK.efdT {T f : Nat} {r : Nat × Nat} (hf : f < 256) (h : tb.fdT T f = some r) : tFdT P T f = some r := by
  have := Tr.get_all (p := fun x r => tFdT P (x / 256) (x % 256) = some r) _ _ _ H.fdT h
  rwa [show (T * 256 + f) / 256 = T by omega, show (T * 256 + f) % 256 = f by omega] at this
end
/-- A part of a struct by value, a result: by the tables. -/
def partCT (tb : Tb) (T : TypeId) (cs : List Ce) (off : Nat) : Option AV :=
  match tb.sz T with
  | some (z, true) => if off + z ≤ cs.length then some (.agg ((cs.drop off).take z)) else none
  | some (_, false) => (cs[off]?).map .c
  | none => none
theorem partCT_eq {P : Program} {tb : Tb} (H : Tb.OK P tb) {T : TypeId} {cs : List Ce} {off : Nat} {av : AV} (h : partCT tb T cs off = some av) : partC P T cs off = some av := by
  unfold partCT at h
  unfold partC
  split at h
  · rename_i z hz; rw [H.esz hz]; exact h
  · rename_i z hz; rw [H.esz hz]; exact h
  · cases h
def resXAT (tb : Tb) (σ : St) : ResultVar → Option X
  | .tmp t => match σ.S t with
    | .c x => if notJunk x then some (.c x) else none
    | .agg cs => some (.agg cs)
    | .tup _ => none
  | .cell t T => match σ.S t with
    | .c (.ptr b o) => match σ.B b with
      | some ob => match tb.sz T with
        | some (z, true) => if ((ob.cells.drop o).take z).length = z then some (.agg ((ob.cells.drop o).take z)) else none
        | some (1, false) => (ob.cells[o]?).map .c
        | _ => none
      | none => none
    | _ => none
def resXsT (tb : Tb) (σ : St) : List ResultVar → Option (List X)
  | [] => some []
  | x :: r => match resXAT tb σ x, resXsT tb σ r with
    | some p, some l => some (p :: l)
    | _, _ => none
theorem resXAT_eq {P : Program} {tb : Tb} (H : Tb.OK P tb) {σ : St} {x : ResultVar} {y : X} (h : resXAT tb σ x = some y) : resXA P σ x = some y := by
  cases x with
  | tmp t => exact h
  | cell t T =>
    simp only [resXAT] at h
    simp only [resXA]
    split at h
    · rename_i b o hS
      rw [hS]
      simp only []
      split at h
      · rename_i ob hB
        rw [hB]
        simp only []
        split at h
        · rename_i z hz; rw [H.esz hz]; exact h
        · rename_i hz; rw [H.esz hz]; exact h
        · cases h
      · cases h
    · cases h
theorem resXsT_eq {P : Program} {tb : Tb} (H : Tb.OK P tb) {σ : St} : ∀ (rs : List ResultVar) (ys : List X), resXsT tb σ rs = some ys → resXs P σ rs = some ys
  | [], ys, h => h
  | x :: r, ys, h => by
    simp only [resXsT] at h
    simp only [resXs]
    split at h
    · rename_i p l h1 h2
      rw [resXAT_eq H h1, resXsT_eq H r l h2]; exact h
    · cases h

/-! ### Sameness, as far as it is looked at -/
def eqV : Value → Value → Bool
  | .bool a, .bool b => a == b
  | .int k a, .int k' b => decide (k = k') && decide (a = b)
  | .pointer none, .pointer none => true
  | .map none, .map none => true
  | .func (.func f) a b, .func (.func g) c d => Nat.beq f g && (a.isEmpty && b.isEmpty && (c.isEmpty && d.isEmpty))
  | _, _ => false
theorem eqV_eq {a b : Value} (h : eqV a b = true) : a = b := by
  unfold eqV at h
  split at h
  · rw [eq_of_beq h]
  · simp only [Bool.and_eq_true, decide_eq_true_eq] at h; rw [h.1, h.2]
  · rfl
  · rfl
  · simp only [Bool.and_eq_true, Array.isEmpty_iff] at h
    obtain ⟨h1, ⟨h2, h3⟩, h4, h5⟩ := h
    rw [Nat.eq_of_beq_eq_true h1, h2, h3, h4, h5]
  · cases h
mutual
def eqD : D → D → Bool
  | .v a, .v b => eqV a b
  | .s f n cs, .s f' n' cs' => f == f' && Nat.beq n n' && eqDs cs cs'
  | .e f cs, .e f' cs' => f == f' && eqDs cs cs'
  | _, _ => false
def eqDs : List D → List D → Bool
  | [], [] => true
  | a :: r, b :: r' => eqD a b && eqDs r r'
  | _, _ => false
end
mutual
theorem eqD_eq : ∀ (a b : D), eqD a b = true → a = b
  | .v a, .v b, h => by rw [eqD] at h; rw [eqV_eq h]
  | .s f n cs, .s f' n' cs', h => by
    rw [eqD] at h
    simp only [Bool.and_eq_true] at h
    rw [eq_of_beq h.1.1, Nat.eq_of_beq_eq_true h.1.2, eqDs_eq cs cs' h.2]
  | .e f cs, .e f' cs', h => by
    rw [eqD] at h
    simp only [Bool.and_eq_true] at h
    rw [eq_of_beq h.1, eqDs_eq cs cs' h.2]
  | .v _, .s .., h => by simp [eqD] at h
  | .v _, .e .., h => by simp [eqD] at h
  | .s .., .v _, h => by simp [eqD] at h
  | .s .., .e .., h => by simp [eqD] at h
  | .e .., .v _, h => by simp [eqD] at h
  | .e .., .s .., h => by simp [eqD] at h
theorem eqDs_eq : ∀ (a b : List D), eqDs a b = true → a = b
  | [], [], _ => rfl
  | a :: r, b :: r', h => by
    rw [eqDs] at h
    simp only [Bool.and_eq_true] at h
    rw [eqD_eq a b h.1, eqDs_eq r r' h.2]
  | [], _ :: _, h => by simp [eqDs] at h
  | _ :: _, [], h => by simp [eqDs] at h
end

/-! ### What is known of closed calls -/
def eqPX : PX → PX → Bool
  | .c a, .c b => eqD a b
  | .agg a, .agg b => eqDs a b
  | _, _ => false
theorem eqPX_eq {a b : PX} (h : eqPX a b = true) : a = b := by
  unfold eqPX at h
  split at h
  · rw [eqD_eq _ _ h]
  · rw [eqDs_eq _ _ h]
  · cases h
def eqPXs : List PX → List PX → Bool
  | [], [] => true
  | a :: r, b :: r' => eqPX a b && eqPXs r r'
  | _, _ => false
theorem eqPXs_eq : ∀ (a b : List PX), eqPXs a b = true → a = b
  | [], [], _ => rfl
  | a :: r, b :: r', h => by
    simp only [eqPXs, Bool.and_eq_true] at h
    rw [eqPX_eq h.1, eqPXs_eq r r' h.2]
  | [], _ :: _, h => by simp [eqPXs] at h
  | _ :: _, [], h => by simp [eqPXs] at h
abbrev Memo := Tr (List (List PX × PV))

def findM (args : List PX) : List (List PX × PV) → Option PV
  | [] => none
  | p :: r => if eqPXs args p.1 then some p.2 else findM args r
theorem findM_mem {args : List PX} {r : PV} : ∀ (l : List (List PX × PV)), findM args l = some r → (args, r) ∈ l
  | [], h => by cases h
  | p :: l, h => by
    unfold findM at h
    split at h
    · rename_i he
      injection h with h
      rw [eqPXs_eq _ _ he, ← h]
      exact List.mem_cons_self ..
    · exact List.mem_cons_of_mem _ (findM_mem l h)
def memoGet (mm : Memo) (g : FuncId) (args : List PX) : Option PV :=
  match mm.get g with
  | some l => findM args l
  | none => none
def Memo.OK (P : Program) (mm : Memo) : Prop := mm.All fun (g : Nat) (l : List (List PX × PV)) => ∀ p ∈ l, CT P g p.1 p.2
theorem memoGet_ok {P : Program} {mm : Memo} (H : Memo.OK P mm) {g : FuncId} {args : List PX} {r : PV} (h : memoGet mm g args = some r) : CT P g args r := by
  unfold memoGet at h
  split at h
  · rename_i l hl
    exact Tr.get_all (p := fun (g : Nat) (l : List (List PX × PV)) => ∀ p ∈ l, CT P g p.1 p.2) mm g l H hl (args, r) (findM_mem l h)
  · cases h

section
variable (P : Program) (tb : Tb) (mm : Memo) (call : CallH) (L : List AV) (M : List (Nat × O)) (nx : Nat)
def eSlice (T : TypeId) (x : Operand) (lo hi : Option Operand) : Res :=
  match tb.el T, bnd (St.of L M) lo, bnd (St.of L M) hi, SV (St.of L M) x with
  | some (e, z, by'), some l, some h, .c y =>
    match lenC y with
    | some n =>
      if 0 ≤ l.getD 0 ∧ l.getD 0 ≤ h.getD n ∧ h.getD n ≤ n then
        (if l.getD 0 = h.getD n then
          match y with
          | .row b _ => match M.lookup b with
            | some (.rw _ _ _ _) => some (⟨.d (.s true 0 []), y.nm, [], []⟩, nx)
            | _ => none
          | _ => some (⟨.d (.s true 0 []), y.nm, [], []⟩, nx)
        else match y with
          | .row b _ => match M.lookup b with
            | some (.rw _ _ _ _) => some (⟨.c (.sl b ((l.getD 0).toNat * z) ((h.getD n).toNat - (l.getD 0).toNat)), [b], [], []⟩, nx)
            | _ => none
          | .sl b off _ => val1 (.c (.sl b (off + (l.getD 0).toNat * z) ((h.getD n).toNat - (l.getD 0).toNat))) nx
          | .one (.s f _ ds) => if 0 < z ∧ ds.length = n * z then val1 (.d (.s f ((h.getD n).toNat - (l.getD 0).toNat) ((ds.drop ((l.getD 0).toNat * z)).take (((h.getD n).toNat - (l.getD 0).toNat) * z)))) nx else none
          | _ => none)
      else none
    | none => none
  | _, _, _, _ => none
def av3 (h : Int) (z : Nat) (y : Ce) : Option AV :=
  if h = 0 then some (.d (.s true 0 [])) else match y with
    | .row b _ => some (.c (.sl b 0 h.toNat))
    | .sl b off _ => some (.c (.sl b off h.toNat))
    | .one (.s f k ds) => if ds.length = k * z then some (.d (.s f h.toNat (ds.take (h.toNat * z)))) else none
    | _ => none
def eSlice3 (T : TypeId) (x hi mx : Operand) : Res :=
  match tb.el T, intV (SV (St.of L M) hi), intV (SV (St.of L M) mx), SV (St.of L M) x with
  | some (e, z, by'), some (kh, h), some (km, m), .c y =>
    match lenC y with
    | some n =>
      if h = m ∧ 0 ≤ h ∧ h ≤ n then
        match av3 h z y with
        | some av => match y with
          | .row b _ => match M.lookup b with
            | some (.rw _ _ _ _) => some (⟨av, y.nm, [], []⟩, nx)
            | _ => none
          | _ => some (⟨av, y.nm, [], []⟩, nx)
        | none => none
      else none
    | none => none
  | _, _, _, _ => none
def eAppend (T : TypeId) (x y : Operand) : Res :=
  match tb.el T with
  | some (e, z, by') => match tb.z e, srcC (St.of L M) z (SV (St.of L M) y) with
    | some zs, some (m, cs2, rd2) =>
      if zs.length = z ∧ 0 < z then
        match SV (St.of L M) x with
        | .c .nil => if (cs2.flatMap Ce.nm).contains nx = false ∧ m ≤ 9223372036854775807 ∧ m * by' ≤ 140737488355328 then some (⟨.c (.row nx m), rd2, [nx], [(nx, some (.rw e z m cs2))]⟩, nx + 1) else none
        | .c (.row b n) => match M.lookup b with
          | some (.rw e' z' n' cs) => if e' = e ∧ z' = z ∧ n' = n ∧ ((cs ++ cs2).flatMap Ce.nm).contains nx = false ∧ n + m ≤ 9223372036854775807 ∧ (n + m) * by' ≤ 140737488355328 then some (⟨.c (.row nx (n + m)), b :: rd2, [nx], [(nx, some (.rw e z (n + m) (cs ++ cs2))), (b, none)]⟩, nx + 1) else none
          | _ => none
        | _ => none
      else none
    | _, _ => none
  | none => none
def eCopy (T : TypeId) (x y : Operand) : Res :=
  match tb.el T with
  | some (e, z, by') => match srcC (St.of L M) z (SV (St.of L M) y) with
    | some (m, cs2, rd2) =>
      if 0 < z then
        match SV (St.of L M) x with
        | .c (.sl b off n) => match M.lookup b with
          | some ob => if off + n * z ≤ ob.cells.length then some (⟨.v (.int .i64 (min m n : Nat)), b :: rd2, [], [(b, some (ob.put (spl ob.cells off (cs2.take (min m n * z)))))]⟩, nx) else none
          | none => none
        | .c (.row b n) => match M.lookup b with
          | some ob => if 0 + n * z ≤ ob.cells.length then some (⟨.v (.int .i64 (min m n : Nat)), b :: rd2, [], [(b, some (ob.put (spl ob.cells 0 (cs2.take (min m n * z)))))]⟩, nx) else none
          | none => none
        | _ => none
      else none
    | none => none
  | none => none
def eLen (T : TypeId) (x : Operand) : Res :=
  match SV (St.of L M) x with
  | .c (.row b n) => match tb.el T with
    | some _ => val1 (.v (.int .i64 n)) nx
    | none => none
  | .c (.sl b off n) => match tb.el T with
    | some _ => val1 (.v (.int .i64 n)) nx
    | none => none
  | .c .nil => match tb.el T with
    | some _ => val1 (.v (.int .i64 0)) nx
    | none => none
  | .c (.one (.s f n ds)) => match tb.el T with
    | some _ => val1 (.v (.int .i64 n)) nx
    | none => none
  | .c (.mp b) => match tb.mp T, M.lookup b with
    | some _, some (.mp es _) => some (⟨.v (.int .i64 es.length), [b], [], []⟩, nx)
    | _, _ => none
  | _ => none
def eLoad (T : TypeId) (x : Operand) : Res :=
  match SV (St.of L M) x with
  | .c (.ptr b off) => match M.lookup b, tb.sz T with
    | some ob, some (z, true) => if ((ob.cells.drop off).take z).length = z then some (⟨.agg ((ob.cells.drop off).take z), [b], [], []⟩, nx) else none
    | some ob, some (1, false) => match ob.cells[off]? with
      | some c => some (⟨.c c, [b], [], []⟩, nx)
      | none => none
    | _, _ => none
  | .c (.one (.e f ds)) => match tb.sz T with
    | some (z, true) => if (ds.take z).length = z then val1 (.agg ((ds.take z).map .one)) nx else none
    | some (1, false) => match ds[0]? with
      | some d => val1 (.d d) nx
      | none => none
    | _ => none
  | _ => none
def eStore (T : TypeId) (x y : Operand) : Res :=
  match SV (St.of L M) x with
  | .c (.ptr b off) => match M.lookup b, tb.sz T, SV (St.of L M) y with
    | some ob, some (z, true), .agg xs => if xs.length = z ∧ off + xs.length ≤ ob.cells.length then some (⟨.c .junk, [b], [], [(b, some (ob.put (spl ob.cells off xs)))]⟩, nx) else none
    | some ob, some (1, false), .c c => if notJunk c = true ∧ off + 1 ≤ ob.cells.length then some (⟨.c .junk, [b], [], [(b, some (ob.put (spl ob.cells off [c])))]⟩, nx) else none
    | _, _, _ => none
  | _ => none
def eIndexAddr (T : TypeId) (x ix : Operand) : Res :=
  match tb.el T, intV (SV (St.of L M) ix), SV (St.of L M) x with
  | some (e, z, by'), some (k, i), .c (.row b n) => match M.lookup b with
    | some (.rw _ _ _ _) => if 0 ≤ i ∧ i < n then some (⟨.c (.ptr b (i.toNat * z)), [b], [], []⟩, nx) else none
    | _ => none
  | some (e, z, by'), some (k, i), .c (.sl b off n) => if 0 ≤ i ∧ i < n then val1 (.c (.ptr b (off + i.toNat * z))) nx else none
  | some (e, z, by'), some (k, i), .c (.one (.s f n ds)) => if 0 ≤ i ∧ i < n ∧ i.toNat * z < ds.length then val1 (.d (.e f (ds.drop (i.toNat * z)))) nx else none
  | _, _, _ => none
def eFieldAddr (T : TypeId) (x : Operand) (f : Nat) : Res :=
  if Nat.blt f 256 then
  match tb.fdd T f, SV (St.of L M) x with
  | some (fo, z, g), .c (.ptr b off) => if z == 0 then none else val1 (.c (.ptr b (off + fo))) nx
  | some (fo, z, g), .c (.one (.e fl ds)) => if z == 0 then none else val1 (.d (.e fl (ds.drop fo))) nx
  | _, _ => none
  else none
def eBin (op : BinOp) (T : TypeId) (x y : Operand) : Res :=
  match SV (St.of L M) x, SV (St.of L M) y with
  | .c (.one (.v (.bool a))), .c (.one (.v (.bool b))) => match tb.bl T with
    | some _ => if op = .eql then val1 (.v (.bool (a == b))) nx else if op = .neq then val1 (.v (.bool (!(a == b)))) nx else none
    | none => none
  | .c (.one (.v vx)), .c (.one (.v vy)) => pureV P (do eqGuard op T x y vx vy; binOp op T vx vy : Sem Value) nx
  | .c (.ptr b off), .c (.one (.v (.pointer none))) => match tb.ptr T with
    | some e => if op = .eql then val1 (.v (.bool false)) nx else if op = .neq then val1 (.v (.bool true)) nx else none
    | _ => none
  | _, _ => none
def eCall (x : Operand) (xs : List Operand) : Res :=
  match fnOf (SV (St.of L M) x) with
  | some (f, ps, qs) => match call f (ps.map Cp.av ++ xs.map (SV (St.of L M)) ++ qs.map Cp.av) M nx with
    | some (av, rd, nw, ef, nx') => some (⟨av, rd, nw, ef⟩, nx')
    | none => none
  | none => none
def eCallM (x : Operand) (xs : List Operand) : Res :=
  match SV (St.of L M) x with
  | .c (.one (.v (.func (.func f) fs cs))) =>
    if fs.isEmpty && cs.isEmpty then
      match argsP (St.of L M) xs with
      | some ps => match memoGet mm f (ps.map PX.lo), tb.fn f with
        | some r, some fn =>
          if fn.body.isSome then
            (match xs.flatMap fun x => avR (SV (St.of L M) x) with
            | [] => val1 r.av nx
            | b :: bs => if r.new then some (⟨r.av, b :: bs, [], []⟩, nx) else eCall call L M nx x xs)
          else eCall call L M nx x xs
        | _, _ => eCall call L M nx x xs
      | none => eCall call L M nx x xs
    else eCall call L M nx x xs
  | _ => eCall call L M nx x xs
def eMap (T : TypeId) (x i y : Operand) : Res :=
  match tb.mp T, SV (St.of L M) x, plainV (SV (St.of L M) i), SV (St.of L M) y with
  | some (k, kd, z), .c (.mp b), some key, .c c => match M.lookup b with
    | some (.mp es clock) => if notJunk c then (match mfind kd key es 0 with
      | some none => some (⟨.c .junk, [b], [], [(b, some (.mp (es ++ [(key, clock, c)]) (clock + 1)))]⟩, nx)
      | some (some (j, _)) => some (⟨.c .junk, [b], [], [(b, some (.mp (es.set j (key, (es.getD j default).2.1, c)) clock))]⟩, nx)
      | none => none) else none
    | _ => none
  | _, _, _, _ => none
def eLookup (T : TypeId) (x i : Operand) (ok : Bool) : Res :=
  match tb.mp T, plainV (SV (St.of L M) i), SV (St.of L M) x with
  | some (k, kd, z), some key, .c (.mp b) => match M.lookup b with
    | some (.mp es clock) => match mfind kd key es 0 with
      | some r => some (⟨lookX ok ((r.map (·.2)).getD (constX z)) r.isSome, [b], [], []⟩, nx)
      | none => none
    | _ => none
  | some (k, kd, z), some key, .c (.one (.v (.map none))) => val1 (lookX ok (constX z) false) nx
  | _, _, _ => none
def eNext (x : Operand) : Res :=
  match SV (St.of L M) x with
  | .c (.ptr b 0) => match M.lookup b with
    | some (.it m since seen last) => match M.lookup m with
      | some (.mp es clock) => match nextE es since seen last with
        | some none => some (⟨.tup [.c (.one (.v (.bool false)))], [b, m], [], []⟩, nx)
        | some (some e) => if e.1.oneCell' then some (⟨.tup [.c (.one (.v (.bool true))), .c (.one (.v e.1)), .c e.2.2], [b, m], [], [(b, some (.it m since (seen ++ [e.2.1]) clock))]⟩, nx) else none
        | none => none
      | _ => none
    | _ => none
  | _ => none
def eEntry (x : Operand) : Res :=
  match SV (St.of L M) x with
  | .c (.ptr b 0) => match M.lookup b with
    | some (.it m since seen last) => match M.lookup m with
      | some (.mp es clock) => match entryE es clock seen last with
        | some e => if e.1.oneCell' then some (⟨.tup [.c (.one (.v e.1)), .c e.2.2], [b, m], [], []⟩, nx) else none
        | none => none
      | _ => none
    | _ => none
  | _ => none
def eBuiltin (b : Builtin) (args : Array Operand) (ts : Array TypeId) : Res :=
  match b, args.toList, ts.toList with
  | .len, [x], [T] => eLen tb L M nx T x
  | .append, [x, y], [T, T'] => if T = T' then eAppend tb L M nx T x y else none
  | .copy, [x, y], [T, T'] => eCopy tb L M nx T x y
  | .delete, [x, i], T :: _ => match tb.mp T, SV (St.of L M) x, plainV (SV (St.of L M) i) with
    | some (k, kd, z), .c (.mp b), some key => match M.lookup b with
      | some (.mp es clock) => match mfind kd key es 0 with
        | some none => some (⟨.tup [], [b], [], [(b, some (.mp es clock))]⟩, nx)
        | some (some (j, _)) => some (⟨.tup [], [b], [], [(b, some (.mp (es.eraseIdx j) clock))]⟩, nx)
        | none => none
      | _ => none
    | _, _, _ => none
  | _, _, _ => none
def eMake (T : TypeId) (x y : Operand) : Res :=
  match tb.el T, intV (SV (St.of L M) x), intV (SV (St.of L M) y) with
  | some (e, z, by'), some (k1, i), some (k2, j) => match tb.z e with
    | some zs => if zs.length = z ∧ i = j ∧ 0 ≤ i ∧ by' * i.toNat ≤ 281474976710656 ∧ i.toNat ≤ 9223372036854775807 then some (⟨.c (.row nx i.toNat), [], [nx], [(nx, some (.rw e z i.toNat ((zer zs (i.toNat * z)).map constX)))]⟩, nx + 1) else none
    | none => none
  | _, _, _ => none
def eLit (T n : Nat) (ps : List (Nat × Operand)) : Res :=
  match tb.el T with
  | some (e, z, by') => match tb.z e, partsC (St.of L M) ps with
    | some zs, some xs => if zs.length = z ∧ n * z ≤ 16777216 ∧ n ≤ 16777216 then (match fillC (fun i => some (i * z, z)) ((zer zs (n * z)).map constX) xs with
      | some cs => if (cs.flatMap Ce.nm).contains nx = false then some (⟨.c (.row nx n), [], [nx], [(nx, some (.rw e z n cs))]⟩, nx + 1) else none
      | none => none) else none
    | _, _ => none
  | none => none
def eBuild (T : TypeId) (ps : List (Nat × Operand)) : Res :=
  match partsC (St.of L M) ps with
  | some xs => match tb.pl T with
    | some (zs, pl) => match fillC (pl.toArray[·]?) (zs.map constX) xs with
      | some cs => val1 (.agg cs) nx
      | none => none
    | none => match tb.plA T with
      | some (zs, z) => match fillC (fun i => some (i * z, z)) (zs.map constX) xs with
        | some cs => val1 (.agg cs) nx
        | none => none
      | none => none
  | none => none
def evOp (o : Oper) : Res :=
  match o.op with
  | .move x => val1 (SV (St.of L M) x) nx
  | .assign x => val1 (SV (St.of L M) x) nx
  | .pick c x y => match SV (St.of L M) c with
    | .c (.one (.v (.bool b))) => val1 (if b then SV (St.of L M) x else SV (St.of L M) y) nx
    | _ => none
  | .alloc T => match tb.z T with
    | some zs => some (⟨.c (.ptr nx 0), [], [nx], [(nx, some (.bx T (zs.map constX)))]⟩, nx + 1)
    | none => none
  | .box T x => match SV (St.of L M) x with
    | .agg cs => if (cs.flatMap Ce.nm).contains nx = false then some (⟨.c (.ptr nx 0), [], [nx], [(nx, some (.bx T cs))]⟩, nx + 1) else none
    | .c c => if notJunk c = true ∧ c.nm.contains nx = false then some (⟨.c (.ptr nx 0), [], [nx], [(nx, some (.bx T [c]))]⟩, nx + 1) else none
    | _ => none
  | .build T ps => eBuild tb L M nx T ps.toList
  | .buildSlice T n ps => eLit tb L M nx T n ps.toList
  | .load T x => eLoad tb L M nx T x
  | .store T x y => match o.dst with
    | none => eStore tb L M nx T x y
    | some _ => none
  | .nilCheck x => match SV (St.of L M) x with
    | .c (.ptr b off) => val1 (.c (.ptr b off)) nx
    | _ => none
  | .binOp op T x y _ => eBin P tb L M nx op T x y
  | .unOp op T x => match SV (St.of L M) x with
    | .c (.one (.v vx)) => pureV P (Op.unary op vx) nx
    | _ => none
  | .convert S T x => match SV (St.of L M) x with
    | .c (.one (.v (.int k a))) => match tb.ik S, tb.ik T with
      | some k1, some k2 => if k1 = k then val1 (.v (.int k2 (k2.wrap a))) nx else none
      | _, _ => none
    | .c (.one (.v vx)) => pureV P (convert S T vx) nx
    | _ => none
  | .makeFunc (.func f) first captured => match capL (St.of L M) first.toList, capL (St.of L M) captured.toList with
    | some ps, some qs => val1 (.c (.fn f ps qs)) nx
    | _, _ => none
  | .makeMap T none => some (⟨.c (.mp nx), [], [nx], [(nx, some (.mp [] 0))]⟩, nx + 1)
  | .makeSlice T x y => eMake tb L M nx T x y
  | .slice T x lo hi none => eSlice tb L M nx T x lo hi
  | .slice T x none (some hi) (some mx) => eSlice3 tb L M nx T x hi mx
  | .fieldAddr T x f => eFieldAddr tb L M nx T x f
  | .field T x f => if Nat.blt f 256 then match SV (St.of L M) x, tb.fdT T f with
    | .agg cs, some (off, U) => match partCT tb U cs off with
      | some av => val1 av nx
      | none => none
    | _, _ => none
    else none
  | .indexAddr T x ix => eIndexAddr tb L M nx T x ix
  | .index T x ix => match SV (St.of L M) x, SV (St.of L M) ix with
    | .agg cs, .c (.one (.v (.int k i))) => match tb.arr T with
      | some (n, e, z) => if 0 ≤ i ∧ i < n then (match partCT tb e cs (i.toNat * z) with
        | some av => val1 av nx
        | none => none) else none
      | none => none
    | .c (.one (.v (.string s))), .c (.one (.v (.int k i))) => match tb.str T with
      | some _ => if 0 ≤ i then (match s.data.toList[i.toNat]? with
        | some b => val1 (.v (.int .u8 b.toNat)) nx
        | none => none) else none
      | none => none
    | _, _ => none
  | .lookup T x i ok => eLookup tb L M nx T x i ok
  | .mapUpdate T x i y => match o.dst with
    | none => eMap tb L M nx T x i y
    | some _ => none
  | .range T x => match SV (St.of L M) x, tb.mp T with
    | .c (.mp bm), some _ => match M.lookup bm with
      | some (.mp es clock) => if bm = nx then none else some (⟨.c (.ptr nx 0), [bm], [nx], [(nx, some (.it bm clock [] clock))]⟩, nx + 1)
      | _ => none
    | _, _ => none
  | .next x false => eNext L M nx x
  | .entry x => eEntry L M nx x
  | .extract x i => match SV (St.of L M) x with
    | .tup xs => match xs[i]? with
      | some y => val1 y.av nx
      | none => none
    | _ => none
  | .call c => match c.callee with
    | .value x => eCallM tb mm call L M nx x c.args.toList
    | .builtin b => eBuiltin tb L M nx b c.args c.argTypes
    | _ => none
  | _ => none
end
end Go.Fl
