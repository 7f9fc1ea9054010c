/- The evaluator of operations tells outcomes. -/
import Derived.Test.YtkfmdjbfffncpaaGreatFlEval
set_option linter.unusedVariables false
namespace Go.Fl
open Go.RowKit

def Bnd (L : List AV) (M : List (Nat × O)) (nx : Nat) : Prop := (∀ (t : Nat) (av : AV), L[t]? = some av → ∀ b ∈ av.nm, b < nx) ∧ ∀ (b : Nat) (x : O), M.lookup b = some x → b < nx ∧ ∀ y ∈ x.nm, y < nx
theorem Bnd.sv {L : List AV} {M : List (Nat × O)} {nx : Nat} (h : Bnd L M nx) (x : Operand) : ∀ b ∈ (SV (St.of L M) x).nm, b < nx := by
  intro b hb
  cases x with
  | tmp t =>
    simp only [SV, St.of] at hb
    cases hl : L[t]? with
    | none => rw [hl] at hb; simp [AV.nm, Ce.nm] at hb
    | some av => rw [hl] at hb; exact h.1 t av hl b hb
  | const v =>
    simp only [SV] at hb
    split at hb
    · unfold constX at hb
      split at hb <;> simp [AV.nm, Ce.nm] at hb
    · simp [AV.nm, Ce.nm] at hb
  | global g => simp [SV, AV.nm, Ce.nm] at hb
  | func f => simp [SV, AV.nm, Ce.nm] at hb

section
variable {P : Program} {tb : Tb} {mm : Memo} {cx : Cx} {ops : Array Oper} {o : Oper} {L : List AV} {M : List (Nat × O)} {nx nx' : Nat} {ev : Ev}

theorem arr2 {α : Type} {a : Array α} {x y : α} (h : a.toList = [x, y]) : a = #[x, y] := Array.ext' h
theorem arr1 {α : Type} {a : Array α} {x : α} (h : a.toList = [x]) : a = #[x] := Array.ext' h
theorem val1_eq {av : AV} (h : val1 av nx = some (ev, nx')) : ev = ⟨av, [], [], []⟩ ∧ nx' = nx := by
  simp only [val1, Option.some.injEq, Prod.mk.injEq] at h; exact ⟨h.1.symm, h.2.symm⟩
theorem notJunk_ne {c : Ce} (h : notJunk c = true) : c ≠ .junk := by intro e; subst e; cases h

theorem eLen_ok (H : Tb.OK P tb) {T : TypeId} {x : Operand} (ho : o.op = .call { callee := .builtin .len, args := #[x], argTypes := #[T] }) (hd : ∀ d, o.dst = some d → d < cx.N) (h : eLen tb L M nx T x = some (ev, nx')) : OpW P cx ops o (St.of L M) ev := by
  unfold eLen at h
  split at h
  · rename_i b n hx
    split at h
    · rename_i p hT
      obtain ⟨e, z, by'⟩ := p
      obtain ⟨rfl, _⟩ := val1_eq h
      exact op_rlen x T b n e z by' ho hd hx (H.eel hT)
    · cases h
  · rename_i b off n hx
    split at h
    · rename_i p hT
      obtain ⟨e, z, by'⟩ := p
      obtain ⟨rfl, _⟩ := val1_eq h
      exact op_sllen x T b off n e z by' ho hd hx (H.eel hT)
    · cases h
  · rename_i hx
    split at h
    · rename_i p hT
      obtain ⟨e, z, by'⟩ := p
      obtain ⟨rfl, _⟩ := val1_eq h
      exact op_nlen x T e z by' ho hd hx (H.eel hT)
    · cases h
  · rename_i f n ds hx
    split at h
    · rename_i p hT
      obtain ⟨e, z, by'⟩ := p
      obtain ⟨rfl, _⟩ := val1_eq h
      exact op_len x T f n ds e z by' ho hd hx (H.eel hT)
    · cases h
  · rename_i b hx
    split at h
    · rename_i p es clock hT hb
      obtain ⟨k, kd, z⟩ := p
      simp only [Option.some.injEq, Prod.mk.injEq] at h
      obtain ⟨rfl, rfl⟩ := h
      exact op_lenmap x T b clock k kd z es ho hd hx hb (H.emp hT)
    · cases h
  · cases h

theorem eLoad_ok (H : Tb.OK P tb) {T : TypeId} {x : Operand} (ho : o.op = .load T x) (hd : ∀ d, o.dst = some d → d < cx.N) (h : eLoad tb L M nx T x = some (ev, nx')) : OpW P cx ops o (St.of L M) ev := by
  unfold eLoad at h
  split at h
  · rename_i b off hx
    split at h
    · rename_i ob z hb hT
      split at h
      · rename_i hl
        simp only [Option.some.injEq, Prod.mk.injEq] at h
        obtain ⟨rfl, rfl⟩ := h
        exact op_load_agg T x b off ob _ ho hd hx hb (by rw [hl]; exact H.esz hT) (by rw [hl])
      · cases h
    · rename_i ob hb hT
      split at h
      · rename_i c hc
        simp only [Option.some.injEq, Prod.mk.injEq] at h
        obtain ⟨rfl, rfl⟩ := h
        exact op_load T x b off ob c ho hd hx hb (H.esz hT) hc
      · cases h
    · cases h
  · rename_i f ds hx
    split at h
    · rename_i z hT
      split at h
      · rename_i hl
        obtain ⟨rfl, _⟩ := val1_eq h
        exact op_eload_agg T x f ds _ ho hd hx (by rw [hl]; exact H.esz hT) (by rw [hl])
      · cases h
    · rename_i hT
      split at h
      · rename_i d hc
        obtain ⟨rfl, _⟩ := val1_eq h
        exact op_eload T x f ds d ho hd hx (H.esz hT) hc
      · cases h
    · cases h
  · cases h

theorem eStore_ok (H : Tb.OK P tb) {T : TypeId} {x y : Operand} (ho : o.op = .store T x y) (hd : o.dst = none) (h : eStore tb L M nx T x y = some (ev, nx')) : OpW P cx ops o (St.of L M) ev := by
  unfold eStore at h
  split at h
  · rename_i b off hx
    split at h
    · rename_i ob z xs hb hT hy
      split at h
      · rename_i hl
        simp only [Option.some.injEq, Prod.mk.injEq] at h
        obtain ⟨rfl, rfl⟩ := h
        exact op_store_agg T x y b off ob xs _ ho hd hx hy hb (by rw [hl.1]; exact H.esz hT) hl.2 rfl
      · cases h
    · rename_i ob c hb hT hy
      split at h
      · rename_i hl
        simp only [Option.some.injEq, Prod.mk.injEq] at h
        obtain ⟨rfl, rfl⟩ := h
        exact op_store T x y b off ob c _ ho hd hx hy (notJunk_ne hl.1) hb (H.esz hT) hl.2 rfl
      · cases h
    · cases h
  · cases h

theorem eIndexAddr_ok (H : Tb.OK P tb) {T : TypeId} {x ix : Operand} (ho : o.op = .indexAddr T x ix) (hd : ∀ d, o.dst = some d → d < cx.N) (h : eIndexAddr tb L M nx T x ix = some (ev, nx')) : OpW P cx ops o (St.of L M) ev := by
  unfold eIndexAddr at h
  split at h
  · rename_i e z by' k i b n hT hi hx
    split at h
    · rename_i E z' n' cs hb
      split at h
      · rename_i hl
        simp only [Option.some.injEq, Prod.mk.injEq] at h
        obtain ⟨rfl, rfl⟩ := h
        exact op_rindex T x ix b n n' E e z z' by' cs k i ho hd hx (intV_eq hi) hb (H.eel hT) hl.1 hl.2
      · cases h
    · cases h
  · rename_i e z by' k i b off n hT hi hx
    split at h
    · rename_i hl
      obtain ⟨rfl, _⟩ := val1_eq h
      exact op_slindex T x ix b off n e z by' k i ho hd hx (intV_eq hi) (H.eel hT) hl.1 hl.2
    · cases h
  · rename_i e z by' k i f n ds hT hi hx
    split at h
    · rename_i hl
      obtain ⟨rfl, _⟩ := val1_eq h
      exact op_index T x ix f n e z by' ds k i ho hd hx (intV_eq hi) (H.eel hT) hl.1 hl.2.1 hl.2.2
    · cases h
  · cases h

theorem eFieldAddr_ok (H : Tb.OK P tb) {T : TypeId} {x : Operand} {f : Nat} (ho : o.op = .fieldAddr T x f) (hd : ∀ d, o.dst = some d → d < cx.N) (h : eFieldAddr tb L M nx T x f = some (ev, nx')) : OpW P cx ops o (St.of L M) ev := by
  unfold eFieldAddr at h
  split at h
  case isFalse => cases h
  rename_i hlt
  have hlt : f < 256 := Nat.le_of_ble_eq_true hlt
  split at h
  · rename_i fo z g b off hT hx
    split at h
    · cases h
    · rename_i hz
      obtain ⟨rfl, _⟩ := val1_eq h
      exact op_field T x f b off fo z g ho hd hx (H.efd hlt hT) (by simpa using hz)
  · rename_i fo z g fl ds hT hx
    split at h
    · cases h
    · rename_i hz
      obtain ⟨rfl, _⟩ := val1_eq h
      exact op_efield T x f fo z g fl ds ho hd hx (H.efd hlt hT) (by simpa using hz)
  · cases h

theorem eBin_ok (H : Tb.OK P tb) {op : BinOp} {T U : TypeId} {x y : Operand} (ho : o.op = .binOp op T x y U) (hd : ∀ d, o.dst = some d → d < cx.N) (h : eBin P tb L M nx op T x y = some (ev, nx')) : OpW P cx ops o (St.of L M) ev := by
  unfold eBin at h
  split at h
  · rename_i a b hx hy
    split at h
    · rename_i u hT
      split at h
      · rename_i hop
        obtain ⟨rfl, _⟩ := val1_eq h
        exact op_beq false T x y U a b (by rw [ho, hop]; rfl) hd hx hy (H.ebl hT)
      · split at h
        · rename_i hop
          obtain ⟨rfl, _⟩ := val1_eq h
          exact op_beq true T x y U a b (by rw [ho, hop]; rfl) hd hx hy (H.ebl hT)
        · cases h
    · cases h
  · rename_i vx vy _ hx hy
    obtain ⟨v, h1, h2, rfl, _⟩ := pureV_eq h
    exact op_binp op T x y U vx vy v ho hd hx hy h1 h2
  · rename_i b off hx hy
    split at h
    · rename_i e hT
      split at h
      · rename_i hop
        obtain ⟨rfl, _⟩ := val1_eq h
        exact op_eqnil false T x y U e b off (by rw [ho, hop]; rfl) hd hx hy (H.eptr hT)
      · split at h
        · rename_i hop
          obtain ⟨rfl, _⟩ := val1_eq h
          exact op_eqnil true T x y U e b off (by rw [ho, hop]; rfl) hd hx hy (H.eptr hT)
        · cases h
    · cases h
  · cases h

theorem eSlice_ok (H : Tb.OK P tb) {T : TypeId} {x : Operand} {lo hi : Option Operand} (ho : o.op = .slice T x lo hi none) (hd : ∀ d, o.dst = some d → d < cx.N) (h : eSlice tb L M nx T x lo hi = some (ev, nx')) : OpW P cx ops o (St.of L M) ev := by
  unfold eSlice at h
  split at h
  · rename_i e z by' l hh y hT hlo hhi hx
    split at h
    · rename_i n hy
      split at h
      · rename_i hr
        obtain ⟨r1, r2, r3⟩ := hr
        split at h
        · rename_i h0
          split at h
          · rename_i b k
            split at h
            · rename_i E z' n' cs hb
              simp only [Option.some.injEq, Prod.mk.injEq] at h
              obtain ⟨rfl, rfl⟩ := h
              exact op_slice0 T x lo hi l hh _ n e z by' ho hd hx hy (fun b' k' he => by injection he with e1 e2; subst e1; exact ⟨E, z', n', cs, hb⟩) hlo hhi (H.eel hT) ⟨r1, h0⟩ r3
            · cases h
          · rename_i hne
            simp only [Option.some.injEq, Prod.mk.injEq] at h
            obtain ⟨rfl, rfl⟩ := h
            exact op_slice0 T x lo hi l hh _ n e z by' ho hd hx hy (fun b' k' he => (hne b' k' he).elim) hlo hhi (H.eel hT) ⟨r1, h0⟩ r3
        · rename_i h0
          split at h
          · rename_i b k
            split at h
            · rename_i E z' n' cs hb
              simp only [lenC, Option.some.injEq] at hy
              subst hy
              simp only [Option.some.injEq, Prod.mk.injEq] at h
              obtain ⟨rfl, rfl⟩ := h
              exact op_rslice T x lo hi l hh b k e z by' _ _ E z' n' cs ho hd hx hb hlo hhi (H.eel hT) ⟨r1, by omega⟩ r3 rfl rfl
            · cases h
          · rename_i b off k
            simp only [lenC, Option.some.injEq] at hy
            subst hy
            obtain ⟨rfl, _⟩ := val1_eq h
            exact op_slslice T x lo hi l hh b off k e z by' _ _ ho hd hx hlo hhi (H.eel hT) ⟨r1, by omega⟩ r3 rfl rfl
          · rename_i f k ds
            simp only [lenC, Option.some.injEq] at hy
            subst hy
            split at h
            · rename_i hz
              obtain ⟨rfl, _⟩ := val1_eq h
              exact op_slice T x lo hi l hh f k e z by' ds _ _ ho hd hx hlo hhi (H.eel hT) hz.1 ⟨r1, r2⟩ r3 hz.2 rfl rfl
            · cases h
          · cases h
      · cases h
    · cases h
  · cases h

theorem eSlice3_ok (H : Tb.OK P tb) {T : TypeId} {x hi mx : Operand} (ho : o.op = .slice T x none (some hi) (some mx)) (hd : ∀ d, o.dst = some d → d < cx.N) (h : eSlice3 tb L M nx T x hi mx = some (ev, nx')) : OpW P cx ops o (St.of L M) ev := by
  unfold eSlice3 at h
  split at h
  · rename_i e z by' kh hh km m y hT hhi hmx hx
    split at h
    · rename_i n hy
      split at h
      · rename_i hr
        obtain ⟨rfl, r2, r3⟩ := hr
        split at h
        · rename_i av hav
          unfold av3 at hav
          split at h
          · rename_i b k
            split at h
            · rename_i E z' n' cs hb
              simp only [Option.some.injEq, Prod.mk.injEq] at h
              obtain ⟨rfl, rfl⟩ := h
              exact op_slice3 T x hi mx kh km hh _ n e z by' av ho hd hx hy (fun b' k' he => by injection he with e1 e2; subst e1; exact ⟨E, z', n', cs, hb⟩) (intV_eq hhi) (intV_eq hmx) (H.eel hT) r2 r3 hav
            · cases h
          · rename_i hne
            simp only [Option.some.injEq, Prod.mk.injEq] at h
            obtain ⟨rfl, rfl⟩ := h
            exact op_slice3 T x hi mx kh km hh _ n e z by' av ho hd hx hy (fun b' k' he => (hne b' k' he).elim) (intV_eq hhi) (intV_eq hmx) (H.eel hT) r2 r3 hav
        · cases h
      · cases h
    · cases h
  · cases h
theorem eAppend_ok (H : Tb.OK P tb) {T : TypeId} {x y : Operand} (ho : o.op = .call { callee := .builtin .append, args := #[x, y], argTypes := #[T, T] }) (hd : ∀ d, o.dst = some d → d < cx.N) (hnf : cx.nf nx = false) (h : eAppend tb L M nx T x y = some (ev, nx')) : OpW P cx ops o (St.of L M) ev := by
  unfold eAppend at h
  split at h
  · rename_i e z by' hT
    split at h
    · rename_i zs m cs2 rd2 hz hy
      split at h
      · rename_i hzl
        split at h
        · rename_i hx
          split at h
          · rename_i hc
            simp only [Option.some.injEq, Prod.mk.injEq] at h
            obtain ⟨rfl, rfl⟩ := h
            exact op_append0 x y T nx m e z by' rd2 zs cs2 ho hd hnf hx hy (H.eel hT) (H.ez hz) hzl.1 hzl.2 hc.1 hc.2.1 hc.2.2
          · cases h
        · rename_i b n hx
          split at h
          · rename_i e' z' n' cs hb
            split at h
            · rename_i hc
              obtain ⟨rfl, rfl, rfl, c1, c2, c3⟩ := hc
              simp only [Option.some.injEq, Prod.mk.injEq] at h
              obtain ⟨rfl, rfl⟩ := h
              exact op_appendG x y T b nx _ m _ _ by' rd2 zs cs cs2 ho hd hnf hx hy hb (H.eel hT) (H.ez hz) hzl.1 hzl.2 c1 c2 c3
            · cases h
          · cases h
        · cases h
      · cases h
    · cases h
  · cases h

theorem eCopy_ok (H : Tb.OK P tb) {T T' : TypeId} {x y : Operand} (ho : o.op = .call { callee := .builtin .copy, args := #[x, y], argTypes := #[T, T'] }) (hd : ∀ d, o.dst = some d → d < cx.N) (h : eCopy tb L M nx T x y = some (ev, nx')) : OpW P cx ops o (St.of L M) ev := by
  unfold eCopy at h
  split at h
  · rename_i e z by' hT
    split at h
    · rename_i m cs2 rd2 hy
      split at h
      · rename_i hz
        split at h
        · rename_i b off n hx
          split at h
          · rename_i ob hb
            split at h
            · rename_i hl
              simp only [Option.some.injEq, Prod.mk.injEq] at h
              obtain ⟨rfl, rfl⟩ := h
              exact op_copyG x y T T' b off n m e z by' rd2 ob cs2 ho hd (.inl hx) hy hb hl (H.eel hT) hz
            · cases h
          · cases h
        · rename_i b n hx
          split at h
          · rename_i ob hb
            split at h
            · rename_i hl
              simp only [Option.some.injEq, Prod.mk.injEq] at h
              obtain ⟨rfl, rfl⟩ := h
              exact op_copyG x y T T' b 0 n m e z by' rd2 ob cs2 ho hd (.inr ⟨hx, rfl⟩) hy hb hl (H.eel hT) hz
            · cases h
          · cases h
        · cases h
      · cases h
    · cases h
  · cases h

theorem eMap_ok (H : Tb.OK P tb) {T : TypeId} {x i y : Operand} (ho : o.op = .mapUpdate T x i y) (hd : o.dst = none) (h : eMap tb L M nx T x i y = some (ev, nx')) : OpW P cx ops o (St.of L M) ev := by
  unfold eMap at h
  split at h
  · rename_i k kd z b key c hT hx hi hy
    split at h
    · rename_i es clock hb
      split at h
      · rename_i hj
        split at h
        · rename_i hf
          simp only [Option.some.injEq, Prod.mk.injEq] at h
          obtain ⟨rfl, rfl⟩ := h
          exact op_mapUpdate T x i y b clock _ k kd z key es _ none c ho hd hx (plainV_eq hi) hy (notJunk_ne hj) hb (H.emp hT) hf rfl
        · rename_i j c0 hf
          simp only [Option.some.injEq, Prod.mk.injEq] at h
          obtain ⟨rfl, rfl⟩ := h
          exact op_mapUpdate T x i y b clock _ k kd z key es _ (some (j, c0)) c ho hd hx (plainV_eq hi) hy (notJunk_ne hj) hb (H.emp hT) hf rfl
        · cases h
      · cases h
    · cases h
  · cases h

theorem eLookup_ok (H : Tb.OK P tb) {T : TypeId} {x i : Operand} {ok : Bool} (ho : o.op = .lookup T x i ok) (hd : ∀ d, o.dst = some d → d < cx.N) (h : eLookup tb L M nx T x i ok = some (ev, nx')) : OpW P cx ops o (St.of L M) ev := by
  unfold eLookup at h
  split at h
  · rename_i k kd z key b hT hi hx
    split at h
    · rename_i es clock hb
      split at h
      · rename_i r hf
        simp only [Option.some.injEq, Prod.mk.injEq] at h
        obtain ⟨rfl, rfl⟩ := h
        exact op_lookup T x i ok b clock k kd z key es r _ ho hd hx (plainV_eq hi) hb (H.emp hT) hf rfl
      · cases h
    · cases h
  · rename_i k kd z key hT hi hx
    obtain ⟨rfl, _⟩ := val1_eq h
    exact op_lookup_nil T x i ok k kd z key _ ho hd hx (plainV_eq hi) (H.emp hT) rfl
  · cases h

theorem eNext_ok {x : Operand} (ho : o.op = .next x false) (hd : ∀ d, o.dst = some d → d < cx.N) (h : eNext L M nx x = some (ev, nx')) : OpW P cx ops o (St.of L M) ev := by
  unfold eNext at h
  split at h
  · rename_i b hx
    split at h
    · rename_i m since seen last hb
      split at h
      · rename_i es clock hm
        split at h
        · rename_i hn
          simp only [Option.some.injEq, Prod.mk.injEq] at h
          obtain ⟨rfl, rfl⟩ := h
          exact op_next_over 0 x b m since last clock seen es ho hd hx hb hm hn
        · rename_i e hn
          split at h
          · rename_i hk
            simp only [Option.some.injEq, Prod.mk.injEq] at h
            obtain ⟨rfl, rfl⟩ := h
            exact op_next_one 0 x b m since last clock seen es e ho hd hx hb hm hn hk
          · cases h
        · cases h
      · cases h
    · cases h
  · cases h

theorem eEntry_ok {x : Operand} (ho : o.op = .entry x) (hd : ∀ d, o.dst = some d → d < cx.N) (h : eEntry L M nx x = some (ev, nx')) : OpW P cx ops o (St.of L M) ev := by
  unfold eEntry at h
  split at h
  · rename_i b hx
    split at h
    · rename_i m since seen last hb
      split at h
      · rename_i es clock hm
        split at h
        · rename_i e hn
          split at h
          · rename_i hk
            simp only [Option.some.injEq, Prod.mk.injEq] at h
            obtain ⟨rfl, rfl⟩ := h
            exact op_entry x b m since last clock seen es e ho hd hx hb hm hn hk
          · cases h
        · cases h
      · cases h
    · cases h
  · cases h

theorem eBuiltin_ok (H : Tb.OK P tb) {b : Builtin} {args : Array Operand} {ts : Array TypeId} (ho : o.op = .call { callee := .builtin b, args := args, argTypes := ts }) (hd : ∀ d, o.dst = some d → d < cx.N) (hnf : cx.nf nx = false) (h : eBuiltin tb L M nx b args ts = some (ev, nx')) : OpW P cx ops o (St.of L M) ev := by
  unfold eBuiltin at h
  split at h
  · rename_i x T ha ht
    have ha := arr1 ha
    have ht := arr1 ht
    subst ha; subst ht
    exact eLen_ok H ho hd h
  · rename_i x y T T' ha ht
    have ha := arr2 ha
    have ht := arr2 ht
    subst ha; subst ht
    split at h
    · rename_i hTT
      subst hTT
      exact eAppend_ok H ho hd hnf h
    · cases h
  · rename_i x y T T' ha ht
    have ha := arr2 ha
    have ht := arr2 ht
    subst ha; subst ht
    exact eCopy_ok H ho hd h
  · rename_i x i T r ha ht
    have ha := arr2 ha
    subst ha
    have hts : ts[0]? = some T := by
      rw [← Array.getElem?_toList, ht]; rfl
    split at h
    · rename_i k kd z b key hT hx hi
      split at h
      · rename_i es clock hb
        split at h
        · rename_i hf
          simp only [Option.some.injEq, Prod.mk.injEq] at h
          obtain ⟨rfl, rfl⟩ := h
          exact op_delete T ts x i b clock k kd z key es _ none ho hts hd hx (plainV_eq hi) hb (H.emp hT) hf rfl
        · rename_i j c hf
          simp only [Option.some.injEq, Prod.mk.injEq] at h
          obtain ⟨rfl, rfl⟩ := h
          exact op_delete T ts x i b clock k kd z key es _ (some (j, c)) ho hts hd hx (plainV_eq hi) hb (H.emp hT) hf rfl
        · cases h
      · cases h
    · cases h
  · cases h

theorem eMake_ok (H : Tb.OK P tb) {T : TypeId} {x y : Operand} (ho : o.op = .makeSlice T x y) (hd : ∀ d, o.dst = some d → d < cx.N) (hnf : cx.nf nx = false) (h : eMake tb L M nx T x y = some (ev, nx')) : OpW P cx ops o (St.of L M) ev := by
  unfold eMake at h
  split at h
  · rename_i e z by' k1 i k2 j hT hx hy
    split at h
    · rename_i zs hz
      split at h
      · rename_i hc
        obtain ⟨c1, rfl, c3, c4, c5⟩ := hc
        simp only [Option.some.injEq, Prod.mk.injEq] at h
        obtain ⟨rfl, rfl⟩ := h
        have hi : ((i.toNat : Nat) : Int) = i := Int.toNat_of_nonneg c3
        exact op_make T e z by' nx i.toNat x y k1 k2 zs _ ho hd hnf (by rw [hi]; exact intV_eq hx) (by rw [hi]; exact intV_eq hy) (H.eel hT) (H.ez hz) c1 c4 c5 rfl
      · cases h
    · cases h
  · cases h

theorem eLit_ok (H : Tb.OK P tb) {T n : Nat} {ps : List (Nat × Operand)} (ho : o.op = .buildSlice T n ps.toArray) (hd : ∀ d, o.dst = some d → d < cx.N) (hnf : cx.nf nx = false) (h : eLit tb L M nx T n ps = some (ev, nx')) : OpW P cx ops o (St.of L M) ev := by
  unfold eLit at h
  split at h
  · rename_i e z by' hT
    split at h
    · rename_i zs xs hz hp
      split at h
      · rename_i hc
        split at h
        · rename_i cs hf
          split at h
          · rename_i hn
            simp only [Option.some.injEq, Prod.mk.injEq] at h
            obtain ⟨rfl, rfl⟩ := h
            exact op_litrow T e z by' n nx ps zs xs cs ho hd hnf (H.eel hT) (H.ez hz) hc.1 hp hc.2.1 hc.2.2 hf hn
          · cases h
        · cases h
      · cases h
    · cases h
  · cases h

theorem op_buildA (T : TypeId) (ps : List (Nat × Operand)) (zs : List Value) (z : Nat) (xs : List (Nat × List Ce)) (cs : List Ce) {σi : St} (ho : o.op = .build T ps.toArray) (hd : ∀ d, o.dst = some d → d < cx.N) (hT : tPlA P T = some (zs, z)) (hp : partsC σi ps = some xs)
    (hf : fillC (fun i => some (i * z, z)) (zs.map constX) xs = some cs) : OpW P cx ops o σi ⟨.agg cs, [], [], []⟩ :=
  opw_val hd fun σ μ a w hs h2 hc => by
    have hp' := (partsC_same hs ps (fun p hp => by simp only [ho, Op.operands]; simpa using ⟨p.1, hp⟩)).trans hp
    obtain ⟨g1, g2⟩ := partsC_ok hc ps xs hp'
    unfold tPlA at hT
    split at hT
    · rename_i n e hu
      split at hT
      · rename_i z' ie hz hie
        simp only [Option.some.injEq, Prod.mk.injEq] at hT
        obtain ⟨rfl, rfl⟩ := hT
        obtain ⟨i, zz, q1, q2, q3, q4⟩ := tZ_info hz
        obtain ⟨us', e1, e2⟩ := fill_rd (fun i => some (i * ie.size, ie.size)) _ xs z' _ cs g1 g2 (rdl_zero q4) hf
        have hb : P.built T (ps.map fun p => (p.1, a.eval p.2)) = some us'.toArray := by
          simp only [Program.built, q1, hu, q2, hie, q3]
          exact e1
        refine ⟨.agg us'.toArray, ?_, .agg _ _ e2⟩
        have hrun := run_build (P := P) w T (ps.toArray.map fun p => (p.1, a.eval p.2)) us'.toArray (by simpa using hb)
        simp only [execOp, ho, Sem.run_bind]
        have e3 : (ps.toArray.map fun x => match x with | (i, x) => (i, a.eval x)) = ps.toArray.map fun p => (p.1, a.eval p.2) := by
          apply congrArg (fun f => ps.toArray.map f)
          funext ⟨i, x⟩; rfl
        rw [e3, hrun]
        rfl
      · cases hT
    · cases hT
theorem eBuild_ok (H : Tb.OK P tb) {T : TypeId} {ps : List (Nat × Operand)} (ho : o.op = .build T ps.toArray) (hd : ∀ d, o.dst = some d → d < cx.N) (h : eBuild tb L M nx T ps = some (ev, nx')) : OpW P cx ops o (St.of L M) ev := by
  unfold eBuild at h
  split at h
  · rename_i xs hp
    split at h
    · rename_i zs pl hT
      split at h
      · rename_i cs hf
        obtain ⟨rfl, _⟩ := val1_eq h
        exact op_build T ps zs pl xs cs ho hd (H.epl hT) hp hf
      · cases h
    · split at h
      · rename_i zs z hT
        split at h
        · rename_i cs hf
          obtain ⟨rfl, _⟩ := val1_eq h
          exact op_buildA T ps zs z xs cs ho hd (H.eplA hT) hp hf
        · cases h
      · cases h
  · cases h

def CallOK (P : Program) (call : CallH) : Prop := ∀ (cx : Cx) (ops : Array Oper) (o : Oper) (L : List AV) (M : List (Nat × O)) (nx nx' : Nat) (x : Operand) (xs : List Operand) (ts : Array TypeId) (ev : Ev), Bnd L M nx → o.op = .call { callee := .value x, args := xs.toArray, argTypes := ts } → (∀ d, o.dst = some d → d < cx.N) → (∀ b, nx ≤ b → cx.nf b = false) →
  eCall call L M nx x xs = some (ev, nx') → OpW P cx ops o (St.of L M) ev

theorem evOp_ok (H : Tb.OK P tb) (HM : Memo.OK P mm) {call : CallH} (hcall : CallOK P call) (hB : Bnd L M nx) (hd : ∀ d, o.dst = some d → d < cx.N) (hnf : ∀ b, nx ≤ b → cx.nf b = false) (h : evOp P tb mm call L M nx o = some (ev, nx')) : OpW P cx ops o (St.of L M) ev := by
  have hn0 := hnf nx (Nat.le_refl _)
  unfold evOp at h
  split at h
  · rename_i x ho
    obtain ⟨rfl, _⟩ := val1_eq h
    exact op_move x _ ho hd rfl
  · rename_i x ho
    obtain ⟨rfl, _⟩ := val1_eq h
    exact op_assign x _ ho hd rfl
  · rename_i c x y ho
    split at h
    · rename_i b hc
      obtain ⟨rfl, _⟩ := val1_eq h
      exact op_pick c x y b _ ho hd hc rfl
    · cases h
  · rename_i T ho
    split at h
    · rename_i zs hz
      simp only [Option.some.injEq, Prod.mk.injEq] at h
      obtain ⟨rfl, rfl⟩ := h
      exact op_alloc T nx zs _ ho hd hn0 (H.ez hz) rfl
    · cases h
  · rename_i T x ho
    split at h
    · rename_i cs hx
      split at h
      · rename_i hc
        simp only [Option.some.injEq, Prod.mk.injEq] at h
        obtain ⟨rfl, rfl⟩ := h
        exact op_box_agg T x nx cs ho hd hn0 hc hx
      · cases h
    · rename_i c hx
      split at h
      · rename_i hc
        simp only [Option.some.injEq, Prod.mk.injEq] at h
        obtain ⟨rfl, rfl⟩ := h
        exact op_box T x nx c ho hd hn0 hc.2 (notJunk_ne hc.1) hx
      · cases h
    · cases h
  · rename_i T ps ho
    exact eBuild_ok H (by rw [ho, Array.toArray_toList]) hd h
  · rename_i T n ps ho
    exact eLit_ok H (by rw [ho, Array.toArray_toList]) hd hn0 h
  · rename_i T x ho
    exact eLoad_ok H ho hd h
  · rename_i T x y ho
    split at h
    · rename_i hdst
      exact eStore_ok H ho hdst h
    · cases h
  · rename_i x ho
    split at h
    · rename_i b off hx
      obtain ⟨rfl, _⟩ := val1_eq h
      exact op_nilCheck x b off ho hd hx
    · cases h
  · rename_i op T x y U ho
    exact eBin_ok H ho hd h
  · rename_i op T x ho
    split at h
    · rename_i vx hx
      obtain ⟨v, h1, h2, rfl, _⟩ := pureV_eq h
      exact op_unp op T x vx v ho hd hx h1 h2
    · cases h
  · rename_i S T x ho
    split at h
    · rename_i k a hx
      split at h
      · rename_i k1 k2 hS hT
        split at h
        · rename_i hk
          subst hk
          obtain ⟨rfl, _⟩ := val1_eq h
          exact op_iconv S T x k1 k2 a _ ho hd hx (H.eik hS) (H.eik hT) rfl
        · cases h
      · cases h
    · rename_i vx _ hx
      obtain ⟨v, h1, h2, rfl, _⟩ := pureV_eq h
      exact op_convp S T x vx v ho hd hx h1 h2
    · cases h
  · rename_i f first captured ho
    split at h
    · rename_i ps qs h1 h2
      obtain ⟨rfl, _⟩ := val1_eq h
      exact op_makeFunc f first captured ps qs ho hd h1 h2
    · cases h
  · rename_i T ho
    simp only [Option.some.injEq, Prod.mk.injEq] at h
    obtain ⟨rfl, rfl⟩ := h
    exact op_makeMap T nx ho hd hn0
  · rename_i T x y ho
    exact eMake_ok H ho hd hn0 h
  · rename_i T x lo hi ho
    exact eSlice_ok H ho hd h
  · rename_i T x hi mx ho
    exact eSlice3_ok H ho hd h
  · rename_i T x f ho
    exact eFieldAddr_ok H ho hd h
  · rename_i T x f ho
    split at h
    · rename_i hlt
      have hlt : f < 256 := Nat.le_of_ble_eq_true hlt
      split at h
      · rename_i cs off U hx hf
        split at h
        · rename_i av hp
          obtain ⟨rfl, _⟩ := val1_eq h
          exact op_fieldv T x f off U cs av ho hd hx (H.efdT hlt hf) (partCT_eq H hp)
        · cases h
      · cases h
    · cases h
  · rename_i T x ix ho
    exact eIndexAddr_ok H ho hd h
  · rename_i T x ix ho
    split at h
    · rename_i cs k i hx hi
      split at h
      · rename_i n e z hT
        split at h
        · rename_i hl
          split at h
          · rename_i av hp
            obtain ⟨rfl, _⟩ := val1_eq h
            exact op_indexv T x ix n e z k i cs av ho hd hx hi (H.earr hT) hl.1 hl.2 (partCT_eq H hp)
          · cases h
        · cases h
      · cases h
    · rename_i s k i hx hi
      split at h
      · rename_i u hT
        split at h
        · rename_i h0
          split at h
          · rename_i b hb
            obtain ⟨rfl, _⟩ := val1_eq h
            exact op_indexstr T x ix s k i b ho hd hx hi (H.estr hT) h0 hb
          · cases h
        · cases h
      · cases h
    · cases h
  · rename_i T x i ok ho
    exact eLookup_ok H ho hd h
  · rename_i T x i y ho
    split at h
    · rename_i hdst
      exact eMap_ok H ho hdst h
    · cases h
  · rename_i T x ho
    split at h
    · rename_i bm p hx hT
      obtain ⟨k, kd, z⟩ := p
      split at h
      · rename_i es clock hb
        split at h
        · cases h
        · rename_i hne
          simp only [Option.some.injEq, Prod.mk.injEq] at h
          obtain ⟨rfl, rfl⟩ := h
          exact op_range T x nx bm clock k kd z es ho hd hn0 hne hx hb (H.emp hT)
      · cases h
    · cases h
  · rename_i x ho
    exact eNext_ok ho hd h
  · rename_i x ho
    exact eEntry_ok ho hd h
  · rename_i x i ho
    split at h
    · rename_i xs hx
      split at h
      · rename_i y hi
        obtain ⟨rfl, _⟩ := val1_eq h
        exact op_extract x i xs y _ ho hd hx hi rfl
      · cases h
    · cases h
  · rename_i c ho
    obtain ⟨callee, args, ts⟩ := c
    simp only at h
    split at h
    · rename_i x
      have ho' : o.op = .call { callee := .value x, args := args.toList.toArray, argTypes := ts } := by rw [ho, Array.toArray_toList]
      have hback : ∀ ev nx', eCall call L M nx x args.toList = some (ev, nx') → OpW P cx ops o (St.of L M) ev := fun ev nx' h => hcall cx ops o L M nx nx' x args.toList ts ev hB ho' hd hnf h
      unfold eCallM at h
      split at h
      · rename_i f fs cs hx
        split at h
        · rename_i he
          simp only [Bool.and_eq_true, Array.isEmpty_iff] at he
          obtain ⟨rfl, rfl⟩ := he
          split at h
          · rename_i ps hps
            split at h
            · rename_i r fn hr hfn
              split at h
              · rename_i hb
                obtain ⟨c, hb⟩ := Option.isSome_iff_exists.1 hb
                have hct : CT P f ps r := CT.lo (memoGet_ok HM hr) rfl
                split at h
                · rename_i hrow
                  obtain ⟨rfl, _⟩ := val1_eq h
                  exact op_call f fn c x args.toList ts ps r _ ho' hd hx (H.efn hfn) (H.ename hfn) hb hrow hps hct rfl
                · rename_i b bs hrow
                  split at h
                  · rename_i hn
                    simp only [Option.some.injEq, Prod.mk.injEq] at h
                    obtain ⟨rfl, rfl⟩ := h
                    exact op_callL (b :: bs) f fn c x args.toList ts ps r _ ho' hd hx (H.efn hfn) (H.ename hfn) hb hrow hps hct hn rfl
                  · exact hback _ _ h
              · exact hback _ _ h
            · exact hback _ _ h
          · exact hback _ _ h
        · exact hback _ _ h
      · exact hback _ _ h
    · rename_i b
      exact eBuiltin_ok H ho hd hn0 h
    · cases h
  · cases h
end
end Go.Fl
