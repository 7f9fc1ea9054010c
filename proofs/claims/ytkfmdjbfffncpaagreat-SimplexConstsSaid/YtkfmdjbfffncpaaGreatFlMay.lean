/- A guarded operation whose guard is open. -/
import Derived.Test.YtkfmdjbfffncpaaGreatFlEnc
set_option linter.unusedVariables false
namespace Go.Fl
open Go.RowKit
section
variable {P : Program} {cx : Cx} {ops : Array Oper} {o : Oper} {σi : St}
/-- A slot that is filled just if b is as wanted. -/
def may (b want : Bool) (av : AV) : AV := if b = want then av else .c .junk
theorem may_pos {b want : Bool} {av : AV} (h : b = want) : may b want av = av := if_pos h

theorem RdA.may {w : World} {ok : Bool → Nat → Prop} {μ : Nat → Option Value} {v : Value} {b want : Bool} {av : AV} (h : b = want → RdA w ok μ v av) : RdA w ok μ v (Fl.may b want av) := by
  unfold Fl.may
  split
  · exact h (by assumption)
  · exact .none _
theorem OpOK.may {av : AV} {rd : List Nat} (g : Nat) (want : Bool) (t : Nat) (b : Bool) (hg : o.guard = some (g, want)) (ht : (ops[g]?).bind (·.dst) = some t) (hN : t < cx.N) (hs : σi.S t = .v (.bool b)) (hd : ∀ d, o.dst = some d → d < cx.N)
    (h : b = want → OpW P cx ops o σi ⟨av, rd, [], []⟩) : OpOK P cx ops o σi ⟨Fl.may b want av, rd, [], []⟩ := fun σ a w h1 h2 h3 h4 K Q hK => by
  by_cases hb : b = want
  · have e : Fl.may b want av = av := may_pos hb
    rw [e] at hK
    subst hb
    exact OpOK.yes g b t hg ht hN hs (h rfl) σ a w h1 h2 h3 h4 K Q hK
  · have e : Fl.may b want av = .c .junk := if_neg hb
    rw [e] at hK
    have hb' : b = !want := by cases b <;> cases want <;> simp_all
    refine OpOK.no (ops := ops) (o := o) (σi := σi) g want t hg ht hN (by rw [hs, hb']) hd σ a w h1 (by simp) (by intro x hx; cases hx) h4 K Q ?_
    intro a' w' hc
    exact hK a' w' hc
theorem op_pick_and (c x : Operand) (y : Operand) (b d : Bool) (ho : o.op = .pick c x y) (hd : ∀ d, o.dst = some d → d < cx.N) (hc : SV σi c = .v (.bool b)) (hx : SV σi x = Fl.may b true (.v (.bool d))) (hy : SV σi y = .v (.bool false)) :
    OpW P cx ops o σi ⟨.v (.bool (b && d)), [], [], []⟩ :=
  op_pick c x y b _ ho hd hc (by rw [hx, hy]; cases b <;> rfl)
theorem op_pick_or (c x : Operand) (y : Operand) (b d : Bool) (ho : o.op = .pick c x y) (hd : ∀ d, o.dst = some d → d < cx.N) (hc : SV σi c = .v (.bool b)) (hx : SV σi x = .v (.bool true)) (hy : SV σi y = Fl.may b false (.v (.bool d))) :
    OpW P cx ops o σi ⟨.v (.bool (b || d)), [], [], []⟩ :=
  op_pick c x y b _ ho hd hc (by rw [hx, hy]; cases b <;> rfl)
theorem op_pick_bool (c x y : Operand) (b d e : Bool) (ho : o.op = .pick c x y) (hd : ∀ d, o.dst = some d → d < cx.N) (hc : SV σi c = .v (.bool b)) (hx : SV σi x = .v (.bool d)) (hy : SV σi y = .v (.bool e)) :
    OpW P cx ops o σi ⟨.v (.bool (if b then d else e)), [], [], []⟩ :=
  op_pick c x y b _ ho hd hc (by rw [hx, hy]; cases b <;> rfl)
end
end Go.Fl
