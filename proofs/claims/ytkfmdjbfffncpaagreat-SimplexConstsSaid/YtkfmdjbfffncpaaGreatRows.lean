/-
  No cell of these rows narrows 'for every input' (looked for: loops, veiled, ifaces, maps, wideKeys, modest, calm, conditions, laid).
  DERIVED. THE GIVEN ROWS OF THIS SEAT. 4 by the template 'for every input the law returns true; each argument reads behind the call as it read before'; 0 by the template 'total and deterministic' (their statements: YtkfmdjbfffncpaaGreatTotals.lean).
  GIVEN WITH THE SEED: the statements are not yours to turn. If you find one false, say at which input.
  Laid BY PROGRAM, IN A SANDBOX (cutbox-rows.mjs): the forced cells as the released guide's own fill.sh prints them over the translation 15614f7258cce0d5… (all of the seat's roots in one cut). By AI agents, Wed Nov 11 2026. No macro, syntax, notation, axiom, sorry.
-/
import Derived.Test.YtkfmdjbfffncpaaGreatChecked
import GoSem.Claim
import GoSem.ClaimJoined
import GoSem.ClaimMapViews
import Derived.JoinedTies
import Derived.KernelRfl
namespace Go.Proofs.YtkfmdjbfffncpaaGreat
/- THE CELL 'sum', in the pinned program and in every row, IS THE sha256 OF THE DUMP (.gsa) THAT YtkfmdjbfffncpaaGreatProg.lean LOADS. Nothing in Lean hashes anything: it is a label: what it is worth is what the hold of that sum in a sandbox is worth. -/
noncomputable def Tryz.pinned : Pinned := { name := "ytkfmdjbfffncpaagreat", sum := "15614f7258cce0d551703f12118c759ba33fdcd6e1a00d4e9ba2f4039b1d8492", checked := Tryz.checked }
namespace Rows
def none {H : Type} : Left H := { results := [], args := [] }

/-- 'fulcrumlaw07.TableauBack': WHATEVER THE INPUT: true; the input reads as it did. -/
def tableauBackSpec : ChangeSpec := { name := "tableauBack", fn := fun _ => fun
  | [d1, d2, d3] => { results := [.lit (.bool true)], args := [d1, d2, d3] }
  | _ => none }
def tableauBackRow : OpenClaim := { program := "ytkfmdjbfffncpaagreat", sum := "15614f7258cce0d551703f12118c759ba33fdcd6e1a00d4e9ba2f4039b1d8492", func := "fulcrum/fulcrumlaw07.TableauBack", spec := "tableauBack", unfollowed := true, recurses := true, named := ["math/bits.overflowError"], apart := false }
def TableauBackSaid : Prop := tableauBackRow.holds Tryz.pinned (OpenSpec.ofChange tableauBackSpec)

/-- ITS FALSE NEIGHBOUR: 'it returns false'. Refute it at one input. -/
def tableauBackWrong : ChangeSpec := { name := "tableauBack", fn := fun _ => fun
  | [d1, d2, d3] => { results := [.lit (.bool false)], args := [d1, d2, d3] }
  | _ => none }
def TableauBackWrongFalsely : Prop := tableauBackRow.holds Tryz.pinned (OpenSpec.ofChange tableauBackWrong)

/-- 'fulcrumlaw10.ImpliedTableaus': WHATEVER THE INPUT: true; the input reads as it did. -/
def impliedTableausSpec : ChangeSpec := { name := "impliedTableaus", fn := fun _ => fun
  | [d1, d2] => { results := [.lit (.bool true)], args := [d1, d2] }
  | _ => none }
def impliedTableausRow : OpenClaim := { program := "ytkfmdjbfffncpaagreat", sum := "15614f7258cce0d551703f12118c759ba33fdcd6e1a00d4e9ba2f4039b1d8492", func := "fulcrum/fulcrumlaw10.ImpliedTableaus", spec := "impliedTableaus", unfollowed := true, recurses := true, named := ["math/bits.overflowError"], apart := false }
def ImpliedTableausSaid : Prop := impliedTableausRow.holds Tryz.pinned (OpenSpec.ofChange impliedTableausSpec)

/-- ITS FALSE NEIGHBOUR: 'it returns false'. Refute it at one input. -/
def impliedTableausWrong : ChangeSpec := { name := "impliedTableaus", fn := fun _ => fun
  | [d1, d2] => { results := [.lit (.bool false)], args := [d1, d2] }
  | _ => none }
def ImpliedTableausWrongFalsely : Prop := impliedTableausRow.holds Tryz.pinned (OpenSpec.ofChange impliedTableausWrong)

/-- 'fulcrumlaw09.SimplexConsts': WHATEVER THE INPUT: true; the input reads as it did. -/
def simplexConstsSpec : ChangeSpec := { name := "simplexConsts", fn := fun _ => fun
  | [] => { results := [.lit (.bool true)], args := [] }
  | _ => none }
def simplexConstsRow : OpenClaim := { program := "ytkfmdjbfffncpaagreat", sum := "15614f7258cce0d551703f12118c759ba33fdcd6e1a00d4e9ba2f4039b1d8492", func := "fulcrum/fulcrumlaw09.SimplexConsts", spec := "simplexConsts", unfollowed := true, recurses := true, named := ["math/bits.overflowError"], apart := false }
def SimplexConstsSaid : Prop := simplexConstsRow.holds Tryz.pinned (OpenSpec.ofChange simplexConstsSpec)

/-- ITS FALSE NEIGHBOUR: 'it returns false'. Refute it at one input. -/
def simplexConstsWrong : ChangeSpec := { name := "simplexConsts", fn := fun _ => fun
  | [] => { results := [.lit (.bool false)], args := [] }
  | _ => none }
def SimplexConstsWrongFalsely : Prop := simplexConstsRow.holds Tryz.pinned (OpenSpec.ofChange simplexConstsWrong)

/-- 'fulcrumlaw07.TableauEquivalent': WHATEVER THE INPUT: true; the input reads as it did. -/
def tableauEquivalentSpec : ChangeSpec := { name := "tableauEquivalent", fn := fun _ => fun
  | [d1, d2, d3] => { results := [.lit (.bool true)], args := [d1, d2, d3] }
  | _ => none }
def tableauEquivalentRow : OpenClaim := { program := "ytkfmdjbfffncpaagreat", sum := "15614f7258cce0d551703f12118c759ba33fdcd6e1a00d4e9ba2f4039b1d8492", func := "fulcrum/fulcrumlaw07.TableauEquivalent", spec := "tableauEquivalent", unfollowed := true, recurses := true, named := ["math/bits.overflowError"], apart := false }
def TableauEquivalentSaid : Prop := tableauEquivalentRow.holds Tryz.pinned (OpenSpec.ofChange tableauEquivalentSpec)

/-- ITS FALSE NEIGHBOUR: 'it returns false'. Refute it at one input. -/
def tableauEquivalentWrong : ChangeSpec := { name := "tableauEquivalent", fn := fun _ => fun
  | [d1, d2, d3] => { results := [.lit (.bool false)], args := [d1, d2, d3] }
  | _ => none }
def TableauEquivalentWrongFalsely : Prop := tableauEquivalentRow.holds Tryz.pinned (OpenSpec.ofChange tableauEquivalentWrong)

/- THE SECOND FORM. 'bulk': how many values and letters a reading holds, each counted each time it is reached (what is shared counts as often as it is met; a slice's spare places count too). A statement '..UptoSaid' is the law's where the arguments, and the package variables that the reading takes, are together of bulk at most 1048576: NARROWER than '..Said'. Prove '..Said' where nothing that the law and all that it calls make is longer than what came in: it says more and counts as full. Else prove '..UptoSaid'. A law counts once. -/
mutual
def uptoBulk {H : Type} : DataW H → Nat
  | .lit (.string bytes) => bytes.length + 1
  | .lit _ => 1
  | .nil => 1
  | .ptr d => uptoBulk d + 1
  | .slice elems spare => uptoBulkAll elems + uptoBulkAll spare + 1
  | .agg parts => uptoBulkAll parts + 1
  | .iface _ d => uptoBulk d + 1
  | .map entries => uptoBulkEntries entries + 1
  | .held _ => 1
def uptoBulkAll {H : Type} : List (DataW H) → Nat
  | [] => 0
  | d :: r => uptoBulk d + uptoBulkAll r
def uptoBulkEntries {H : Type} : List (Lit × DataW H) → Nat
  | [] => 0
  | x :: r => uptoBulkEntry x + uptoBulkEntries r
def uptoBulkEntry {H : Type} : Lit × DataW H → Nat
  | (.string bytes, d) => bytes.length + uptoBulk d + 1
  | (_, d) => uptoBulk d + 1
 end
def uptoSmall : (H : Type) → List (DataW H) → Bool := fun _ ds => decide (uptoBulkAll ds ≤ 1048576)
def OpenSpec.upto (s : _root_.Go.ChangeSpec) : _root_.Go.OpenSpec := { _root_.Go.OpenSpec.ofChange s with cond := some uptoSmall }

/-- 'fulcrumlaw07.TableauBack', WHERE WHAT IT READS IS OF BULK AT MOST 1048576: true; the input reads as it did. -/
def tableauBackUptoRow : OpenClaim := { program := "ytkfmdjbfffncpaagreat", sum := "15614f7258cce0d551703f12118c759ba33fdcd6e1a00d4e9ba2f4039b1d8492", func := "fulcrum/fulcrumlaw07.TableauBack", spec := "tableauBack", unfollowed := true, recurses := true, named := ["math/bits.overflowError"], apart := false, narrowed := true }
def TableauBackUptoSaid : Prop := tableauBackUptoRow.holds Tryz.pinned (OpenSpec.upto tableauBackSpec)

/-- 'fulcrumlaw10.ImpliedTableaus', WHERE WHAT IT READS IS OF BULK AT MOST 1048576: true; the input reads as it did. -/
def impliedTableausUptoRow : OpenClaim := { program := "ytkfmdjbfffncpaagreat", sum := "15614f7258cce0d551703f12118c759ba33fdcd6e1a00d4e9ba2f4039b1d8492", func := "fulcrum/fulcrumlaw10.ImpliedTableaus", spec := "impliedTableaus", unfollowed := true, recurses := true, named := ["math/bits.overflowError"], apart := false, narrowed := true }
def ImpliedTableausUptoSaid : Prop := impliedTableausUptoRow.holds Tryz.pinned (OpenSpec.upto impliedTableausSpec)

/-- 'fulcrumlaw09.SimplexConsts', WHERE WHAT IT READS IS OF BULK AT MOST 1048576: true; the input reads as it did. -/
def simplexConstsUptoRow : OpenClaim := { program := "ytkfmdjbfffncpaagreat", sum := "15614f7258cce0d551703f12118c759ba33fdcd6e1a00d4e9ba2f4039b1d8492", func := "fulcrum/fulcrumlaw09.SimplexConsts", spec := "simplexConsts", unfollowed := true, recurses := true, named := ["math/bits.overflowError"], apart := false, narrowed := true }
def SimplexConstsUptoSaid : Prop := simplexConstsUptoRow.holds Tryz.pinned (OpenSpec.upto simplexConstsSpec)

/-- 'fulcrumlaw07.TableauEquivalent', WHERE WHAT IT READS IS OF BULK AT MOST 1048576: true; the input reads as it did. -/
def tableauEquivalentUptoRow : OpenClaim := { program := "ytkfmdjbfffncpaagreat", sum := "15614f7258cce0d551703f12118c759ba33fdcd6e1a00d4e9ba2f4039b1d8492", func := "fulcrum/fulcrumlaw07.TableauEquivalent", spec := "tableauEquivalent", unfollowed := true, recurses := true, named := ["math/bits.overflowError"], apart := false, narrowed := true }
def TableauEquivalentUptoSaid : Prop := tableauEquivalentUptoRow.holds Tryz.pinned (OpenSpec.upto tableauEquivalentSpec)

end Rows
end Go.Proofs.YtkfmdjbfffncpaaGreat
