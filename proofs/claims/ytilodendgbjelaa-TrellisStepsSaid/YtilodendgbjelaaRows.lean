/-
  No cell of these rows narrows 'for every input' (looked for: loops, veiled, ifaces, maps, wideKeys, modest, calm, conditions, laid).
  DERIVED. THE GIVEN ROWS OF THIS SEAT. 5 by the template 'for every input the law returns true; each argument reads behind the call as it read before'; 0 by the template 'total and deterministic' (their statements: YtilodendgbjelaaTotals.lean).
  GIVEN WITH THE SEED: the statements are not yours to turn. If you find one false, say at which input.
  Laid BY PROGRAM, IN A SANDBOX (cutbox-rows.mjs): the forced cells as the released guide's own fill.sh prints them over the translation bad4928f5f83881e… (all of the seat's roots in one cut). By AI agents, Wed Nov 11 2026. No macro, syntax, notation, axiom, sorry.
-/
import Derived.Test.YtilodendgbjelaaChecked
import GoSem.Claim
import GoSem.ClaimJoined
import GoSem.ClaimMapViews
import Derived.JoinedTies
import Derived.KernelRfl
namespace Go.Proofs.Ytilodendgbjelaa
/- THE CELL 'sum', in the pinned program and in every row, IS THE sha256 OF THE DUMP (.gsa) THAT YtilodendgbjelaaProg.lean LOADS. Nothing in Lean hashes anything: it is a label: what it is worth is what the hold of that sum in a sandbox is worth. -/
noncomputable def Try.pinned : Pinned := { name := "ytilodendgbjelaa", sum := "bad4928f5f83881eb889e61955bf2752b8256f650c090de51bff94305219301a", checked := Try.checked }
namespace Rows
def none {H : Type} : Left H := { results := [], args := [] }

/-- 'foghornlaw21.TrellisWays': WHATEVER THE INPUT: true; the input reads as it did. -/
def trellisWaysSpec : ChangeSpec := { name := "trellisWays", fn := fun _ => fun
  | [d1, d2] => { results := [.lit (.bool true)], args := [d1, d2] }
  | _ => none }
def trellisWaysRow : OpenClaim := { program := "ytilodendgbjelaa", sum := "bad4928f5f83881eb889e61955bf2752b8256f650c090de51bff94305219301a", func := "foghorn/foghornlaw21.TrellisWays", spec := "trellisWays", unfollowed := true, recurses := true, apart := false }
def TrellisWaysSaid : Prop := trellisWaysRow.holds Try.pinned (OpenSpec.ofChange trellisWaysSpec)

/-- ITS FALSE NEIGHBOUR: 'it returns false'. Refute it at one input. -/
def trellisWaysWrong : ChangeSpec := { name := "trellisWays", fn := fun _ => fun
  | [d1, d2] => { results := [.lit (.bool false)], args := [d1, d2] }
  | _ => none }
def TrellisWaysWrongFalsely : Prop := trellisWaysRow.holds Try.pinned (OpenSpec.ofChange trellisWaysWrong)

/-- 'foghornlaw21.TrellisWalks': WHATEVER THE INPUT: true; the input reads as it did. -/
def trellisWalksSpec : ChangeSpec := { name := "trellisWalks", fn := fun _ => fun
  | [d] => { results := [.lit (.bool true)], args := [d] }
  | _ => none }
def trellisWalksRow : OpenClaim := { program := "ytilodendgbjelaa", sum := "bad4928f5f83881eb889e61955bf2752b8256f650c090de51bff94305219301a", func := "foghorn/foghornlaw21.TrellisWalks", spec := "trellisWalks", unfollowed := true, recurses := true, apart := false }
def TrellisWalksSaid : Prop := trellisWalksRow.holds Try.pinned (OpenSpec.ofChange trellisWalksSpec)

/-- ITS FALSE NEIGHBOUR: 'it returns false'. Refute it at one input. -/
def trellisWalksWrong : ChangeSpec := { name := "trellisWalks", fn := fun _ => fun
  | [d] => { results := [.lit (.bool false)], args := [d] }
  | _ => none }
def TrellisWalksWrongFalsely : Prop := trellisWalksRow.holds Try.pinned (OpenSpec.ofChange trellisWalksWrong)

/-- 'foghornlaw21.TrellisLinear': WHATEVER THE INPUT: true; the input reads as it did. -/
def trellisLinearSpec : ChangeSpec := { name := "trellisLinear", fn := fun _ => fun
  | [d] => { results := [.lit (.bool true)], args := [d] }
  | _ => none }
def trellisLinearRow : OpenClaim := { program := "ytilodendgbjelaa", sum := "bad4928f5f83881eb889e61955bf2752b8256f650c090de51bff94305219301a", func := "foghorn/foghornlaw21.TrellisLinear", spec := "trellisLinear", unfollowed := true, recurses := true, apart := false }
def TrellisLinearSaid : Prop := trellisLinearRow.holds Try.pinned (OpenSpec.ofChange trellisLinearSpec)

/-- ITS FALSE NEIGHBOUR: 'it returns false'. Refute it at one input. -/
def trellisLinearWrong : ChangeSpec := { name := "trellisLinear", fn := fun _ => fun
  | [d] => { results := [.lit (.bool false)], args := [d] }
  | _ => none }
def TrellisLinearWrongFalsely : Prop := trellisLinearRow.holds Try.pinned (OpenSpec.ofChange trellisLinearWrong)

/-- 'foghornlaw21.TrellisSteps': WHATEVER THE INPUT: true; the input reads as it did. -/
def trellisStepsSpec : ChangeSpec := { name := "trellisSteps", fn := fun _ => fun
  | [d1, d2, d3] => { results := [.lit (.bool true)], args := [d1, d2, d3] }
  | _ => none }
def trellisStepsRow : OpenClaim := { program := "ytilodendgbjelaa", sum := "bad4928f5f83881eb889e61955bf2752b8256f650c090de51bff94305219301a", func := "foghorn/foghornlaw21.TrellisSteps", spec := "trellisSteps", unfollowed := true, recurses := true, apart := false }
def TrellisStepsSaid : Prop := trellisStepsRow.holds Try.pinned (OpenSpec.ofChange trellisStepsSpec)

/-- ITS FALSE NEIGHBOUR: 'it returns false'. Refute it at one input. -/
def trellisStepsWrong : ChangeSpec := { name := "trellisSteps", fn := fun _ => fun
  | [d1, d2, d3] => { results := [.lit (.bool false)], args := [d1, d2, d3] }
  | _ => none }
def TrellisStepsWrongFalsely : Prop := trellisStepsRow.holds Try.pinned (OpenSpec.ofChange trellisStepsWrong)

/-- 'foghornlaw21.TrellisNone': WHATEVER THE INPUT: true; the input reads as it did. -/
def trellisNoneSpec : ChangeSpec := { name := "trellisNone", fn := fun _ => fun
  | [] => { results := [.lit (.bool true)], args := [] }
  | _ => none }
def trellisNoneRow : OpenClaim := { program := "ytilodendgbjelaa", sum := "bad4928f5f83881eb889e61955bf2752b8256f650c090de51bff94305219301a", func := "foghorn/foghornlaw21.TrellisNone", spec := "trellisNone", unfollowed := true, recurses := true, apart := false }
def TrellisNoneSaid : Prop := trellisNoneRow.holds Try.pinned (OpenSpec.ofChange trellisNoneSpec)

/-- ITS FALSE NEIGHBOUR: 'it returns false'. Refute it at one input. -/
def trellisNoneWrong : ChangeSpec := { name := "trellisNone", fn := fun _ => fun
  | [] => { results := [.lit (.bool false)], args := [] }
  | _ => none }
def TrellisNoneWrongFalsely : Prop := trellisNoneRow.holds Try.pinned (OpenSpec.ofChange trellisNoneWrong)

/- THE SECOND FORM. 'bulk': how many values and letters a reading holds, each counted each time it is reached (what is shared counts as often as it is met; a slice's spare places count too). A statement '..UptoSaid' is the law's where the arguments, and the package variables that the reading takes, are together of bulk at most 1048576: NARROWER than '..Said'. Prove '..Said' where nothing that the law and all that it calls make is longer than what came in: it says more and counts as full. Else prove '..UptoSaid'. A law counts once. -/
mutual
def uptoBulk {H : Type} : DataW H → Nat
  | .lit (.string bytes) => bytes.length + 1
  | .lit _ => 1
  | .nil => 1
  | .ptr d => uptoBulk d + 1
  | .slice elems spare => uptoBulkAll elems + uptoBulkAll spare + 1
  | .agg parts => uptoBulkAll parts + 1
  | .iface _ d => uptoBulk d + 1
  | .map entries => uptoBulkEntries entries + 1
  | .held _ => 1
def uptoBulkAll {H : Type} : List (DataW H) → Nat
  | [] => 0
  | d :: r => uptoBulk d + uptoBulkAll r
def uptoBulkEntries {H : Type} : List (Lit × DataW H) → Nat
  | [] => 0
  | x :: r => uptoBulkEntry x + uptoBulkEntries r
def uptoBulkEntry {H : Type} : Lit × DataW H → Nat
  | (.string bytes, d) => bytes.length + uptoBulk d + 1
  | (_, d) => uptoBulk d + 1
 end
def uptoSmall : (H : Type) → List (DataW H) → Bool := fun _ ds => decide (uptoBulkAll ds ≤ 1048576)
def OpenSpec.upto (s : _root_.Go.ChangeSpec) : _root_.Go.OpenSpec := { _root_.Go.OpenSpec.ofChange s with cond := some uptoSmall }

/-- 'foghornlaw21.TrellisWays', WHERE WHAT IT READS IS OF BULK AT MOST 1048576: true; the input reads as it did. -/
def trellisWaysUptoRow : OpenClaim := { program := "ytilodendgbjelaa", sum := "bad4928f5f83881eb889e61955bf2752b8256f650c090de51bff94305219301a", func := "foghorn/foghornlaw21.TrellisWays", spec := "trellisWays", unfollowed := true, recurses := true, apart := false, narrowed := true }
def TrellisWaysUptoSaid : Prop := trellisWaysUptoRow.holds Try.pinned (OpenSpec.upto trellisWaysSpec)

/-- 'foghornlaw21.TrellisWalks', WHERE WHAT IT READS IS OF BULK AT MOST 1048576: true; the input reads as it did. -/
def trellisWalksUptoRow : OpenClaim := { program := "ytilodendgbjelaa", sum := "bad4928f5f83881eb889e61955bf2752b8256f650c090de51bff94305219301a", func := "foghorn/foghornlaw21.TrellisWalks", spec := "trellisWalks", unfollowed := true, recurses := true, apart := false, narrowed := true }
def TrellisWalksUptoSaid : Prop := trellisWalksUptoRow.holds Try.pinned (OpenSpec.upto trellisWalksSpec)

/-- 'foghornlaw21.TrellisLinear', WHERE WHAT IT READS IS OF BULK AT MOST 1048576: true; the input reads as it did. -/
def trellisLinearUptoRow : OpenClaim := { program := "ytilodendgbjelaa", sum := "bad4928f5f83881eb889e61955bf2752b8256f650c090de51bff94305219301a", func := "foghorn/foghornlaw21.TrellisLinear", spec := "trellisLinear", unfollowed := true, recurses := true, apart := false, narrowed := true }
def TrellisLinearUptoSaid : Prop := trellisLinearUptoRow.holds Try.pinned (OpenSpec.upto trellisLinearSpec)

/-- 'foghornlaw21.TrellisSteps', WHERE WHAT IT READS IS OF BULK AT MOST 1048576: true; the input reads as it did. -/
def trellisStepsUptoRow : OpenClaim := { program := "ytilodendgbjelaa", sum := "bad4928f5f83881eb889e61955bf2752b8256f650c090de51bff94305219301a", func := "foghorn/foghornlaw21.TrellisSteps", spec := "trellisSteps", unfollowed := true, recurses := true, apart := false, narrowed := true }
def TrellisStepsUptoSaid : Prop := trellisStepsUptoRow.holds Try.pinned (OpenSpec.upto trellisStepsSpec)

/-- 'foghornlaw21.TrellisNone', WHERE WHAT IT READS IS OF BULK AT MOST 1048576: true; the input reads as it did. -/
def trellisNoneUptoRow : OpenClaim := { program := "ytilodendgbjelaa", sum := "bad4928f5f83881eb889e61955bf2752b8256f650c090de51bff94305219301a", func := "foghorn/foghornlaw21.TrellisNone", spec := "trellisNone", unfollowed := true, recurses := true, apart := false, narrowed := true }
def TrellisNoneUptoSaid : Prop := trellisNoneUptoRow.holds Try.pinned (OpenSpec.upto trellisNoneSpec)

end Rows
end Go.Proofs.Ytilodendgbjelaa
