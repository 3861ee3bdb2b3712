/-
  No cell of these rows narrows 'for every input' (looked for: loops, veiled, ifaces, maps, wideKeys, modest, calm, conditions, laid).
  DERIVED. THE GIVEN ROWS OF THIS SEAT. 8 by the template 'for every input the law returns true; each argument reads behind the call as it read before'; 0 by the template 'total and deterministic' (their statements: YteifkccomfdciaaTotals.lean).
  GIVEN WITH THE SEED: the statements are not yours to turn. If you find one false, say at which input.
  Laid BY PROGRAM, IN A SANDBOX (cutbox-rows.mjs): the forced cells as the released guide's own fill.sh prints them over the translation 127d5d71f3adfd21… (all of the seat's roots in one cut). By AI agents, Wed Nov 11 2026. No macro, syntax, notation, axiom, sorry.
-/
import Derived.Test.YteifkccomfdciaaChecked
import GoSem.Claim
import GoSem.ClaimJoined
import GoSem.ClaimMapViews
import Derived.JoinedTies
import Derived.KernelRfl
namespace Go.Proofs.Yteifkccomfdciaa
/- THE CELL 'sum', in the pinned program and in every row, IS THE sha256 OF THE DUMP (.gsa) THAT YteifkccomfdciaaProg.lean LOADS. Nothing in Lean hashes anything: it is a label: what it is worth is what the hold of that sum in a sandbox is worth. -/
noncomputable def Try.pinned : Pinned := { name := "yteifkccomfdciaa", sum := "127d5d71f3adfd217f4e8b166d2f9f638dd8f02c9faf20c94d962a7cf9576568", checked := Try.checked }
namespace Rows
def none {H : Type} : Left H := { results := [], args := [] }

/-- 'foghornlaw03.PlaneParts': WHATEVER THE INPUT: true; the input reads as it did. -/
def planePartsSpec : ChangeSpec := { name := "planeParts", fn := fun _ => fun
  | [d1, d2, d3] => { results := [.lit (.bool true)], args := [d1, d2, d3] }
  | _ => none }
def planePartsRow : OpenClaim := { program := "yteifkccomfdciaa", sum := "127d5d71f3adfd217f4e8b166d2f9f638dd8f02c9faf20c94d962a7cf9576568", func := "foghorn/foghornlaw03.PlaneParts", spec := "planeParts", inPlace := ["math.Float64bits"], apart := false }
def PlanePartsSaid : Prop := planePartsRow.holds Try.pinned (OpenSpec.ofChange planePartsSpec)

/-- ITS FALSE NEIGHBOUR: 'it returns false'. Refute it at one input. -/
def planePartsWrong : ChangeSpec := { name := "planeParts", fn := fun _ => fun
  | [d1, d2, d3] => { results := [.lit (.bool false)], args := [d1, d2, d3] }
  | _ => none }
def PlanePartsWrongFalsely : Prop := planePartsRow.holds Try.pinned (OpenSpec.ofChange planePartsWrong)

/-- 'foghornlaw03.PlaneRing': WHATEVER THE INPUT: true; the input reads as it did. -/
def planeRingSpec : ChangeSpec := { name := "planeRing", fn := fun _ => fun
  | [d] => { results := [.lit (.bool true)], args := [d] }
  | _ => none }
def planeRingRow : OpenClaim := { program := "yteifkccomfdciaa", sum := "127d5d71f3adfd217f4e8b166d2f9f638dd8f02c9faf20c94d962a7cf9576568", func := "foghorn/foghornlaw03.PlaneRing", spec := "planeRing", apart := false }
def PlaneRingSaid : Prop := planeRingRow.holds Try.pinned (OpenSpec.ofChange planeRingSpec)

/-- ITS FALSE NEIGHBOUR: 'it returns false'. Refute it at one input. -/
def planeRingWrong : ChangeSpec := { name := "planeRing", fn := fun _ => fun
  | [d] => { results := [.lit (.bool false)], args := [d] }
  | _ => none }
def PlaneRingWrongFalsely : Prop := planeRingRow.holds Try.pinned (OpenSpec.ofChange planeRingWrong)

/-- 'foghornlaw03.PlaneFilters': WHATEVER THE INPUT: true; the input reads as it did. -/
def planeFiltersSpec : ChangeSpec := { name := "planeFilters", fn := fun _ => fun
  | [d] => { results := [.lit (.bool true)], args := [d] }
  | _ => none }
def planeFiltersRow : OpenClaim := { program := "yteifkccomfdciaa", sum := "127d5d71f3adfd217f4e8b166d2f9f638dd8f02c9faf20c94d962a7cf9576568", func := "foghorn/foghornlaw03.PlaneFilters", spec := "planeFilters", apart := false }
def PlaneFiltersSaid : Prop := planeFiltersRow.holds Try.pinned (OpenSpec.ofChange planeFiltersSpec)

/-- ITS FALSE NEIGHBOUR: 'it returns false'. Refute it at one input. -/
def planeFiltersWrong : ChangeSpec := { name := "planeFilters", fn := fun _ => fun
  | [d] => { results := [.lit (.bool false)], args := [d] }
  | _ => none }
def PlaneFiltersWrongFalsely : Prop := planeFiltersRow.holds Try.pinned (OpenSpec.ofChange planeFiltersWrong)

/-- 'foghornlaw03.PlaneRows': WHATEVER THE INPUT: true; the input reads as it did. -/
def planeRowsSpec : ChangeSpec := { name := "planeRows", fn := fun _ => fun
  | [d1, d2] => { results := [.lit (.bool true)], args := [d1, d2] }
  | _ => none }
def planeRowsRow : OpenClaim := { program := "yteifkccomfdciaa", sum := "127d5d71f3adfd217f4e8b166d2f9f638dd8f02c9faf20c94d962a7cf9576568", func := "foghorn/foghornlaw03.PlaneRows", spec := "planeRows", inPlace := ["math.Float64bits"], apart := false }
def PlaneRowsSaid : Prop := planeRowsRow.holds Try.pinned (OpenSpec.ofChange planeRowsSpec)

/-- ITS FALSE NEIGHBOUR: 'it returns false'. Refute it at one input. -/
def planeRowsWrong : ChangeSpec := { name := "planeRows", fn := fun _ => fun
  | [d1, d2] => { results := [.lit (.bool false)], args := [d1, d2] }
  | _ => none }
def PlaneRowsWrongFalsely : Prop := planeRowsRow.holds Try.pinned (OpenSpec.ofChange planeRowsWrong)

/-- 'foghornlaw03.PlaneRests': WHATEVER THE INPUT: true; the input reads as it did. -/
def planeRestsSpec : ChangeSpec := { name := "planeRests", fn := fun _ => fun
  | [d1, d2, d3] => { results := [.lit (.bool true)], args := [d1, d2, d3] }
  | _ => none }
def planeRestsRow : OpenClaim := { program := "yteifkccomfdciaa", sum := "127d5d71f3adfd217f4e8b166d2f9f638dd8f02c9faf20c94d962a7cf9576568", func := "foghorn/foghornlaw03.PlaneRests", spec := "planeRests", apart := false }
def PlaneRestsSaid : Prop := planeRestsRow.holds Try.pinned (OpenSpec.ofChange planeRestsSpec)

/-- ITS FALSE NEIGHBOUR: 'it returns false'. Refute it at one input. -/
def planeRestsWrong : ChangeSpec := { name := "planeRests", fn := fun _ => fun
  | [d1, d2, d3] => { results := [.lit (.bool false)], args := [d1, d2, d3] }
  | _ => none }
def PlaneRestsWrongFalsely : Prop := planeRestsRow.holds Try.pinned (OpenSpec.ofChange planeRestsWrong)

/-- 'foghornlaw03.PlaneClasses': WHATEVER THE INPUT: true; the input reads as it did. -/
def planeClassesSpec : ChangeSpec := { name := "planeClasses", fn := fun _ => fun
  | [d1, d2, d3] => { results := [.lit (.bool true)], args := [d1, d2, d3] }
  | _ => none }
def planeClassesRow : OpenClaim := { program := "yteifkccomfdciaa", sum := "127d5d71f3adfd217f4e8b166d2f9f638dd8f02c9faf20c94d962a7cf9576568", func := "foghorn/foghornlaw03.PlaneClasses", spec := "planeClasses", apart := false }
def PlaneClassesSaid : Prop := planeClassesRow.holds Try.pinned (OpenSpec.ofChange planeClassesSpec)

/-- ITS FALSE NEIGHBOUR: 'it returns false'. Refute it at one input. -/
def planeClassesWrong : ChangeSpec := { name := "planeClasses", fn := fun _ => fun
  | [d1, d2, d3] => { results := [.lit (.bool false)], args := [d1, d2, d3] }
  | _ => none }
def PlaneClassesWrongFalsely : Prop := planeClassesRow.holds Try.pinned (OpenSpec.ofChange planeClassesWrong)

/-- 'foghornlaw03.PlaneNone': WHATEVER THE INPUT: true; the input reads as it did. -/
def planeNoneSpec : ChangeSpec := { name := "planeNone", fn := fun _ => fun
  | [] => { results := [.lit (.bool true)], args := [] }
  | _ => none }
def planeNoneRow : OpenClaim := { program := "yteifkccomfdciaa", sum := "127d5d71f3adfd217f4e8b166d2f9f638dd8f02c9faf20c94d962a7cf9576568", func := "foghorn/foghornlaw03.PlaneNone", spec := "planeNone", inPlace := ["math.Float64bits", "math.Float64frombits", "math.archTrunc"], unfollowed := true, recurses := true, apart := false }
def PlaneNoneSaid : Prop := planeNoneRow.holds Try.pinned (OpenSpec.ofChange planeNoneSpec)

/-- ITS FALSE NEIGHBOUR: 'it returns false'. Refute it at one input. -/
def planeNoneWrong : ChangeSpec := { name := "planeNone", fn := fun _ => fun
  | [] => { results := [.lit (.bool false)], args := [] }
  | _ => none }
def PlaneNoneWrongFalsely : Prop := planeNoneRow.holds Try.pinned (OpenSpec.ofChange planeNoneWrong)

/-- 'foghornlaw03.PlaneWhole': WHATEVER THE INPUT: true; the input reads as it did. -/
def planeWholeSpec : ChangeSpec := { name := "planeWhole", fn := fun _ => fun
  | [d1, d2, d3] => { results := [.lit (.bool true)], args := [d1, d2, d3] }
  | _ => none }
def planeWholeRow : OpenClaim := { program := "yteifkccomfdciaa", sum := "127d5d71f3adfd217f4e8b166d2f9f638dd8f02c9faf20c94d962a7cf9576568", func := "foghorn/foghornlaw03.PlaneWhole", spec := "planeWhole", inPlace := ["math.Float64bits", "math.Float64frombits", "math.archTrunc", "math.archFloor"], unfollowed := true, recurses := true, apart := false }
def PlaneWholeSaid : Prop := planeWholeRow.holds Try.pinned (OpenSpec.ofChange planeWholeSpec)

/-- ITS FALSE NEIGHBOUR: 'it returns false'. Refute it at one input. -/
def planeWholeWrong : ChangeSpec := { name := "planeWhole", fn := fun _ => fun
  | [d1, d2, d3] => { results := [.lit (.bool false)], args := [d1, d2, d3] }
  | _ => none }
def PlaneWholeWrongFalsely : Prop := planeWholeRow.holds Try.pinned (OpenSpec.ofChange planeWholeWrong)

/- THE SECOND FORM. 'bulk': how many values and letters a reading holds, each counted each time it is reached (what is shared counts as often as it is met; a slice's spare places count too). A statement '..UptoSaid' is the law's where the arguments, and the package variables that the reading takes, are together of bulk at most 1048576: NARROWER than '..Said'. Prove '..Said' where nothing that the law and all that it calls make is longer than what came in: it says more and counts as full. Else prove '..UptoSaid'. A law counts once. -/
mutual
def uptoBulk {H : Type} : DataW H → Nat
  | .lit (.string bytes) => bytes.length + 1
  | .lit _ => 1
  | .nil => 1
  | .ptr d => uptoBulk d + 1
  | .slice elems spare => uptoBulkAll elems + uptoBulkAll spare + 1
  | .agg parts => uptoBulkAll parts + 1
  | .iface _ d => uptoBulk d + 1
  | .map entries => uptoBulkEntries entries + 1
  | .held _ => 1
def uptoBulkAll {H : Type} : List (DataW H) → Nat
  | [] => 0
  | d :: r => uptoBulk d + uptoBulkAll r
def uptoBulkEntries {H : Type} : List (Lit × DataW H) → Nat
  | [] => 0
  | x :: r => uptoBulkEntry x + uptoBulkEntries r
def uptoBulkEntry {H : Type} : Lit × DataW H → Nat
  | (.string bytes, d) => bytes.length + uptoBulk d + 1
  | (_, d) => uptoBulk d + 1
 end
def uptoSmall : (H : Type) → List (DataW H) → Bool := fun _ ds => decide (uptoBulkAll ds ≤ 1048576)
def OpenSpec.upto (s : _root_.Go.ChangeSpec) : _root_.Go.OpenSpec := { _root_.Go.OpenSpec.ofChange s with cond := some uptoSmall }

/-- 'foghornlaw03.PlaneParts', WHERE WHAT IT READS IS OF BULK AT MOST 1048576: true; the input reads as it did. -/
def planePartsUptoRow : OpenClaim := { program := "yteifkccomfdciaa", sum := "127d5d71f3adfd217f4e8b166d2f9f638dd8f02c9faf20c94d962a7cf9576568", func := "foghorn/foghornlaw03.PlaneParts", spec := "planeParts", inPlace := ["math.Float64bits"], apart := false, narrowed := true }
def PlanePartsUptoSaid : Prop := planePartsUptoRow.holds Try.pinned (OpenSpec.upto planePartsSpec)

/-- 'foghornlaw03.PlaneRing', WHERE WHAT IT READS IS OF BULK AT MOST 1048576: true; the input reads as it did. -/
def planeRingUptoRow : OpenClaim := { program := "yteifkccomfdciaa", sum := "127d5d71f3adfd217f4e8b166d2f9f638dd8f02c9faf20c94d962a7cf9576568", func := "foghorn/foghornlaw03.PlaneRing", spec := "planeRing", apart := false, narrowed := true }
def PlaneRingUptoSaid : Prop := planeRingUptoRow.holds Try.pinned (OpenSpec.upto planeRingSpec)

/-- 'foghornlaw03.PlaneFilters', WHERE WHAT IT READS IS OF BULK AT MOST 1048576: true; the input reads as it did. -/
def planeFiltersUptoRow : OpenClaim := { program := "yteifkccomfdciaa", sum := "127d5d71f3adfd217f4e8b166d2f9f638dd8f02c9faf20c94d962a7cf9576568", func := "foghorn/foghornlaw03.PlaneFilters", spec := "planeFilters", apart := false, narrowed := true }
def PlaneFiltersUptoSaid : Prop := planeFiltersUptoRow.holds Try.pinned (OpenSpec.upto planeFiltersSpec)

/-- 'foghornlaw03.PlaneRows', WHERE WHAT IT READS IS OF BULK AT MOST 1048576: true; the input reads as it did. -/
def planeRowsUptoRow : OpenClaim := { program := "yteifkccomfdciaa", sum := "127d5d71f3adfd217f4e8b166d2f9f638dd8f02c9faf20c94d962a7cf9576568", func := "foghorn/foghornlaw03.PlaneRows", spec := "planeRows", inPlace := ["math.Float64bits"], apart := false, narrowed := true }
def PlaneRowsUptoSaid : Prop := planeRowsUptoRow.holds Try.pinned (OpenSpec.upto planeRowsSpec)

/-- 'foghornlaw03.PlaneRests', WHERE WHAT IT READS IS OF BULK AT MOST 1048576: true; the input reads as it did. -/
def planeRestsUptoRow : OpenClaim := { program := "yteifkccomfdciaa", sum := "127d5d71f3adfd217f4e8b166d2f9f638dd8f02c9faf20c94d962a7cf9576568", func := "foghorn/foghornlaw03.PlaneRests", spec := "planeRests", apart := false, narrowed := true }
def PlaneRestsUptoSaid : Prop := planeRestsUptoRow.holds Try.pinned (OpenSpec.upto planeRestsSpec)

/-- 'foghornlaw03.PlaneClasses', WHERE WHAT IT READS IS OF BULK AT MOST 1048576: true; the input reads as it did. -/
def planeClassesUptoRow : OpenClaim := { program := "yteifkccomfdciaa", sum := "127d5d71f3adfd217f4e8b166d2f9f638dd8f02c9faf20c94d962a7cf9576568", func := "foghorn/foghornlaw03.PlaneClasses", spec := "planeClasses", apart := false, narrowed := true }
def PlaneClassesUptoSaid : Prop := planeClassesUptoRow.holds Try.pinned (OpenSpec.upto planeClassesSpec)

/-- 'foghornlaw03.PlaneNone', WHERE WHAT IT READS IS OF BULK AT MOST 1048576: true; the input reads as it did. -/
def planeNoneUptoRow : OpenClaim := { program := "yteifkccomfdciaa", sum := "127d5d71f3adfd217f4e8b166d2f9f638dd8f02c9faf20c94d962a7cf9576568", func := "foghorn/foghornlaw03.PlaneNone", spec := "planeNone", inPlace := ["math.Float64bits", "math.Float64frombits", "math.archTrunc"], unfollowed := true, recurses := true, apart := false, narrowed := true }
def PlaneNoneUptoSaid : Prop := planeNoneUptoRow.holds Try.pinned (OpenSpec.upto planeNoneSpec)

/-- 'foghornlaw03.PlaneWhole', WHERE WHAT IT READS IS OF BULK AT MOST 1048576: true; the input reads as it did. -/
def planeWholeUptoRow : OpenClaim := { program := "yteifkccomfdciaa", sum := "127d5d71f3adfd217f4e8b166d2f9f638dd8f02c9faf20c94d962a7cf9576568", func := "foghorn/foghornlaw03.PlaneWhole", spec := "planeWhole", inPlace := ["math.Float64bits", "math.Float64frombits", "math.archTrunc", "math.archFloor"], unfollowed := true, recurses := true, apart := false, narrowed := true }
def PlaneWholeUptoSaid : Prop := planeWholeUptoRow.holds Try.pinned (OpenSpec.upto planeWholeSpec)

end Rows
end Go.Proofs.Yteifkccomfdciaa
