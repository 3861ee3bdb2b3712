/-
  No cell of these rows narrows 'for every input' (looked for: loops, veiled, ifaces, maps, wideKeys, modest, calm, conditions, laid).
  DERIVED. THE GIVEN ROWS OF THIS SEAT. 5 by the template 'for every input the law returns true; each argument reads behind the call as it read before'; 0 by the template 'total and deterministic' (their statements: YtienojgmpjpcjaaTotals.lean).
  GIVEN WITH THE SEED: the statements are not yours to turn. If you find one false, say at which input.
  Laid BY PROGRAM, IN A SANDBOX (cutbox-rows.mjs): the forced cells as the released guide's own fill.sh prints them over the translation 1fa698f47cd71cb5… (all of the seat's roots in one cut). By AI agents, Wed Nov 11 2026. No macro, syntax, notation, axiom, sorry.
-/
import Derived.Test.YtienojgmpjpcjaaChecked
import GoSem.Claim
import GoSem.ClaimJoined
import GoSem.ClaimMapViews
import Derived.JoinedTies
import Derived.KernelRfl
namespace Go.Proofs.Ytienojgmpjpcjaa
/- THE CELL 'sum', in the pinned program and in every row, IS THE sha256 OF THE DUMP (.gsa) THAT YtienojgmpjpcjaaProg.lean LOADS. Nothing in Lean hashes anything: it is a label: what it is worth is what the hold of that sum in a sandbox is worth. -/
noncomputable def Try.pinned : Pinned := { name := "ytienojgmpjpcjaa", sum := "1fa698f47cd71cb52b94b2eb3272890f73fa7292a4328af180e71449f09f1067", checked := Try.checked }
namespace Rows
def none {H : Type} : Left H := { results := [], args := [] }

/-- 'foghornlaw06.TurnsWhole': WHATEVER THE INPUT: true; the input reads as it did. -/
def turnsWholeSpec : ChangeSpec := { name := "turnsWhole", fn := fun _ => fun
  | [d1, d2] => { results := [.lit (.bool true)], args := [d1, d2] }
  | _ => none }
def turnsWholeRow : OpenClaim := { program := "ytienojgmpjpcjaa", sum := "1fa698f47cd71cb52b94b2eb3272890f73fa7292a4328af180e71449f09f1067", func := "foghorn/foghornlaw06.TurnsWhole", spec := "turnsWhole", unfollowed := true, recurses := true, apart := false }
def TurnsWholeSaid : Prop := turnsWholeRow.holds Try.pinned (OpenSpec.ofChange turnsWholeSpec)

/-- ITS FALSE NEIGHBOUR: 'it returns false'. Refute it at one input. -/
def turnsWholeWrong : ChangeSpec := { name := "turnsWhole", fn := fun _ => fun
  | [d1, d2] => { results := [.lit (.bool false)], args := [d1, d2] }
  | _ => none }
def TurnsWholeWrongFalsely : Prop := turnsWholeRow.holds Try.pinned (OpenSpec.ofChange turnsWholeWrong)

/-- 'foghornlaw06.TurnsRows': WHATEVER THE INPUT: true; the input reads as it did. -/
def turnsRowsSpec : ChangeSpec := { name := "turnsRows", fn := fun _ => fun
  | [d1, d2, d3] => { results := [.lit (.bool true)], args := [d1, d2, d3] }
  | _ => none }
def turnsRowsRow : OpenClaim := { program := "ytienojgmpjpcjaa", sum := "1fa698f47cd71cb52b94b2eb3272890f73fa7292a4328af180e71449f09f1067", func := "foghorn/foghornlaw06.TurnsRows", spec := "turnsRows", unfollowed := true, recurses := true, apart := false }
def TurnsRowsSaid : Prop := turnsRowsRow.holds Try.pinned (OpenSpec.ofChange turnsRowsSpec)

/-- ITS FALSE NEIGHBOUR: 'it returns false'. Refute it at one input. -/
def turnsRowsWrong : ChangeSpec := { name := "turnsRows", fn := fun _ => fun
  | [d1, d2, d3] => { results := [.lit (.bool false)], args := [d1, d2, d3] }
  | _ => none }
def TurnsRowsWrongFalsely : Prop := turnsRowsRow.holds Try.pinned (OpenSpec.ofChange turnsRowsWrong)

/-- 'foghornlaw06.TurnsPoints': WHATEVER THE INPUT: true; the input reads as it did. -/
def turnsPointsSpec : ChangeSpec := { name := "turnsPoints", fn := fun _ => fun
  | [d] => { results := [.lit (.bool true)], args := [d] }
  | _ => none }
def turnsPointsRow : OpenClaim := { program := "ytienojgmpjpcjaa", sum := "1fa698f47cd71cb52b94b2eb3272890f73fa7292a4328af180e71449f09f1067", func := "foghorn/foghornlaw06.TurnsPoints", spec := "turnsPoints", inPlace := ["math.Float64bits"], unfollowed := true, recurses := true, apart := false }
def TurnsPointsSaid : Prop := turnsPointsRow.holds Try.pinned (OpenSpec.ofChange turnsPointsSpec)

/-- ITS FALSE NEIGHBOUR: 'it returns false'. Refute it at one input. -/
def turnsPointsWrong : ChangeSpec := { name := "turnsPoints", fn := fun _ => fun
  | [d] => { results := [.lit (.bool false)], args := [d] }
  | _ => none }
def TurnsPointsWrongFalsely : Prop := turnsPointsRow.holds Try.pinned (OpenSpec.ofChange turnsPointsWrong)

/-- 'foghornlaw06.TurnsHeard': WHATEVER THE INPUT: true; the input reads as it did. -/
def turnsHeardSpec : ChangeSpec := { name := "turnsHeard", fn := fun _ => fun
  | [d] => { results := [.lit (.bool true)], args := [d] }
  | _ => none }
def turnsHeardRow : OpenClaim := { program := "ytienojgmpjpcjaa", sum := "1fa698f47cd71cb52b94b2eb3272890f73fa7292a4328af180e71449f09f1067", func := "foghorn/foghornlaw06.TurnsHeard", spec := "turnsHeard", unfollowed := true, recurses := true, apart := false }
def TurnsHeardSaid : Prop := turnsHeardRow.holds Try.pinned (OpenSpec.ofChange turnsHeardSpec)

/-- ITS FALSE NEIGHBOUR: 'it returns false'. Refute it at one input. -/
def turnsHeardWrong : ChangeSpec := { name := "turnsHeard", fn := fun _ => fun
  | [d] => { results := [.lit (.bool false)], args := [d] }
  | _ => none }
def TurnsHeardWrongFalsely : Prop := turnsHeardRow.holds Try.pinned (OpenSpec.ofChange turnsHeardWrong)

/-- 'foghornlaw06.TurnsNone': WHATEVER THE INPUT: true; the input reads as it did. -/
def turnsNoneSpec : ChangeSpec := { name := "turnsNone", fn := fun _ => fun
  | [] => { results := [.lit (.bool true)], args := [] }
  | _ => none }
def turnsNoneRow : OpenClaim := { program := "ytienojgmpjpcjaa", sum := "1fa698f47cd71cb52b94b2eb3272890f73fa7292a4328af180e71449f09f1067", func := "foghorn/foghornlaw06.TurnsNone", spec := "turnsNone", unfollowed := true, recurses := true, apart := false }
def TurnsNoneSaid : Prop := turnsNoneRow.holds Try.pinned (OpenSpec.ofChange turnsNoneSpec)

/-- ITS FALSE NEIGHBOUR: 'it returns false'. Refute it at one input. -/
def turnsNoneWrong : ChangeSpec := { name := "turnsNone", fn := fun _ => fun
  | [] => { results := [.lit (.bool false)], args := [] }
  | _ => none }
def TurnsNoneWrongFalsely : Prop := turnsNoneRow.holds Try.pinned (OpenSpec.ofChange turnsNoneWrong)

/- THE SECOND FORM. 'bulk': how many values and letters a reading holds, each counted each time it is reached (what is shared counts as often as it is met; a slice's spare places count too). A statement '..UptoSaid' is the law's where the arguments, and the package variables that the reading takes, are together of bulk at most 1048576: NARROWER than '..Said'. Prove '..Said' where nothing that the law and all that it calls make is longer than what came in: it says more and counts as full. Else prove '..UptoSaid'. A law counts once. -/
mutual
def uptoBulk {H : Type} : DataW H → Nat
  | .lit (.string bytes) => bytes.length + 1
  | .lit _ => 1
  | .nil => 1
  | .ptr d => uptoBulk d + 1
  | .slice elems spare => uptoBulkAll elems + uptoBulkAll spare + 1
  | .agg parts => uptoBulkAll parts + 1
  | .iface _ d => uptoBulk d + 1
  | .map entries => uptoBulkEntries entries + 1
  | .held _ => 1
def uptoBulkAll {H : Type} : List (DataW H) → Nat
  | [] => 0
  | d :: r => uptoBulk d + uptoBulkAll r
def uptoBulkEntries {H : Type} : List (Lit × DataW H) → Nat
  | [] => 0
  | x :: r => uptoBulkEntry x + uptoBulkEntries r
def uptoBulkEntry {H : Type} : Lit × DataW H → Nat
  | (.string bytes, d) => bytes.length + uptoBulk d + 1
  | (_, d) => uptoBulk d + 1
 end
def uptoSmall : (H : Type) → List (DataW H) → Bool := fun _ ds => decide (uptoBulkAll ds ≤ 1048576)
def OpenSpec.upto (s : _root_.Go.ChangeSpec) : _root_.Go.OpenSpec := { _root_.Go.OpenSpec.ofChange s with cond := some uptoSmall }

/-- 'foghornlaw06.TurnsWhole', WHERE WHAT IT READS IS OF BULK AT MOST 1048576: true; the input reads as it did. -/
def turnsWholeUptoRow : OpenClaim := { program := "ytienojgmpjpcjaa", sum := "1fa698f47cd71cb52b94b2eb3272890f73fa7292a4328af180e71449f09f1067", func := "foghorn/foghornlaw06.TurnsWhole", spec := "turnsWhole", unfollowed := true, recurses := true, apart := false, narrowed := true }
def TurnsWholeUptoSaid : Prop := turnsWholeUptoRow.holds Try.pinned (OpenSpec.upto turnsWholeSpec)

/-- 'foghornlaw06.TurnsRows', WHERE WHAT IT READS IS OF BULK AT MOST 1048576: true; the input reads as it did. -/
def turnsRowsUptoRow : OpenClaim := { program := "ytienojgmpjpcjaa", sum := "1fa698f47cd71cb52b94b2eb3272890f73fa7292a4328af180e71449f09f1067", func := "foghorn/foghornlaw06.TurnsRows", spec := "turnsRows", unfollowed := true, recurses := true, apart := false, narrowed := true }
def TurnsRowsUptoSaid : Prop := turnsRowsUptoRow.holds Try.pinned (OpenSpec.upto turnsRowsSpec)

/-- 'foghornlaw06.TurnsPoints', WHERE WHAT IT READS IS OF BULK AT MOST 1048576: true; the input reads as it did. -/
def turnsPointsUptoRow : OpenClaim := { program := "ytienojgmpjpcjaa", sum := "1fa698f47cd71cb52b94b2eb3272890f73fa7292a4328af180e71449f09f1067", func := "foghorn/foghornlaw06.TurnsPoints", spec := "turnsPoints", inPlace := ["math.Float64bits"], unfollowed := true, recurses := true, apart := false, narrowed := true }
def TurnsPointsUptoSaid : Prop := turnsPointsUptoRow.holds Try.pinned (OpenSpec.upto turnsPointsSpec)

/-- 'foghornlaw06.TurnsHeard', WHERE WHAT IT READS IS OF BULK AT MOST 1048576: true; the input reads as it did. -/
def turnsHeardUptoRow : OpenClaim := { program := "ytienojgmpjpcjaa", sum := "1fa698f47cd71cb52b94b2eb3272890f73fa7292a4328af180e71449f09f1067", func := "foghorn/foghornlaw06.TurnsHeard", spec := "turnsHeard", unfollowed := true, recurses := true, apart := false, narrowed := true }
def TurnsHeardUptoSaid : Prop := turnsHeardUptoRow.holds Try.pinned (OpenSpec.upto turnsHeardSpec)

/-- 'foghornlaw06.TurnsNone', WHERE WHAT IT READS IS OF BULK AT MOST 1048576: true; the input reads as it did. -/
def turnsNoneUptoRow : OpenClaim := { program := "ytienojgmpjpcjaa", sum := "1fa698f47cd71cb52b94b2eb3272890f73fa7292a4328af180e71449f09f1067", func := "foghorn/foghornlaw06.TurnsNone", spec := "turnsNone", unfollowed := true, recurses := true, apart := false, narrowed := true }
def TurnsNoneUptoSaid : Prop := turnsNoneUptoRow.holds Try.pinned (OpenSpec.upto turnsNoneSpec)

end Rows
end Go.Proofs.Ytienojgmpjpcjaa
