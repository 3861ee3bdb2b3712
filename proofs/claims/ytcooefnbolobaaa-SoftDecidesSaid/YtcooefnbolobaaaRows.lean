/-
  No cell of these rows narrows 'for every input' (looked for: loops, veiled, ifaces, maps, wideKeys, modest, calm, conditions, laid).
  DERIVED. THE GIVEN ROWS OF THIS SEAT. 6 by the template 'for every input the law returns true; each argument reads behind the call as it read before'; 0 by the template 'total and deterministic' (their statements: YtcooefnbolobaaaTotals.lean).
  GIVEN WITH THE SEED: the statements are not yours to turn. If you find one false, say at which input.
  Laid BY PROGRAM, IN A SANDBOX (cutbox-rows.mjs): the forced cells as the released guide's own fill.sh prints them over the translation 08b746fa07b78e4c… (all of the seat's roots in one cut). By AI agents, Wed Nov 11 2026. No macro, syntax, notation, axiom, sorry.
-/
import Derived.Test.YtcooefnbolobaaaChecked
import GoSem.Claim
import GoSem.ClaimJoined
import GoSem.ClaimMapViews
import Derived.JoinedTies
import Derived.KernelRfl
namespace Go.Proofs.Ytcooefnbolobaaa
/- THE CELL 'sum', in the pinned program and in every row, IS THE sha256 OF THE DUMP (.gsa) THAT YtcooefnbolobaaaProg.lean LOADS. Nothing in Lean hashes anything: it is a label: what it is worth is what the hold of that sum in a sandbox is worth. -/
noncomputable def Try.pinned : Pinned := { name := "ytcooefnbolobaaa", sum := "08b746fa07b78e4c90764e6e82b2829c1aa8255d5edfb05d64e932d381689b5b", checked := Try.checked }
namespace Rows
def none {H : Type} : Left H := { results := [], args := [] }

/-- 'foghornlaw23.SoftCosts': WHATEVER THE INPUT: true; the input reads as it did. -/
def softCostsSpec : ChangeSpec := { name := "softCosts", fn := fun _ => fun
  | [d1, d2, d3, d4, d5] => { results := [.lit (.bool true)], args := [d1, d2, d3, d4, d5] }
  | _ => none }
def softCostsRow : OpenClaim := { program := "ytcooefnbolobaaa", sum := "08b746fa07b78e4c90764e6e82b2829c1aa8255d5edfb05d64e932d381689b5b", func := "foghorn/foghornlaw23.SoftCosts", spec := "softCosts", inPlace := ["math.archFloor", "math.Float64bits", "math.Float64frombits", "math.archTrunc"], unfollowed := true, recurses := true, apart := false }
def SoftCostsSaid : Prop := softCostsRow.holds Try.pinned (OpenSpec.ofChange softCostsSpec)

/-- ITS FALSE NEIGHBOUR: 'it returns false'. Refute it at one input. -/
def softCostsWrong : ChangeSpec := { name := "softCosts", fn := fun _ => fun
  | [d1, d2, d3, d4, d5] => { results := [.lit (.bool false)], args := [d1, d2, d3, d4, d5] }
  | _ => none }
def SoftCostsWrongFalsely : Prop := softCostsRow.holds Try.pinned (OpenSpec.ofChange softCostsWrong)

/-- 'foghornlaw23.SoftNames': WHATEVER THE INPUT: true; the input reads as it did. -/
def softNamesSpec : ChangeSpec := { name := "softNames", fn := fun _ => fun
  | [] => { results := [.lit (.bool true)], args := [] }
  | _ => none }
def softNamesRow : OpenClaim := { program := "ytcooefnbolobaaa", sum := "08b746fa07b78e4c90764e6e82b2829c1aa8255d5edfb05d64e932d381689b5b", func := "foghorn/foghornlaw23.SoftNames", spec := "softNames", inPlace := ["math.archFloor", "math.Float64bits", "math.Float64frombits", "math.archTrunc"], unfollowed := true, recurses := true, apart := false }
def SoftNamesSaid : Prop := softNamesRow.holds Try.pinned (OpenSpec.ofChange softNamesSpec)

/-- ITS FALSE NEIGHBOUR: 'it returns false'. Refute it at one input. -/
def softNamesWrong : ChangeSpec := { name := "softNames", fn := fun _ => fun
  | [] => { results := [.lit (.bool false)], args := [] }
  | _ => none }
def SoftNamesWrongFalsely : Prop := softNamesRow.holds Try.pinned (OpenSpec.ofChange softNamesWrong)

/-- 'foghornlaw23.SoftDecides': WHATEVER THE INPUT: true; the input reads as it did. -/
def softDecidesSpec : ChangeSpec := { name := "softDecides", fn := fun _ => fun
  | [d1, d2] => { results := [.lit (.bool true)], args := [d1, d2] }
  | _ => none }
def softDecidesRow : OpenClaim := { program := "ytcooefnbolobaaa", sum := "08b746fa07b78e4c90764e6e82b2829c1aa8255d5edfb05d64e932d381689b5b", func := "foghorn/foghornlaw23.SoftDecides", spec := "softDecides", inPlace := ["math.archFloor", "math.Float64bits", "math.Float64frombits", "math.archTrunc"], unfollowed := true, recurses := true, apart := false }
def SoftDecidesSaid : Prop := softDecidesRow.holds Try.pinned (OpenSpec.ofChange softDecidesSpec)

/-- ITS FALSE NEIGHBOUR: 'it returns false'. Refute it at one input. -/
def softDecidesWrong : ChangeSpec := { name := "softDecides", fn := fun _ => fun
  | [d1, d2] => { results := [.lit (.bool false)], args := [d1, d2] }
  | _ => none }
def SoftDecidesWrongFalsely : Prop := softDecidesRow.holds Try.pinned (OpenSpec.ofChange softDecidesWrong)

/-- 'foghornlaw23.SoftNearest': WHATEVER THE INPUT: true; the input reads as it did. -/
def softNearestSpec : ChangeSpec := { name := "softNearest", fn := fun _ => fun
  | [d1, d2] => { results := [.lit (.bool true)], args := [d1, d2] }
  | _ => none }
def softNearestRow : OpenClaim := { program := "ytcooefnbolobaaa", sum := "08b746fa07b78e4c90764e6e82b2829c1aa8255d5edfb05d64e932d381689b5b", func := "foghorn/foghornlaw23.SoftNearest", spec := "softNearest", inPlace := ["math.archFloor", "math.Float64bits", "math.Float64frombits", "math.archTrunc"], unfollowed := true, recurses := true, apart := false }
def SoftNearestSaid : Prop := softNearestRow.holds Try.pinned (OpenSpec.ofChange softNearestSpec)

/-- ITS FALSE NEIGHBOUR: 'it returns false'. Refute it at one input. -/
def softNearestWrong : ChangeSpec := { name := "softNearest", fn := fun _ => fun
  | [d1, d2] => { results := [.lit (.bool false)], args := [d1, d2] }
  | _ => none }
def SoftNearestWrongFalsely : Prop := softNearestRow.holds Try.pinned (OpenSpec.ofChange softNearestWrong)

/-- 'foghornlaw23.SoftReach': WHATEVER THE INPUT: true; the input reads as it did. -/
def softReachSpec : ChangeSpec := { name := "softReach", fn := fun _ => fun
  | [d1, d2, d3, d4] => { results := [.lit (.bool true)], args := [d1, d2, d3, d4] }
  | _ => none }
def softReachRow : OpenClaim := { program := "ytcooefnbolobaaa", sum := "08b746fa07b78e4c90764e6e82b2829c1aa8255d5edfb05d64e932d381689b5b", func := "foghorn/foghornlaw23.SoftReach", spec := "softReach", inPlace := ["math.archFloor", "math.Float64bits", "math.Float64frombits", "math.archTrunc"], unfollowed := true, recurses := true, apart := false }
def SoftReachSaid : Prop := softReachRow.holds Try.pinned (OpenSpec.ofChange softReachSpec)

/-- ITS FALSE NEIGHBOUR: 'it returns false'. Refute it at one input. -/
def softReachWrong : ChangeSpec := { name := "softReach", fn := fun _ => fun
  | [d1, d2, d3, d4] => { results := [.lit (.bool false)], args := [d1, d2, d3, d4] }
  | _ => none }
def SoftReachWrongFalsely : Prop := softReachRow.holds Try.pinned (OpenSpec.ofChange softReachWrong)

/-- 'foghornlaw23.SoftTurns': WHATEVER THE INPUT: true; the input reads as it did. -/
def softTurnsSpec : ChangeSpec := { name := "softTurns", fn := fun _ => fun
  | [d1, d2, d3, d4, d5] => { results := [.lit (.bool true)], args := [d1, d2, d3, d4, d5] }
  | _ => none }
def softTurnsRow : OpenClaim := { program := "ytcooefnbolobaaa", sum := "08b746fa07b78e4c90764e6e82b2829c1aa8255d5edfb05d64e932d381689b5b", func := "foghorn/foghornlaw23.SoftTurns", spec := "softTurns", inPlace := ["math.archFloor", "math.Float64bits", "math.Float64frombits", "math.archTrunc"], unfollowed := true, recurses := true, apart := false }
def SoftTurnsSaid : Prop := softTurnsRow.holds Try.pinned (OpenSpec.ofChange softTurnsSpec)

/-- ITS FALSE NEIGHBOUR: 'it returns false'. Refute it at one input. -/
def softTurnsWrong : ChangeSpec := { name := "softTurns", fn := fun _ => fun
  | [d1, d2, d3, d4, d5] => { results := [.lit (.bool false)], args := [d1, d2, d3, d4, d5] }
  | _ => none }
def SoftTurnsWrongFalsely : Prop := softTurnsRow.holds Try.pinned (OpenSpec.ofChange softTurnsWrong)

/- THE SECOND FORM. 'bulk': how many values and letters a reading holds, each counted each time it is reached (what is shared counts as often as it is met; a slice's spare places count too). A statement '..UptoSaid' is the law's where the arguments, and the package variables that the reading takes, are together of bulk at most 1048576: NARROWER than '..Said'. Prove '..Said' where nothing that the law and all that it calls make is longer than what came in: it says more and counts as full. Else prove '..UptoSaid'. A law counts once. -/
mutual
def uptoBulk {H : Type} : DataW H → Nat
  | .lit (.string bytes) => bytes.length + 1
  | .lit _ => 1
  | .nil => 1
  | .ptr d => uptoBulk d + 1
  | .slice elems spare => uptoBulkAll elems + uptoBulkAll spare + 1
  | .agg parts => uptoBulkAll parts + 1
  | .iface _ d => uptoBulk d + 1
  | .map entries => uptoBulkEntries entries + 1
  | .held _ => 1
def uptoBulkAll {H : Type} : List (DataW H) → Nat
  | [] => 0
  | d :: r => uptoBulk d + uptoBulkAll r
def uptoBulkEntries {H : Type} : List (Lit × DataW H) → Nat
  | [] => 0
  | x :: r => uptoBulkEntry x + uptoBulkEntries r
def uptoBulkEntry {H : Type} : Lit × DataW H → Nat
  | (.string bytes, d) => bytes.length + uptoBulk d + 1
  | (_, d) => uptoBulk d + 1
 end
def uptoSmall : (H : Type) → List (DataW H) → Bool := fun _ ds => decide (uptoBulkAll ds ≤ 1048576)
def OpenSpec.upto (s : _root_.Go.ChangeSpec) : _root_.Go.OpenSpec := { _root_.Go.OpenSpec.ofChange s with cond := some uptoSmall }

/-- 'foghornlaw23.SoftCosts', WHERE WHAT IT READS IS OF BULK AT MOST 1048576: true; the input reads as it did. -/
def softCostsUptoRow : OpenClaim := { program := "ytcooefnbolobaaa", sum := "08b746fa07b78e4c90764e6e82b2829c1aa8255d5edfb05d64e932d381689b5b", func := "foghorn/foghornlaw23.SoftCosts", spec := "softCosts", inPlace := ["math.archFloor", "math.Float64bits", "math.Float64frombits", "math.archTrunc"], unfollowed := true, recurses := true, apart := false, narrowed := true }
def SoftCostsUptoSaid : Prop := softCostsUptoRow.holds Try.pinned (OpenSpec.upto softCostsSpec)

/-- 'foghornlaw23.SoftNames', WHERE WHAT IT READS IS OF BULK AT MOST 1048576: true; the input reads as it did. -/
def softNamesUptoRow : OpenClaim := { program := "ytcooefnbolobaaa", sum := "08b746fa07b78e4c90764e6e82b2829c1aa8255d5edfb05d64e932d381689b5b", func := "foghorn/foghornlaw23.SoftNames", spec := "softNames", inPlace := ["math.archFloor", "math.Float64bits", "math.Float64frombits", "math.archTrunc"], unfollowed := true, recurses := true, apart := false, narrowed := true }
def SoftNamesUptoSaid : Prop := softNamesUptoRow.holds Try.pinned (OpenSpec.upto softNamesSpec)

/-- 'foghornlaw23.SoftDecides', WHERE WHAT IT READS IS OF BULK AT MOST 1048576: true; the input reads as it did. -/
def softDecidesUptoRow : OpenClaim := { program := "ytcooefnbolobaaa", sum := "08b746fa07b78e4c90764e6e82b2829c1aa8255d5edfb05d64e932d381689b5b", func := "foghorn/foghornlaw23.SoftDecides", spec := "softDecides", inPlace := ["math.archFloor", "math.Float64bits", "math.Float64frombits", "math.archTrunc"], unfollowed := true, recurses := true, apart := false, narrowed := true }
def SoftDecidesUptoSaid : Prop := softDecidesUptoRow.holds Try.pinned (OpenSpec.upto softDecidesSpec)

/-- 'foghornlaw23.SoftNearest', WHERE WHAT IT READS IS OF BULK AT MOST 1048576: true; the input reads as it did. -/
def softNearestUptoRow : OpenClaim := { program := "ytcooefnbolobaaa", sum := "08b746fa07b78e4c90764e6e82b2829c1aa8255d5edfb05d64e932d381689b5b", func := "foghorn/foghornlaw23.SoftNearest", spec := "softNearest", inPlace := ["math.archFloor", "math.Float64bits", "math.Float64frombits", "math.archTrunc"], unfollowed := true, recurses := true, apart := false, narrowed := true }
def SoftNearestUptoSaid : Prop := softNearestUptoRow.holds Try.pinned (OpenSpec.upto softNearestSpec)

/-- 'foghornlaw23.SoftReach', WHERE WHAT IT READS IS OF BULK AT MOST 1048576: true; the input reads as it did. -/
def softReachUptoRow : OpenClaim := { program := "ytcooefnbolobaaa", sum := "08b746fa07b78e4c90764e6e82b2829c1aa8255d5edfb05d64e932d381689b5b", func := "foghorn/foghornlaw23.SoftReach", spec := "softReach", inPlace := ["math.archFloor", "math.Float64bits", "math.Float64frombits", "math.archTrunc"], unfollowed := true, recurses := true, apart := false, narrowed := true }
def SoftReachUptoSaid : Prop := softReachUptoRow.holds Try.pinned (OpenSpec.upto softReachSpec)

/-- 'foghornlaw23.SoftTurns', WHERE WHAT IT READS IS OF BULK AT MOST 1048576: true; the input reads as it did. -/
def softTurnsUptoRow : OpenClaim := { program := "ytcooefnbolobaaa", sum := "08b746fa07b78e4c90764e6e82b2829c1aa8255d5edfb05d64e932d381689b5b", func := "foghorn/foghornlaw23.SoftTurns", spec := "softTurns", inPlace := ["math.archFloor", "math.Float64bits", "math.Float64frombits", "math.archTrunc"], unfollowed := true, recurses := true, apart := false, narrowed := true }
def SoftTurnsUptoSaid : Prop := softTurnsUptoRow.holds Try.pinned (OpenSpec.upto softTurnsSpec)

end Rows
end Go.Proofs.Ytcooefnbolobaaa
