/-
  No cell of these rows narrows 'for every input' (looked for: loops, veiled, ifaces, maps, wideKeys, modest, calm, conditions, laid).
  DERIVED. THE GIVEN ROWS OF THIS SEAT. 6 by the template 'for every input the law returns true; each argument reads behind the call as it read before'; 0 by the template 'total and deterministic' (their statements: YthajdlihjobcoaaTotals.lean).
  GIVEN WITH THE SEED: the statements are not yours to turn. If you find one false, say at which input.
  Laid BY PROGRAM, IN A SANDBOX (cutbox-rows.mjs): the forced cells as the released guide's own fill.sh prints them over the translation 87a62ce300734cab… (all of the seat's roots in one cut). By AI agents, Wed Nov 11 2026. No macro, syntax, notation, axiom, sorry.
-/
import Derived.Test.YthajdlihjobcoaaChecked
import GoSem.Claim
import GoSem.ClaimJoined
import GoSem.ClaimMapViews
import Derived.JoinedTies
import Derived.KernelRfl
namespace Go.Proofs.Ythajdlihjobcoaa
/- THE CELL 'sum', in the pinned program and in every row, IS THE sha256 OF THE DUMP (.gsa) THAT YthajdlihjobcoaaProg.lean LOADS. Nothing in Lean hashes anything: it is a label: what it is worth is what the hold of that sum in a sandbox is worth. -/
noncomputable def Try.pinned : Pinned := { name := "ythajdlihjobcoaa", sum := "87a62ce300734cab105e47bf1735d372133ba6ed39d2ff12cc5de856501ea1df", checked := Try.checked }
namespace Rows
def none {H : Type} : Left H := { results := [], args := [] }

/-- 'foghornlaw22.HardThins': WHATEVER THE INPUT: true; the input reads as it did. -/
def hardThinsSpec : ChangeSpec := { name := "hardThins", fn := fun _ => fun
  | [d1, d2, d3, d4] => { results := [.lit (.bool true)], args := [d1, d2, d3, d4] }
  | _ => none }
def hardThinsRow : OpenClaim := { program := "ythajdlihjobcoaa", sum := "87a62ce300734cab105e47bf1735d372133ba6ed39d2ff12cc5de856501ea1df", func := "foghorn/foghornlaw22.HardThins", spec := "hardThins", apart := false }
def HardThinsSaid : Prop := hardThinsRow.holds Try.pinned (OpenSpec.ofChange hardThinsSpec)

/-- ITS FALSE NEIGHBOUR: 'it returns false'. Refute it at one input. -/
def hardThinsWrong : ChangeSpec := { name := "hardThins", fn := fun _ => fun
  | [d1, d2, d3, d4] => { results := [.lit (.bool false)], args := [d1, d2, d3, d4] }
  | _ => none }
def HardThinsWrongFalsely : Prop := hardThinsRow.holds Try.pinned (OpenSpec.ofChange hardThinsWrong)

/-- 'foghornlaw22.HardPaths': WHATEVER THE INPUT: true; the input reads as it did. -/
def hardPathsSpec : ChangeSpec := { name := "hardPaths", fn := fun _ => fun
  | [d1, d2, d3] => { results := [.lit (.bool true)], args := [d1, d2, d3] }
  | _ => none }
def hardPathsRow : OpenClaim := { program := "ythajdlihjobcoaa", sum := "87a62ce300734cab105e47bf1735d372133ba6ed39d2ff12cc5de856501ea1df", func := "foghorn/foghornlaw22.HardPaths", spec := "hardPaths", unfollowed := true, recurses := true, apart := false }
def HardPathsSaid : Prop := hardPathsRow.holds Try.pinned (OpenSpec.ofChange hardPathsSpec)

/-- ITS FALSE NEIGHBOUR: 'it returns false'. Refute it at one input. -/
def hardPathsWrong : ChangeSpec := { name := "hardPaths", fn := fun _ => fun
  | [d1, d2, d3] => { results := [.lit (.bool false)], args := [d1, d2, d3] }
  | _ => none }
def HardPathsWrongFalsely : Prop := hardPathsRow.holds Try.pinned (OpenSpec.ofChange hardPathsWrong)

/-- 'foghornlaw22.HardLeast': WHATEVER THE INPUT: true; the input reads as it did. -/
def hardLeastSpec : ChangeSpec := { name := "hardLeast", fn := fun _ => fun
  | [d1, d2, d3] => { results := [.lit (.bool true)], args := [d1, d2, d3] }
  | _ => none }
def hardLeastRow : OpenClaim := { program := "ythajdlihjobcoaa", sum := "87a62ce300734cab105e47bf1735d372133ba6ed39d2ff12cc5de856501ea1df", func := "foghorn/foghornlaw22.HardLeast", spec := "hardLeast", unfollowed := true, recurses := true, apart := false }
def HardLeastSaid : Prop := hardLeastRow.holds Try.pinned (OpenSpec.ofChange hardLeastSpec)

/-- ITS FALSE NEIGHBOUR: 'it returns false'. Refute it at one input. -/
def hardLeastWrong : ChangeSpec := { name := "hardLeast", fn := fun _ => fun
  | [d1, d2, d3] => { results := [.lit (.bool false)], args := [d1, d2, d3] }
  | _ => none }
def HardLeastWrongFalsely : Prop := hardLeastRow.holds Try.pinned (OpenSpec.ofChange hardLeastWrong)

/-- 'foghornlaw22.HardNames': WHATEVER THE INPUT: true; the input reads as it did. -/
def hardNamesSpec : ChangeSpec := { name := "hardNames", fn := fun _ => fun
  | [] => { results := [.lit (.bool true)], args := [] }
  | _ => none }
def hardNamesRow : OpenClaim := { program := "ythajdlihjobcoaa", sum := "87a62ce300734cab105e47bf1735d372133ba6ed39d2ff12cc5de856501ea1df", func := "foghorn/foghornlaw22.HardNames", spec := "hardNames", unfollowed := true, recurses := true, apart := false }
def HardNamesSaid : Prop := hardNamesRow.holds Try.pinned (OpenSpec.ofChange hardNamesSpec)

/-- ITS FALSE NEIGHBOUR: 'it returns false'. Refute it at one input. -/
def hardNamesWrong : ChangeSpec := { name := "hardNames", fn := fun _ => fun
  | [] => { results := [.lit (.bool false)], args := [] }
  | _ => none }
def HardNamesWrongFalsely : Prop := hardNamesRow.holds Try.pinned (OpenSpec.ofChange hardNamesWrong)

/-- 'foghornlaw22.HardThinned': WHATEVER THE INPUT: true; the input reads as it did. -/
def hardThinnedSpec : ChangeSpec := { name := "hardThinned", fn := fun _ => fun
  | [d1, d2] => { results := [.lit (.bool true)], args := [d1, d2] }
  | _ => none }
def hardThinnedRow : OpenClaim := { program := "ythajdlihjobcoaa", sum := "87a62ce300734cab105e47bf1735d372133ba6ed39d2ff12cc5de856501ea1df", func := "foghorn/foghornlaw22.HardThinned", spec := "hardThinned", unfollowed := true, recurses := true, apart := false }
def HardThinnedSaid : Prop := hardThinnedRow.holds Try.pinned (OpenSpec.ofChange hardThinnedSpec)

/-- ITS FALSE NEIGHBOUR: 'it returns false'. Refute it at one input. -/
def hardThinnedWrong : ChangeSpec := { name := "hardThinned", fn := fun _ => fun
  | [d1, d2] => { results := [.lit (.bool false)], args := [d1, d2] }
  | _ => none }
def HardThinnedWrongFalsely : Prop := hardThinnedRow.holds Try.pinned (OpenSpec.ofChange hardThinnedWrong)

/-- 'foghornlaw22.HardReach': WHATEVER THE INPUT: true; the input reads as it did. -/
def hardReachSpec : ChangeSpec := { name := "hardReach", fn := fun _ => fun
  | [d1, d2, d3] => { results := [.lit (.bool true)], args := [d1, d2, d3] }
  | _ => none }
def hardReachRow : OpenClaim := { program := "ythajdlihjobcoaa", sum := "87a62ce300734cab105e47bf1735d372133ba6ed39d2ff12cc5de856501ea1df", func := "foghorn/foghornlaw22.HardReach", spec := "hardReach", unfollowed := true, recurses := true, apart := false }
def HardReachSaid : Prop := hardReachRow.holds Try.pinned (OpenSpec.ofChange hardReachSpec)

/-- ITS FALSE NEIGHBOUR: 'it returns false'. Refute it at one input. -/
def hardReachWrong : ChangeSpec := { name := "hardReach", fn := fun _ => fun
  | [d1, d2, d3] => { results := [.lit (.bool false)], args := [d1, d2, d3] }
  | _ => none }
def HardReachWrongFalsely : Prop := hardReachRow.holds Try.pinned (OpenSpec.ofChange hardReachWrong)

/- THE SECOND FORM. 'bulk': how many values and letters a reading holds, each counted each time it is reached (what is shared counts as often as it is met; a slice's spare places count too). A statement '..UptoSaid' is the law's where the arguments, and the package variables that the reading takes, are together of bulk at most 1048576: NARROWER than '..Said'. Prove '..Said' where nothing that the law and all that it calls make is longer than what came in: it says more and counts as full. Else prove '..UptoSaid'. A law counts once. -/
mutual
def uptoBulk {H : Type} : DataW H → Nat
  | .lit (.string bytes) => bytes.length + 1
  | .lit _ => 1
  | .nil => 1
  | .ptr d => uptoBulk d + 1
  | .slice elems spare => uptoBulkAll elems + uptoBulkAll spare + 1
  | .agg parts => uptoBulkAll parts + 1
  | .iface _ d => uptoBulk d + 1
  | .map entries => uptoBulkEntries entries + 1
  | .held _ => 1
def uptoBulkAll {H : Type} : List (DataW H) → Nat
  | [] => 0
  | d :: r => uptoBulk d + uptoBulkAll r
def uptoBulkEntries {H : Type} : List (Lit × DataW H) → Nat
  | [] => 0
  | x :: r => uptoBulkEntry x + uptoBulkEntries r
def uptoBulkEntry {H : Type} : Lit × DataW H → Nat
  | (.string bytes, d) => bytes.length + uptoBulk d + 1
  | (_, d) => uptoBulk d + 1
 end
def uptoSmall : (H : Type) → List (DataW H) → Bool := fun _ ds => decide (uptoBulkAll ds ≤ 1048576)
def OpenSpec.upto (s : _root_.Go.ChangeSpec) : _root_.Go.OpenSpec := { _root_.Go.OpenSpec.ofChange s with cond := some uptoSmall }

/-- 'foghornlaw22.HardThins', WHERE WHAT IT READS IS OF BULK AT MOST 1048576: true; the input reads as it did. -/
def hardThinsUptoRow : OpenClaim := { program := "ythajdlihjobcoaa", sum := "87a62ce300734cab105e47bf1735d372133ba6ed39d2ff12cc5de856501ea1df", func := "foghorn/foghornlaw22.HardThins", spec := "hardThins", apart := false, narrowed := true }
def HardThinsUptoSaid : Prop := hardThinsUptoRow.holds Try.pinned (OpenSpec.upto hardThinsSpec)

/-- 'foghornlaw22.HardPaths', WHERE WHAT IT READS IS OF BULK AT MOST 1048576: true; the input reads as it did. -/
def hardPathsUptoRow : OpenClaim := { program := "ythajdlihjobcoaa", sum := "87a62ce300734cab105e47bf1735d372133ba6ed39d2ff12cc5de856501ea1df", func := "foghorn/foghornlaw22.HardPaths", spec := "hardPaths", unfollowed := true, recurses := true, apart := false, narrowed := true }
def HardPathsUptoSaid : Prop := hardPathsUptoRow.holds Try.pinned (OpenSpec.upto hardPathsSpec)

/-- 'foghornlaw22.HardLeast', WHERE WHAT IT READS IS OF BULK AT MOST 1048576: true; the input reads as it did. -/
def hardLeastUptoRow : OpenClaim := { program := "ythajdlihjobcoaa", sum := "87a62ce300734cab105e47bf1735d372133ba6ed39d2ff12cc5de856501ea1df", func := "foghorn/foghornlaw22.HardLeast", spec := "hardLeast", unfollowed := true, recurses := true, apart := false, narrowed := true }
def HardLeastUptoSaid : Prop := hardLeastUptoRow.holds Try.pinned (OpenSpec.upto hardLeastSpec)

/-- 'foghornlaw22.HardNames', WHERE WHAT IT READS IS OF BULK AT MOST 1048576: true; the input reads as it did. -/
def hardNamesUptoRow : OpenClaim := { program := "ythajdlihjobcoaa", sum := "87a62ce300734cab105e47bf1735d372133ba6ed39d2ff12cc5de856501ea1df", func := "foghorn/foghornlaw22.HardNames", spec := "hardNames", unfollowed := true, recurses := true, apart := false, narrowed := true }
def HardNamesUptoSaid : Prop := hardNamesUptoRow.holds Try.pinned (OpenSpec.upto hardNamesSpec)

/-- 'foghornlaw22.HardThinned', WHERE WHAT IT READS IS OF BULK AT MOST 1048576: true; the input reads as it did. -/
def hardThinnedUptoRow : OpenClaim := { program := "ythajdlihjobcoaa", sum := "87a62ce300734cab105e47bf1735d372133ba6ed39d2ff12cc5de856501ea1df", func := "foghorn/foghornlaw22.HardThinned", spec := "hardThinned", unfollowed := true, recurses := true, apart := false, narrowed := true }
def HardThinnedUptoSaid : Prop := hardThinnedUptoRow.holds Try.pinned (OpenSpec.upto hardThinnedSpec)

/-- 'foghornlaw22.HardReach', WHERE WHAT IT READS IS OF BULK AT MOST 1048576: true; the input reads as it did. -/
def hardReachUptoRow : OpenClaim := { program := "ythajdlihjobcoaa", sum := "87a62ce300734cab105e47bf1735d372133ba6ed39d2ff12cc5de856501ea1df", func := "foghorn/foghornlaw22.HardReach", spec := "hardReach", unfollowed := true, recurses := true, apart := false, narrowed := true }
def HardReachUptoSaid : Prop := hardReachUptoRow.holds Try.pinned (OpenSpec.upto hardReachSpec)

end Rows
end Go.Proofs.Ythajdlihjobcoaa
