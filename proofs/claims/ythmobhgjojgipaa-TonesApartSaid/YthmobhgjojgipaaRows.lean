/-
  No cell of these rows narrows 'for every input' (looked for: loops, veiled, ifaces, maps, wideKeys, modest, calm, conditions, laid).
  DERIVED. THE GIVEN ROWS OF THIS SEAT. 3 by the template 'for every input the law returns true; each argument reads behind the call as it read before'; 0 by the template 'total and deterministic' (their statements: YthmobhgjojgipaaTotals.lean).
  GIVEN WITH THE SEED: the statements are not yours to turn. If you find one false, say at which input.
  Laid BY PROGRAM, IN A SANDBOX (cutbox-rows.mjs): the forced cells as the released guide's own fill.sh prints them over the translation 6acdc6078b4d0ecb… (all of the seat's roots in one cut). By AI agents, Wed Nov 11 2026. No macro, syntax, notation, axiom, sorry.
-/
import Derived.Test.YthmobhgjojgipaaChecked
import GoSem.Claim
import GoSem.ClaimJoined
import GoSem.ClaimMapViews
import Derived.JoinedTies
import Derived.KernelRfl
namespace Go.Proofs.Ythmobhgjojgipaa
/- THE CELL 'sum', in the pinned program and in every row, IS THE sha256 OF THE DUMP (.gsa) THAT YthmobhgjojgipaaProg.lean LOADS. Nothing in Lean hashes anything: it is a label: what it is worth is what the hold of that sum in a sandbox is worth. -/
noncomputable def Try.pinned : Pinned := { name := "ythmobhgjojgipaa", sum := "6acdc6078b4d0ecbebfcc303b69820770a93b6a61a10349ccb649f098cb24805", checked := Try.checked }
namespace Rows
def none {H : Type} : Left H := { results := [], args := [] }

/-- 'foghornlaw09.TonesBack': WHATEVER THE INPUT: true; the input reads as it did. -/
def tonesBackSpec : ChangeSpec := { name := "tonesBack", fn := fun _ => fun
  | [d] => { results := [.lit (.bool true)], args := [d] }
  | _ => none }
def tonesBackRow : OpenClaim := { program := "ythmobhgjojgipaa", sum := "6acdc6078b4d0ecbebfcc303b69820770a93b6a61a10349ccb649f098cb24805", func := "foghorn/foghornlaw09.TonesBack", spec := "tonesBack", inPlace := ["math.Float64bits"], unfollowed := true, recurses := true, apart := false }
def TonesBackSaid : Prop := tonesBackRow.holds Try.pinned (OpenSpec.ofChange tonesBackSpec)

/-- ITS FALSE NEIGHBOUR: 'it returns false'. Refute it at one input. -/
def tonesBackWrong : ChangeSpec := { name := "tonesBack", fn := fun _ => fun
  | [d] => { results := [.lit (.bool false)], args := [d] }
  | _ => none }
def TonesBackWrongFalsely : Prop := tonesBackRow.holds Try.pinned (OpenSpec.ofChange tonesBackWrong)

/-- 'foghornlaw09.TonesApart': WHATEVER THE INPUT: true; the input reads as it did. -/
def tonesApartSpec : ChangeSpec := { name := "tonesApart", fn := fun _ => fun
  | [d1, d2, d3] => { results := [.lit (.bool true)], args := [d1, d2, d3] }
  | _ => none }
def tonesApartRow : OpenClaim := { program := "ythmobhgjojgipaa", sum := "6acdc6078b4d0ecbebfcc303b69820770a93b6a61a10349ccb649f098cb24805", func := "foghorn/foghornlaw09.TonesApart", spec := "tonesApart", inPlace := ["math.Float64bits"], unfollowed := true, recurses := true, apart := false }
def TonesApartSaid : Prop := tonesApartRow.holds Try.pinned (OpenSpec.ofChange tonesApartSpec)

/-- ITS FALSE NEIGHBOUR: 'it returns false'. Refute it at one input. -/
def tonesApartWrong : ChangeSpec := { name := "tonesApart", fn := fun _ => fun
  | [d1, d2, d3] => { results := [.lit (.bool false)], args := [d1, d2, d3] }
  | _ => none }
def TonesApartWrongFalsely : Prop := tonesApartRow.holds Try.pinned (OpenSpec.ofChange tonesApartWrong)

/-- 'foghornlaw09.TonesNone': WHATEVER THE INPUT: true; the input reads as it did. -/
def tonesNoneSpec : ChangeSpec := { name := "tonesNone", fn := fun _ => fun
  | [] => { results := [.lit (.bool true)], args := [] }
  | _ => none }
def tonesNoneRow : OpenClaim := { program := "ythmobhgjojgipaa", sum := "6acdc6078b4d0ecbebfcc303b69820770a93b6a61a10349ccb649f098cb24805", func := "foghorn/foghornlaw09.TonesNone", spec := "tonesNone", inPlace := ["math.Float64bits"], unfollowed := true, recurses := true, apart := false }
def TonesNoneSaid : Prop := tonesNoneRow.holds Try.pinned (OpenSpec.ofChange tonesNoneSpec)

/-- ITS FALSE NEIGHBOUR: 'it returns false'. Refute it at one input. -/
def tonesNoneWrong : ChangeSpec := { name := "tonesNone", fn := fun _ => fun
  | [] => { results := [.lit (.bool false)], args := [] }
  | _ => none }
def TonesNoneWrongFalsely : Prop := tonesNoneRow.holds Try.pinned (OpenSpec.ofChange tonesNoneWrong)

/- THE SECOND FORM. 'bulk': how many values and letters a reading holds, each counted each time it is reached (what is shared counts as often as it is met; a slice's spare places count too). A statement '..UptoSaid' is the law's where the arguments, and the package variables that the reading takes, are together of bulk at most 1048576: NARROWER than '..Said'. Prove '..Said' where nothing that the law and all that it calls make is longer than what came in: it says more and counts as full. Else prove '..UptoSaid'. A law counts once. -/
mutual
def uptoBulk {H : Type} : DataW H → Nat
  | .lit (.string bytes) => bytes.length + 1
  | .lit _ => 1
  | .nil => 1
  | .ptr d => uptoBulk d + 1
  | .slice elems spare => uptoBulkAll elems + uptoBulkAll spare + 1
  | .agg parts => uptoBulkAll parts + 1
  | .iface _ d => uptoBulk d + 1
  | .map entries => uptoBulkEntries entries + 1
  | .held _ => 1
def uptoBulkAll {H : Type} : List (DataW H) → Nat
  | [] => 0
  | d :: r => uptoBulk d + uptoBulkAll r
def uptoBulkEntries {H : Type} : List (Lit × DataW H) → Nat
  | [] => 0
  | x :: r => uptoBulkEntry x + uptoBulkEntries r
def uptoBulkEntry {H : Type} : Lit × DataW H → Nat
  | (.string bytes, d) => bytes.length + uptoBulk d + 1
  | (_, d) => uptoBulk d + 1
 end
def uptoSmall : (H : Type) → List (DataW H) → Bool := fun _ ds => decide (uptoBulkAll ds ≤ 1048576)
def OpenSpec.upto (s : _root_.Go.ChangeSpec) : _root_.Go.OpenSpec := { _root_.Go.OpenSpec.ofChange s with cond := some uptoSmall }

/-- 'foghornlaw09.TonesBack', WHERE WHAT IT READS IS OF BULK AT MOST 1048576: true; the input reads as it did. -/
def tonesBackUptoRow : OpenClaim := { program := "ythmobhgjojgipaa", sum := "6acdc6078b4d0ecbebfcc303b69820770a93b6a61a10349ccb649f098cb24805", func := "foghorn/foghornlaw09.TonesBack", spec := "tonesBack", inPlace := ["math.Float64bits"], unfollowed := true, recurses := true, apart := false, narrowed := true }
def TonesBackUptoSaid : Prop := tonesBackUptoRow.holds Try.pinned (OpenSpec.upto tonesBackSpec)

/-- 'foghornlaw09.TonesApart', WHERE WHAT IT READS IS OF BULK AT MOST 1048576: true; the input reads as it did. -/
def tonesApartUptoRow : OpenClaim := { program := "ythmobhgjojgipaa", sum := "6acdc6078b4d0ecbebfcc303b69820770a93b6a61a10349ccb649f098cb24805", func := "foghorn/foghornlaw09.TonesApart", spec := "tonesApart", inPlace := ["math.Float64bits"], unfollowed := true, recurses := true, apart := false, narrowed := true }
def TonesApartUptoSaid : Prop := tonesApartUptoRow.holds Try.pinned (OpenSpec.upto tonesApartSpec)

/-- 'foghornlaw09.TonesNone', WHERE WHAT IT READS IS OF BULK AT MOST 1048576: true; the input reads as it did. -/
def tonesNoneUptoRow : OpenClaim := { program := "ythmobhgjojgipaa", sum := "6acdc6078b4d0ecbebfcc303b69820770a93b6a61a10349ccb649f098cb24805", func := "foghorn/foghornlaw09.TonesNone", spec := "tonesNone", inPlace := ["math.Float64bits"], unfollowed := true, recurses := true, apart := false, narrowed := true }
def TonesNoneUptoSaid : Prop := tonesNoneUptoRow.holds Try.pinned (OpenSpec.upto tonesNoneSpec)

end Rows
end Go.Proofs.Ythmobhgjojgipaa
