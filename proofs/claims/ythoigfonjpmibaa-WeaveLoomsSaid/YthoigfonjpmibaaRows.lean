/-
  No cell of these rows narrows 'for every input' (looked for: loops, veiled, ifaces, maps, wideKeys, modest, calm, conditions, laid).
  DERIVED. THE GIVEN ROWS OF THIS SEAT. 9 by the template 'for every input the law returns true; each argument reads behind the call as it read before'; 0 by the template 'total and deterministic' (their statements: YthoigfonjpmibaaTotals.lean).
  GIVEN WITH THE SEED: the statements are not yours to turn. If you find one false, say at which input.
  Laid BY PROGRAM, IN A SANDBOX (cutbox-rows.mjs): the forced cells as the released guide's own fill.sh prints them over the translation 15707e0197e1b9cb… (all of the seat's roots in one cut). By AI agents, Wed Nov 11 2026. No macro, syntax, notation, axiom, sorry.
-/
import Derived.Test.YthoigfonjpmibaaChecked
import GoSem.Claim
import GoSem.ClaimJoined
import GoSem.ClaimMapViews
import Derived.JoinedTies
import Derived.KernelRfl
namespace Go.Proofs.Ythoigfonjpmibaa
/- THE CELL 'sum', in the pinned program and in every row, IS THE sha256 OF THE DUMP (.gsa) THAT YthoigfonjpmibaaProg.lean LOADS. Nothing in Lean hashes anything: it is a label: what it is worth is what the hold of that sum in a sandbox is worth. -/
noncomputable def Try.pinned : Pinned := { name := "ythoigfonjpmibaa", sum := "15707e0197e1b9cbe90a2683f22088a8925c87030852428c7e3035594d1b9548", checked := Try.checked }
namespace Rows
def none {H : Type} : Left H := { results := [], args := [] }

/-- 'foghornlaw17.WeaveMarks': WHATEVER THE INPUT: true; the input reads as it did. -/
def weaveMarksSpec : ChangeSpec := { name := "weaveMarks", fn := fun _ => fun
  | [d1, d2, d3] => { results := [.lit (.bool true)], args := [d1, d2, d3] }
  | _ => none }
def weaveMarksRow : OpenClaim := { program := "ythoigfonjpmibaa", sum := "15707e0197e1b9cbe90a2683f22088a8925c87030852428c7e3035594d1b9548", func := "foghorn/foghornlaw17.WeaveMarks", spec := "weaveMarks", apart := false }
def WeaveMarksSaid : Prop := weaveMarksRow.holds Try.pinned (OpenSpec.ofChange weaveMarksSpec)

/-- ITS FALSE NEIGHBOUR: 'it returns false'. Refute it at one input. -/
def weaveMarksWrong : ChangeSpec := { name := "weaveMarks", fn := fun _ => fun
  | [d1, d2, d3] => { results := [.lit (.bool false)], args := [d1, d2, d3] }
  | _ => none }
def WeaveMarksWrongFalsely : Prop := weaveMarksRow.holds Try.pinned (OpenSpec.ofChange weaveMarksWrong)

/-- 'foghornlaw17.WeavePlaces': WHATEVER THE INPUT: true; the input reads as it did. -/
def weavePlacesSpec : ChangeSpec := { name := "weavePlaces", fn := fun _ => fun
  | [d1, d2, d3, d4, d5, d6, d7] => { results := [.lit (.bool true)], args := [d1, d2, d3, d4, d5, d6, d7] }
  | _ => none }
def weavePlacesRow : OpenClaim := { program := "ythoigfonjpmibaa", sum := "15707e0197e1b9cbe90a2683f22088a8925c87030852428c7e3035594d1b9548", func := "foghorn/foghornlaw17.WeavePlaces", spec := "weavePlaces", unfollowed := true, recurses := true, apart := false }
def WeavePlacesSaid : Prop := weavePlacesRow.holds Try.pinned (OpenSpec.ofChange weavePlacesSpec)

/-- ITS FALSE NEIGHBOUR: 'it returns false'. Refute it at one input. -/
def weavePlacesWrong : ChangeSpec := { name := "weavePlaces", fn := fun _ => fun
  | [d1, d2, d3, d4, d5, d6, d7] => { results := [.lit (.bool false)], args := [d1, d2, d3, d4, d5, d6, d7] }
  | _ => none }
def WeavePlacesWrongFalsely : Prop := weavePlacesRow.holds Try.pinned (OpenSpec.ofChange weavePlacesWrong)

/-- 'foghornlaw17.WeaveWords': WHATEVER THE INPUT: true; the input reads as it did. -/
def weaveWordsSpec : ChangeSpec := { name := "weaveWords", fn := fun _ => fun
  | [d1, d2, d3] => { results := [.lit (.bool true)], args := [d1, d2, d3] }
  | _ => none }
def weaveWordsRow : OpenClaim := { program := "ythoigfonjpmibaa", sum := "15707e0197e1b9cbe90a2683f22088a8925c87030852428c7e3035594d1b9548", func := "foghorn/foghornlaw17.WeaveWords", spec := "weaveWords", apart := false }
def WeaveWordsSaid : Prop := weaveWordsRow.holds Try.pinned (OpenSpec.ofChange weaveWordsSpec)

/-- ITS FALSE NEIGHBOUR: 'it returns false'. Refute it at one input. -/
def weaveWordsWrong : ChangeSpec := { name := "weaveWords", fn := fun _ => fun
  | [d1, d2, d3] => { results := [.lit (.bool false)], args := [d1, d2, d3] }
  | _ => none }
def WeaveWordsWrongFalsely : Prop := weaveWordsRow.holds Try.pinned (OpenSpec.ofChange weaveWordsWrong)

/-- 'foghornlaw17.WeaveLooms': WHATEVER THE INPUT: true; the input reads as it did. -/
def weaveLoomsSpec : ChangeSpec := { name := "weaveLooms", fn := fun _ => fun
  | [d1, d2, d3, d4, d5] => { results := [.lit (.bool true)], args := [d1, d2, d3, d4, d5] }
  | _ => none }
def weaveLoomsRow : OpenClaim := { program := "ythoigfonjpmibaa", sum := "15707e0197e1b9cbe90a2683f22088a8925c87030852428c7e3035594d1b9548", func := "foghorn/foghornlaw17.WeaveLooms", spec := "weaveLooms", unfollowed := true, recurses := true, apart := false }
def WeaveLoomsSaid : Prop := weaveLoomsRow.holds Try.pinned (OpenSpec.ofChange weaveLoomsSpec)

/-- ITS FALSE NEIGHBOUR: 'it returns false'. Refute it at one input. -/
def weaveLoomsWrong : ChangeSpec := { name := "weaveLooms", fn := fun _ => fun
  | [d1, d2, d3, d4, d5] => { results := [.lit (.bool false)], args := [d1, d2, d3, d4, d5] }
  | _ => none }
def WeaveLoomsWrongFalsely : Prop := weaveLoomsRow.holds Try.pinned (OpenSpec.ofChange weaveLoomsWrong)

/-- 'foghornlaw17.WeaveNames': WHATEVER THE INPUT: true; the input reads as it did. -/
def weaveNamesSpec : ChangeSpec := { name := "weaveNames", fn := fun _ => fun
  | [] => { results := [.lit (.bool true)], args := [] }
  | _ => none }
def weaveNamesRow : OpenClaim := { program := "ythoigfonjpmibaa", sum := "15707e0197e1b9cbe90a2683f22088a8925c87030852428c7e3035594d1b9548", func := "foghorn/foghornlaw17.WeaveNames", spec := "weaveNames", unfollowed := true, recurses := true, apart := false }
def WeaveNamesSaid : Prop := weaveNamesRow.holds Try.pinned (OpenSpec.ofChange weaveNamesSpec)

/-- ITS FALSE NEIGHBOUR: 'it returns false'. Refute it at one input. -/
def weaveNamesWrong : ChangeSpec := { name := "weaveNames", fn := fun _ => fun
  | [] => { results := [.lit (.bool false)], args := [] }
  | _ => none }
def WeaveNamesWrongFalsely : Prop := weaveNamesRow.holds Try.pinned (OpenSpec.ofChange weaveNamesWrong)

/-- 'foghornlaw17.WeaveApart': WHATEVER THE INPUT: true; the input reads as it did. -/
def weaveApartSpec : ChangeSpec := { name := "weaveApart", fn := fun _ => fun
  | [d1, d2, d3, d4] => { results := [.lit (.bool true)], args := [d1, d2, d3, d4] }
  | _ => none }
def weaveApartRow : OpenClaim := { program := "ythoigfonjpmibaa", sum := "15707e0197e1b9cbe90a2683f22088a8925c87030852428c7e3035594d1b9548", func := "foghorn/foghornlaw17.WeaveApart", spec := "weaveApart", unfollowed := true, recurses := true, apart := false }
def WeaveApartSaid : Prop := weaveApartRow.holds Try.pinned (OpenSpec.ofChange weaveApartSpec)

/-- ITS FALSE NEIGHBOUR: 'it returns false'. Refute it at one input. -/
def weaveApartWrong : ChangeSpec := { name := "weaveApart", fn := fun _ => fun
  | [d1, d2, d3, d4] => { results := [.lit (.bool false)], args := [d1, d2, d3, d4] }
  | _ => none }
def WeaveApartWrongFalsely : Prop := weaveApartRow.holds Try.pinned (OpenSpec.ofChange weaveApartWrong)

/-- 'foghornlaw17.WeaveDelays': WHATEVER THE INPUT: true; the input reads as it did. -/
def weaveDelaysSpec : ChangeSpec := { name := "weaveDelays", fn := fun _ => fun
  | [d1, d2, d3, d4] => { results := [.lit (.bool true)], args := [d1, d2, d3, d4] }
  | _ => none }
def weaveDelaysRow : OpenClaim := { program := "ythoigfonjpmibaa", sum := "15707e0197e1b9cbe90a2683f22088a8925c87030852428c7e3035594d1b9548", func := "foghorn/foghornlaw17.WeaveDelays", spec := "weaveDelays", unfollowed := true, recurses := true, apart := false }
def WeaveDelaysSaid : Prop := weaveDelaysRow.holds Try.pinned (OpenSpec.ofChange weaveDelaysSpec)

/-- ITS FALSE NEIGHBOUR: 'it returns false'. Refute it at one input. -/
def weaveDelaysWrong : ChangeSpec := { name := "weaveDelays", fn := fun _ => fun
  | [d1, d2, d3, d4] => { results := [.lit (.bool false)], args := [d1, d2, d3, d4] }
  | _ => none }
def WeaveDelaysWrongFalsely : Prop := weaveDelaysRow.holds Try.pinned (OpenSpec.ofChange weaveDelaysWrong)

/-- 'foghornlaw17.WeaveBack': WHATEVER THE INPUT: true; the input reads as it did. -/
def weaveBackSpec : ChangeSpec := { name := "weaveBack", fn := fun _ => fun
  | [d1, d2, d3] => { results := [.lit (.bool true)], args := [d1, d2, d3] }
  | _ => none }
def weaveBackRow : OpenClaim := { program := "ythoigfonjpmibaa", sum := "15707e0197e1b9cbe90a2683f22088a8925c87030852428c7e3035594d1b9548", func := "foghorn/foghornlaw17.WeaveBack", spec := "weaveBack", unfollowed := true, recurses := true, apart := false }
def WeaveBackSaid : Prop := weaveBackRow.holds Try.pinned (OpenSpec.ofChange weaveBackSpec)

/-- ITS FALSE NEIGHBOUR: 'it returns false'. Refute it at one input. -/
def weaveBackWrong : ChangeSpec := { name := "weaveBack", fn := fun _ => fun
  | [d1, d2, d3] => { results := [.lit (.bool false)], args := [d1, d2, d3] }
  | _ => none }
def WeaveBackWrongFalsely : Prop := weaveBackRow.holds Try.pinned (OpenSpec.ofChange weaveBackWrong)

/-- 'foghornlaw17.WeaveSpread': WHATEVER THE INPUT: true; the input reads as it did. -/
def weaveSpreadSpec : ChangeSpec := { name := "weaveSpread", fn := fun _ => fun
  | [d1, d2, d3, d4] => { results := [.lit (.bool true)], args := [d1, d2, d3, d4] }
  | _ => none }
def weaveSpreadRow : OpenClaim := { program := "ythoigfonjpmibaa", sum := "15707e0197e1b9cbe90a2683f22088a8925c87030852428c7e3035594d1b9548", func := "foghorn/foghornlaw17.WeaveSpread", spec := "weaveSpread", unfollowed := true, recurses := true, apart := false }
def WeaveSpreadSaid : Prop := weaveSpreadRow.holds Try.pinned (OpenSpec.ofChange weaveSpreadSpec)

/-- ITS FALSE NEIGHBOUR: 'it returns false'. Refute it at one input. -/
def weaveSpreadWrong : ChangeSpec := { name := "weaveSpread", fn := fun _ => fun
  | [d1, d2, d3, d4] => { results := [.lit (.bool false)], args := [d1, d2, d3, d4] }
  | _ => none }
def WeaveSpreadWrongFalsely : Prop := weaveSpreadRow.holds Try.pinned (OpenSpec.ofChange weaveSpreadWrong)

/- THE SECOND FORM. 'bulk': how many values and letters a reading holds, each counted each time it is reached (what is shared counts as often as it is met; a slice's spare places count too). A statement '..UptoSaid' is the law's where the arguments, and the package variables that the reading takes, are together of bulk at most 1048576: NARROWER than '..Said'. Prove '..Said' where nothing that the law and all that it calls make is longer than what came in: it says more and counts as full. Else prove '..UptoSaid'. A law counts once. -/
mutual
def uptoBulk {H : Type} : DataW H → Nat
  | .lit (.string bytes) => bytes.length + 1
  | .lit _ => 1
  | .nil => 1
  | .ptr d => uptoBulk d + 1
  | .slice elems spare => uptoBulkAll elems + uptoBulkAll spare + 1
  | .agg parts => uptoBulkAll parts + 1
  | .iface _ d => uptoBulk d + 1
  | .map entries => uptoBulkEntries entries + 1
  | .held _ => 1
def uptoBulkAll {H : Type} : List (DataW H) → Nat
  | [] => 0
  | d :: r => uptoBulk d + uptoBulkAll r
def uptoBulkEntries {H : Type} : List (Lit × DataW H) → Nat
  | [] => 0
  | x :: r => uptoBulkEntry x + uptoBulkEntries r
def uptoBulkEntry {H : Type} : Lit × DataW H → Nat
  | (.string bytes, d) => bytes.length + uptoBulk d + 1
  | (_, d) => uptoBulk d + 1
 end
def uptoSmall : (H : Type) → List (DataW H) → Bool := fun _ ds => decide (uptoBulkAll ds ≤ 1048576)
def OpenSpec.upto (s : _root_.Go.ChangeSpec) : _root_.Go.OpenSpec := { _root_.Go.OpenSpec.ofChange s with cond := some uptoSmall }

/-- 'foghornlaw17.WeaveMarks', WHERE WHAT IT READS IS OF BULK AT MOST 1048576: true; the input reads as it did. -/
def weaveMarksUptoRow : OpenClaim := { program := "ythoigfonjpmibaa", sum := "15707e0197e1b9cbe90a2683f22088a8925c87030852428c7e3035594d1b9548", func := "foghorn/foghornlaw17.WeaveMarks", spec := "weaveMarks", apart := false, narrowed := true }
def WeaveMarksUptoSaid : Prop := weaveMarksUptoRow.holds Try.pinned (OpenSpec.upto weaveMarksSpec)

/-- 'foghornlaw17.WeavePlaces', WHERE WHAT IT READS IS OF BULK AT MOST 1048576: true; the input reads as it did. -/
def weavePlacesUptoRow : OpenClaim := { program := "ythoigfonjpmibaa", sum := "15707e0197e1b9cbe90a2683f22088a8925c87030852428c7e3035594d1b9548", func := "foghorn/foghornlaw17.WeavePlaces", spec := "weavePlaces", unfollowed := true, recurses := true, apart := false, narrowed := true }
def WeavePlacesUptoSaid : Prop := weavePlacesUptoRow.holds Try.pinned (OpenSpec.upto weavePlacesSpec)

/-- 'foghornlaw17.WeaveWords', WHERE WHAT IT READS IS OF BULK AT MOST 1048576: true; the input reads as it did. -/
def weaveWordsUptoRow : OpenClaim := { program := "ythoigfonjpmibaa", sum := "15707e0197e1b9cbe90a2683f22088a8925c87030852428c7e3035594d1b9548", func := "foghorn/foghornlaw17.WeaveWords", spec := "weaveWords", apart := false, narrowed := true }
def WeaveWordsUptoSaid : Prop := weaveWordsUptoRow.holds Try.pinned (OpenSpec.upto weaveWordsSpec)

/-- 'foghornlaw17.WeaveLooms', WHERE WHAT IT READS IS OF BULK AT MOST 1048576: true; the input reads as it did. -/
def weaveLoomsUptoRow : OpenClaim := { program := "ythoigfonjpmibaa", sum := "15707e0197e1b9cbe90a2683f22088a8925c87030852428c7e3035594d1b9548", func := "foghorn/foghornlaw17.WeaveLooms", spec := "weaveLooms", unfollowed := true, recurses := true, apart := false, narrowed := true }
def WeaveLoomsUptoSaid : Prop := weaveLoomsUptoRow.holds Try.pinned (OpenSpec.upto weaveLoomsSpec)

/-- 'foghornlaw17.WeaveNames', WHERE WHAT IT READS IS OF BULK AT MOST 1048576: true; the input reads as it did. -/
def weaveNamesUptoRow : OpenClaim := { program := "ythoigfonjpmibaa", sum := "15707e0197e1b9cbe90a2683f22088a8925c87030852428c7e3035594d1b9548", func := "foghorn/foghornlaw17.WeaveNames", spec := "weaveNames", unfollowed := true, recurses := true, apart := false, narrowed := true }
def WeaveNamesUptoSaid : Prop := weaveNamesUptoRow.holds Try.pinned (OpenSpec.upto weaveNamesSpec)

/-- 'foghornlaw17.WeaveApart', WHERE WHAT IT READS IS OF BULK AT MOST 1048576: true; the input reads as it did. -/
def weaveApartUptoRow : OpenClaim := { program := "ythoigfonjpmibaa", sum := "15707e0197e1b9cbe90a2683f22088a8925c87030852428c7e3035594d1b9548", func := "foghorn/foghornlaw17.WeaveApart", spec := "weaveApart", unfollowed := true, recurses := true, apart := false, narrowed := true }
def WeaveApartUptoSaid : Prop := weaveApartUptoRow.holds Try.pinned (OpenSpec.upto weaveApartSpec)

/-- 'foghornlaw17.WeaveDelays', WHERE WHAT IT READS IS OF BULK AT MOST 1048576: true; the input reads as it did. -/
def weaveDelaysUptoRow : OpenClaim := { program := "ythoigfonjpmibaa", sum := "15707e0197e1b9cbe90a2683f22088a8925c87030852428c7e3035594d1b9548", func := "foghorn/foghornlaw17.WeaveDelays", spec := "weaveDelays", unfollowed := true, recurses := true, apart := false, narrowed := true }
def WeaveDelaysUptoSaid : Prop := weaveDelaysUptoRow.holds Try.pinned (OpenSpec.upto weaveDelaysSpec)

/-- 'foghornlaw17.WeaveBack', WHERE WHAT IT READS IS OF BULK AT MOST 1048576: true; the input reads as it did. -/
def weaveBackUptoRow : OpenClaim := { program := "ythoigfonjpmibaa", sum := "15707e0197e1b9cbe90a2683f22088a8925c87030852428c7e3035594d1b9548", func := "foghorn/foghornlaw17.WeaveBack", spec := "weaveBack", unfollowed := true, recurses := true, apart := false, narrowed := true }
def WeaveBackUptoSaid : Prop := weaveBackUptoRow.holds Try.pinned (OpenSpec.upto weaveBackSpec)

/-- 'foghornlaw17.WeaveSpread', WHERE WHAT IT READS IS OF BULK AT MOST 1048576: true; the input reads as it did. -/
def weaveSpreadUptoRow : OpenClaim := { program := "ythoigfonjpmibaa", sum := "15707e0197e1b9cbe90a2683f22088a8925c87030852428c7e3035594d1b9548", func := "foghorn/foghornlaw17.WeaveSpread", spec := "weaveSpread", unfollowed := true, recurses := true, apart := false, narrowed := true }
def WeaveSpreadUptoSaid : Prop := weaveSpreadUptoRow.holds Try.pinned (OpenSpec.upto weaveSpreadSpec)

end Rows
end Go.Proofs.Ythoigfonjpmibaa
