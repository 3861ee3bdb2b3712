/-
  No cell of these rows narrows 'for every input' (looked for: loops, veiled, ifaces, maps, wideKeys, modest, calm, conditions, laid).
  DERIVED. THE GIVEN ROWS OF THIS SEAT. 6 by the template 'for every input the law returns true; each argument reads behind the call as it read before'; 0 by the template 'total and deterministic' (their statements: YtfppofbdmhihpaaTotals.lean).
  GIVEN WITH THE SEED: the statements are not yours to turn. If you find one false, say at which input.
  Laid BY PROGRAM, IN A SANDBOX (cutbox-rows.mjs): the forced cells as the released guide's own fill.sh prints them over the translation d7e1e7294682bad6… (all of the seat's roots in one cut). By AI agents, Wed Nov 11 2026. No macro, syntax, notation, axiom, sorry.
-/
import Derived.Test.YtfppofbdmhihpaaChecked
import GoSem.Claim
import GoSem.ClaimJoined
import GoSem.ClaimMapViews
import Derived.JoinedTies
import Derived.KernelRfl
namespace Go.Proofs.Ytfppofbdmhihpaa
/- THE CELL 'sum', in the pinned program and in every row, IS THE sha256 OF THE DUMP (.gsa) THAT YtfppofbdmhihpaaProg.lean LOADS. Nothing in Lean hashes anything: it is a label: what it is worth is what the hold of that sum in a sandbox is worth. -/
noncomputable def Try.pinned : Pinned := { name := "ytfppofbdmhihpaa", sum := "d7e1e7294682bad6892bc8b511de3e4ba450d87b2ec7352516c827d5ae605955", checked := Try.checked }
namespace Rows
def none {H : Type} : Left H := { results := [], args := [] }

/-- 'foghornlaw08.MixShares': WHATEVER THE INPUT: true; the input reads as it did. -/
def mixSharesSpec : ChangeSpec := { name := "mixShares", fn := fun _ => fun
  | [d1, d2, d3, d4] => { results := [.lit (.bool true)], args := [d1, d2, d3, d4] }
  | _ => none }
def mixSharesRow : OpenClaim := { program := "ytfppofbdmhihpaa", sum := "d7e1e7294682bad6892bc8b511de3e4ba450d87b2ec7352516c827d5ae605955", func := "foghorn/foghornlaw08.MixShares", spec := "mixShares", inPlace := ["math.Float64frombits", "math.Float64bits"], apart := false }
def MixSharesSaid : Prop := mixSharesRow.holds Try.pinned (OpenSpec.ofChange mixSharesSpec)

/-- ITS FALSE NEIGHBOUR: 'it returns false'. Refute it at one input. -/
def mixSharesWrong : ChangeSpec := { name := "mixShares", fn := fun _ => fun
  | [d1, d2, d3, d4] => { results := [.lit (.bool false)], args := [d1, d2, d3, d4] }
  | _ => none }
def MixSharesWrongFalsely : Prop := mixSharesRow.holds Try.pinned (OpenSpec.ofChange mixSharesWrong)

/-- 'foghornlaw08.MixMoves': WHATEVER THE INPUT: true; the input reads as it did. -/
def mixMovesSpec : ChangeSpec := { name := "mixMoves", fn := fun _ => fun
  | [d1, d2, d3] => { results := [.lit (.bool true)], args := [d1, d2, d3] }
  | _ => none }
def mixMovesRow : OpenClaim := { program := "ytfppofbdmhihpaa", sum := "d7e1e7294682bad6892bc8b511de3e4ba450d87b2ec7352516c827d5ae605955", func := "foghorn/foghornlaw08.MixMoves", spec := "mixMoves", inPlace := ["math.Float64frombits", "math.Float64bits"], unfollowed := true, recurses := true, apart := false }
def MixMovesSaid : Prop := mixMovesRow.holds Try.pinned (OpenSpec.ofChange mixMovesSpec)

/-- ITS FALSE NEIGHBOUR: 'it returns false'. Refute it at one input. -/
def mixMovesWrong : ChangeSpec := { name := "mixMoves", fn := fun _ => fun
  | [d1, d2, d3] => { results := [.lit (.bool false)], args := [d1, d2, d3] }
  | _ => none }
def MixMovesWrongFalsely : Prop := mixMovesRow.holds Try.pinned (OpenSpec.ofChange mixMovesWrong)

/-- 'foghornlaw08.MixLines': WHATEVER THE INPUT: true; the input reads as it did. -/
def mixLinesSpec : ChangeSpec := { name := "mixLines", fn := fun _ => fun
  | [d1, d2] => { results := [.lit (.bool true)], args := [d1, d2] }
  | _ => none }
def mixLinesRow : OpenClaim := { program := "ytfppofbdmhihpaa", sum := "d7e1e7294682bad6892bc8b511de3e4ba450d87b2ec7352516c827d5ae605955", func := "foghorn/foghornlaw08.MixLines", spec := "mixLines", inPlace := ["math.Float64frombits", "math.Float64bits"], unfollowed := true, recurses := true, apart := false }
def MixLinesSaid : Prop := mixLinesRow.holds Try.pinned (OpenSpec.ofChange mixLinesSpec)

/-- ITS FALSE NEIGHBOUR: 'it returns false'. Refute it at one input. -/
def mixLinesWrong : ChangeSpec := { name := "mixLines", fn := fun _ => fun
  | [d1, d2] => { results := [.lit (.bool false)], args := [d1, d2] }
  | _ => none }
def MixLinesWrongFalsely : Prop := mixLinesRow.holds Try.pinned (OpenSpec.ofChange mixLinesWrong)

/-- 'foghornlaw08.MixAdds': WHATEVER THE INPUT: true; the input reads as it did. -/
def mixAddsSpec : ChangeSpec := { name := "mixAdds", fn := fun _ => fun
  | [d1, d2, d3, d4] => { results := [.lit (.bool true)], args := [d1, d2, d3, d4] }
  | _ => none }
def mixAddsRow : OpenClaim := { program := "ytfppofbdmhihpaa", sum := "d7e1e7294682bad6892bc8b511de3e4ba450d87b2ec7352516c827d5ae605955", func := "foghorn/foghornlaw08.MixAdds", spec := "mixAdds", unfollowed := true, recurses := true, apart := false }
def MixAddsSaid : Prop := mixAddsRow.holds Try.pinned (OpenSpec.ofChange mixAddsSpec)

/-- ITS FALSE NEIGHBOUR: 'it returns false'. Refute it at one input. -/
def mixAddsWrong : ChangeSpec := { name := "mixAdds", fn := fun _ => fun
  | [d1, d2, d3, d4] => { results := [.lit (.bool false)], args := [d1, d2, d3, d4] }
  | _ => none }
def MixAddsWrongFalsely : Prop := mixAddsRow.holds Try.pinned (OpenSpec.ofChange mixAddsWrong)

/-- 'foghornlaw08.MixNames': WHATEVER THE INPUT: true; the input reads as it did. -/
def mixNamesSpec : ChangeSpec := { name := "mixNames", fn := fun _ => fun
  | [] => { results := [.lit (.bool true)], args := [] }
  | _ => none }
def mixNamesRow : OpenClaim := { program := "ytfppofbdmhihpaa", sum := "d7e1e7294682bad6892bc8b511de3e4ba450d87b2ec7352516c827d5ae605955", func := "foghorn/foghornlaw08.MixNames", spec := "mixNames", unfollowed := true, recurses := true, apart := false }
def MixNamesSaid : Prop := mixNamesRow.holds Try.pinned (OpenSpec.ofChange mixNamesSpec)

/-- ITS FALSE NEIGHBOUR: 'it returns false'. Refute it at one input. -/
def mixNamesWrong : ChangeSpec := { name := "mixNames", fn := fun _ => fun
  | [] => { results := [.lit (.bool false)], args := [] }
  | _ => none }
def MixNamesWrongFalsely : Prop := mixNamesRow.holds Try.pinned (OpenSpec.ofChange mixNamesWrong)

/-- 'foghornlaw08.MixBack': WHATEVER THE INPUT: true; the input reads as it did. -/
def mixBackSpec : ChangeSpec := { name := "mixBack", fn := fun _ => fun
  | [d1, d2, d3, d4] => { results := [.lit (.bool true)], args := [d1, d2, d3, d4] }
  | _ => none }
def mixBackRow : OpenClaim := { program := "ytfppofbdmhihpaa", sum := "d7e1e7294682bad6892bc8b511de3e4ba450d87b2ec7352516c827d5ae605955", func := "foghorn/foghornlaw08.MixBack", spec := "mixBack", inPlace := ["math.Float64frombits"], unfollowed := true, recurses := true, apart := false }
def MixBackSaid : Prop := mixBackRow.holds Try.pinned (OpenSpec.ofChange mixBackSpec)

/-- ITS FALSE NEIGHBOUR: 'it returns false'. Refute it at one input. -/
def mixBackWrong : ChangeSpec := { name := "mixBack", fn := fun _ => fun
  | [d1, d2, d3, d4] => { results := [.lit (.bool false)], args := [d1, d2, d3, d4] }
  | _ => none }
def MixBackWrongFalsely : Prop := mixBackRow.holds Try.pinned (OpenSpec.ofChange mixBackWrong)

/- THE SECOND FORM. 'bulk': how many values and letters a reading holds, each counted each time it is reached (what is shared counts as often as it is met; a slice's spare places count too). A statement '..UptoSaid' is the law's where the arguments, and the package variables that the reading takes, are together of bulk at most 1048576: NARROWER than '..Said'. Prove '..Said' where nothing that the law and all that it calls make is longer than what came in: it says more and counts as full. Else prove '..UptoSaid'. A law counts once. -/
mutual
def uptoBulk {H : Type} : DataW H → Nat
  | .lit (.string bytes) => bytes.length + 1
  | .lit _ => 1
  | .nil => 1
  | .ptr d => uptoBulk d + 1
  | .slice elems spare => uptoBulkAll elems + uptoBulkAll spare + 1
  | .agg parts => uptoBulkAll parts + 1
  | .iface _ d => uptoBulk d + 1
  | .map entries => uptoBulkEntries entries + 1
  | .held _ => 1
def uptoBulkAll {H : Type} : List (DataW H) → Nat
  | [] => 0
  | d :: r => uptoBulk d + uptoBulkAll r
def uptoBulkEntries {H : Type} : List (Lit × DataW H) → Nat
  | [] => 0
  | x :: r => uptoBulkEntry x + uptoBulkEntries r
def uptoBulkEntry {H : Type} : Lit × DataW H → Nat
  | (.string bytes, d) => bytes.length + uptoBulk d + 1
  | (_, d) => uptoBulk d + 1
 end
def uptoSmall : (H : Type) → List (DataW H) → Bool := fun _ ds => decide (uptoBulkAll ds ≤ 1048576)
def OpenSpec.upto (s : _root_.Go.ChangeSpec) : _root_.Go.OpenSpec := { _root_.Go.OpenSpec.ofChange s with cond := some uptoSmall }

/-- 'foghornlaw08.MixShares', WHERE WHAT IT READS IS OF BULK AT MOST 1048576: true; the input reads as it did. -/
def mixSharesUptoRow : OpenClaim := { program := "ytfppofbdmhihpaa", sum := "d7e1e7294682bad6892bc8b511de3e4ba450d87b2ec7352516c827d5ae605955", func := "foghorn/foghornlaw08.MixShares", spec := "mixShares", inPlace := ["math.Float64frombits", "math.Float64bits"], apart := false, narrowed := true }
def MixSharesUptoSaid : Prop := mixSharesUptoRow.holds Try.pinned (OpenSpec.upto mixSharesSpec)

/-- 'foghornlaw08.MixMoves', WHERE WHAT IT READS IS OF BULK AT MOST 1048576: true; the input reads as it did. -/
def mixMovesUptoRow : OpenClaim := { program := "ytfppofbdmhihpaa", sum := "d7e1e7294682bad6892bc8b511de3e4ba450d87b2ec7352516c827d5ae605955", func := "foghorn/foghornlaw08.MixMoves", spec := "mixMoves", inPlace := ["math.Float64frombits", "math.Float64bits"], unfollowed := true, recurses := true, apart := false, narrowed := true }
def MixMovesUptoSaid : Prop := mixMovesUptoRow.holds Try.pinned (OpenSpec.upto mixMovesSpec)

/-- 'foghornlaw08.MixLines', WHERE WHAT IT READS IS OF BULK AT MOST 1048576: true; the input reads as it did. -/
def mixLinesUptoRow : OpenClaim := { program := "ytfppofbdmhihpaa", sum := "d7e1e7294682bad6892bc8b511de3e4ba450d87b2ec7352516c827d5ae605955", func := "foghorn/foghornlaw08.MixLines", spec := "mixLines", inPlace := ["math.Float64frombits", "math.Float64bits"], unfollowed := true, recurses := true, apart := false, narrowed := true }
def MixLinesUptoSaid : Prop := mixLinesUptoRow.holds Try.pinned (OpenSpec.upto mixLinesSpec)

/-- 'foghornlaw08.MixAdds', WHERE WHAT IT READS IS OF BULK AT MOST 1048576: true; the input reads as it did. -/
def mixAddsUptoRow : OpenClaim := { program := "ytfppofbdmhihpaa", sum := "d7e1e7294682bad6892bc8b511de3e4ba450d87b2ec7352516c827d5ae605955", func := "foghorn/foghornlaw08.MixAdds", spec := "mixAdds", unfollowed := true, recurses := true, apart := false, narrowed := true }
def MixAddsUptoSaid : Prop := mixAddsUptoRow.holds Try.pinned (OpenSpec.upto mixAddsSpec)

/-- 'foghornlaw08.MixNames', WHERE WHAT IT READS IS OF BULK AT MOST 1048576: true; the input reads as it did. -/
def mixNamesUptoRow : OpenClaim := { program := "ytfppofbdmhihpaa", sum := "d7e1e7294682bad6892bc8b511de3e4ba450d87b2ec7352516c827d5ae605955", func := "foghorn/foghornlaw08.MixNames", spec := "mixNames", unfollowed := true, recurses := true, apart := false, narrowed := true }
def MixNamesUptoSaid : Prop := mixNamesUptoRow.holds Try.pinned (OpenSpec.upto mixNamesSpec)

/-- 'foghornlaw08.MixBack', WHERE WHAT IT READS IS OF BULK AT MOST 1048576: true; the input reads as it did. -/
def mixBackUptoRow : OpenClaim := { program := "ytfppofbdmhihpaa", sum := "d7e1e7294682bad6892bc8b511de3e4ba450d87b2ec7352516c827d5ae605955", func := "foghorn/foghornlaw08.MixBack", spec := "mixBack", inPlace := ["math.Float64frombits"], unfollowed := true, recurses := true, apart := false, narrowed := true }
def MixBackUptoSaid : Prop := mixBackUptoRow.holds Try.pinned (OpenSpec.upto mixBackSpec)

end Rows
end Go.Proofs.Ytfppofbdmhihpaa
