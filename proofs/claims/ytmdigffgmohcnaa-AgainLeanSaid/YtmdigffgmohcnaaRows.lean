/-
  No cell of these rows narrows 'for every input' (looked for: loops, veiled, ifaces, maps, wideKeys, modest, calm, conditions, laid).
  DERIVED. THE GIVEN ROWS OF THIS SEAT. 5 by the template 'for every input the law returns true; each argument reads behind the call as it read before'; 0 by the template 'total and deterministic' (their statements: YtmdigffgmohcnaaTotals.lean).
  GIVEN WITH THE SEED: the statements are not yours to turn. If you find one false, say at which input.
  Laid BY PROGRAM, IN A SANDBOX (cutbox-rows.mjs): the forced cells as the released guide's own fill.sh prints them over the translation 57c6e3fb541fb5aa… (all of the seat's roots in one cut). By AI agents, Wed Nov 11 2026. No macro, syntax, notation, axiom, sorry.
-/
import Derived.Test.YtmdigffgmohcnaaChecked
import GoSem.Claim
import GoSem.ClaimJoined
import GoSem.ClaimMapViews
import Derived.JoinedTies
import Derived.KernelRfl
namespace Go.Proofs.Ytmdigffgmohcnaa
/- THE CELL 'sum', in the pinned program and in every row, IS THE sha256 OF THE DUMP (.gsa) THAT YtmdigffgmohcnaaProg.lean LOADS. Nothing in Lean hashes anything: it is a label: what it is worth is what the hold of that sum in a sandbox is worth. -/
noncomputable def Try.pinned : Pinned := { name := "ytmdigffgmohcnaa", sum := "57c6e3fb541fb5aa7c5e2715ebf079046ee4c727c4009eb089d97a0c2120642b", checked := Try.checked }
namespace Rows
def none {H : Type} : Left H := { results := [], args := [] }

/-- 'foghornlaw28.AgainTakes': WHATEVER THE INPUT: true; the input reads as it did. -/
def againTakesSpec : ChangeSpec := { name := "againTakes", fn := fun _ => fun
  | [d1, d2] => { results := [.lit (.bool true)], args := [d1, d2] }
  | _ => none }
def againTakesRow : OpenClaim := { program := "ytmdigffgmohcnaa", sum := "57c6e3fb541fb5aa7c5e2715ebf079046ee4c727c4009eb089d97a0c2120642b", func := "foghorn/foghornlaw28.AgainTakes", spec := "againTakes", apart := false }
def AgainTakesSaid : Prop := againTakesRow.holds Try.pinned (OpenSpec.ofChange againTakesSpec)

/-- ITS FALSE NEIGHBOUR: 'it returns false'. Refute it at one input. -/
def againTakesWrong : ChangeSpec := { name := "againTakes", fn := fun _ => fun
  | [d1, d2] => { results := [.lit (.bool false)], args := [d1, d2] }
  | _ => none }
def AgainTakesWrongFalsely : Prop := againTakesRow.holds Try.pinned (OpenSpec.ofChange againTakesWrong)

/-- 'foghornlaw28.AgainSends': WHATEVER THE INPUT: true; the input reads as it did. -/
def againSendsSpec : ChangeSpec := { name := "againSends", fn := fun _ => fun
  | [d1, d2, d3] => { results := [.lit (.bool true)], args := [d1, d2, d3] }
  | _ => none }
def againSendsRow : OpenClaim := { program := "ytmdigffgmohcnaa", sum := "57c6e3fb541fb5aa7c5e2715ebf079046ee4c727c4009eb089d97a0c2120642b", func := "foghorn/foghornlaw28.AgainSends", spec := "againSends", unfollowed := true, recurses := true, apart := false }
def AgainSendsSaid : Prop := againSendsRow.holds Try.pinned (OpenSpec.ofChange againSendsSpec)

/-- ITS FALSE NEIGHBOUR: 'it returns false'. Refute it at one input. -/
def againSendsWrong : ChangeSpec := { name := "againSends", fn := fun _ => fun
  | [d1, d2, d3] => { results := [.lit (.bool false)], args := [d1, d2, d3] }
  | _ => none }
def AgainSendsWrongFalsely : Prop := againSendsRow.holds Try.pinned (OpenSpec.ofChange againSendsWrong)

/-- 'foghornlaw28.AgainNames': WHATEVER THE INPUT: true; the input reads as it did. -/
def againNamesSpec : ChangeSpec := { name := "againNames", fn := fun _ => fun
  | [] => { results := [.lit (.bool true)], args := [] }
  | _ => none }
def againNamesRow : OpenClaim := { program := "ytmdigffgmohcnaa", sum := "57c6e3fb541fb5aa7c5e2715ebf079046ee4c727c4009eb089d97a0c2120642b", func := "foghorn/foghornlaw28.AgainNames", spec := "againNames", unfollowed := true, recurses := true, apart := false }
def AgainNamesSaid : Prop := againNamesRow.holds Try.pinned (OpenSpec.ofChange againNamesSpec)

/-- ITS FALSE NEIGHBOUR: 'it returns false'. Refute it at one input. -/
def againNamesWrong : ChangeSpec := { name := "againNames", fn := fun _ => fun
  | [] => { results := [.lit (.bool false)], args := [] }
  | _ => none }
def AgainNamesWrongFalsely : Prop := againNamesRow.holds Try.pinned (OpenSpec.ofChange againNamesWrong)

/-- 'foghornlaw28.AgainOnce': WHATEVER THE INPUT: true; the input reads as it did. -/
def againOnceSpec : ChangeSpec := { name := "againOnce", fn := fun _ => fun
  | [d1, d2, d3, d4] => { results := [.lit (.bool true)], args := [d1, d2, d3, d4] }
  | _ => none }
def againOnceRow : OpenClaim := { program := "ytmdigffgmohcnaa", sum := "57c6e3fb541fb5aa7c5e2715ebf079046ee4c727c4009eb089d97a0c2120642b", func := "foghorn/foghornlaw28.AgainOnce", spec := "againOnce", unfollowed := true, recurses := true, apart := false }
def AgainOnceSaid : Prop := againOnceRow.holds Try.pinned (OpenSpec.ofChange againOnceSpec)

/-- ITS FALSE NEIGHBOUR: 'it returns false'. Refute it at one input. -/
def againOnceWrong : ChangeSpec := { name := "againOnce", fn := fun _ => fun
  | [d1, d2, d3, d4] => { results := [.lit (.bool false)], args := [d1, d2, d3, d4] }
  | _ => none }
def AgainOnceWrongFalsely : Prop := againOnceRow.holds Try.pinned (OpenSpec.ofChange againOnceWrong)

/-- 'foghornlaw28.AgainLean': WHATEVER THE INPUT: true; the input reads as it did. -/
def againLeanSpec : ChangeSpec := { name := "againLean", fn := fun _ => fun
  | [d1, d2, d3, d4] => { results := [.lit (.bool true)], args := [d1, d2, d3, d4] }
  | _ => none }
def againLeanRow : OpenClaim := { program := "ytmdigffgmohcnaa", sum := "57c6e3fb541fb5aa7c5e2715ebf079046ee4c727c4009eb089d97a0c2120642b", func := "foghorn/foghornlaw28.AgainLean", spec := "againLean", unfollowed := true, recurses := true, apart := false }
def AgainLeanSaid : Prop := againLeanRow.holds Try.pinned (OpenSpec.ofChange againLeanSpec)

/-- ITS FALSE NEIGHBOUR: 'it returns false'. Refute it at one input. -/
def againLeanWrong : ChangeSpec := { name := "againLean", fn := fun _ => fun
  | [d1, d2, d3, d4] => { results := [.lit (.bool false)], args := [d1, d2, d3, d4] }
  | _ => none }
def AgainLeanWrongFalsely : Prop := againLeanRow.holds Try.pinned (OpenSpec.ofChange againLeanWrong)

/- THE SECOND FORM. 'bulk': how many values and letters a reading holds, each counted each time it is reached (what is shared counts as often as it is met; a slice's spare places count too). A statement '..UptoSaid' is the law's where the arguments, and the package variables that the reading takes, are together of bulk at most 1048576: NARROWER than '..Said'. Prove '..Said' where nothing that the law and all that it calls make is longer than what came in: it says more and counts as full. Else prove '..UptoSaid'. A law counts once. -/
mutual
def uptoBulk {H : Type} : DataW H → Nat
  | .lit (.string bytes) => bytes.length + 1
  | .lit _ => 1
  | .nil => 1
  | .ptr d => uptoBulk d + 1
  | .slice elems spare => uptoBulkAll elems + uptoBulkAll spare + 1
  | .agg parts => uptoBulkAll parts + 1
  | .iface _ d => uptoBulk d + 1
  | .map entries => uptoBulkEntries entries + 1
  | .held _ => 1
def uptoBulkAll {H : Type} : List (DataW H) → Nat
  | [] => 0
  | d :: r => uptoBulk d + uptoBulkAll r
def uptoBulkEntries {H : Type} : List (Lit × DataW H) → Nat
  | [] => 0
  | x :: r => uptoBulkEntry x + uptoBulkEntries r
def uptoBulkEntry {H : Type} : Lit × DataW H → Nat
  | (.string bytes, d) => bytes.length + uptoBulk d + 1
  | (_, d) => uptoBulk d + 1
 end
def uptoSmall : (H : Type) → List (DataW H) → Bool := fun _ ds => decide (uptoBulkAll ds ≤ 1048576)
def OpenSpec.upto (s : _root_.Go.ChangeSpec) : _root_.Go.OpenSpec := { _root_.Go.OpenSpec.ofChange s with cond := some uptoSmall }

/-- 'foghornlaw28.AgainTakes', WHERE WHAT IT READS IS OF BULK AT MOST 1048576: true; the input reads as it did. -/
def againTakesUptoRow : OpenClaim := { program := "ytmdigffgmohcnaa", sum := "57c6e3fb541fb5aa7c5e2715ebf079046ee4c727c4009eb089d97a0c2120642b", func := "foghorn/foghornlaw28.AgainTakes", spec := "againTakes", apart := false, narrowed := true }
def AgainTakesUptoSaid : Prop := againTakesUptoRow.holds Try.pinned (OpenSpec.upto againTakesSpec)

/-- 'foghornlaw28.AgainSends', WHERE WHAT IT READS IS OF BULK AT MOST 1048576: true; the input reads as it did. -/
def againSendsUptoRow : OpenClaim := { program := "ytmdigffgmohcnaa", sum := "57c6e3fb541fb5aa7c5e2715ebf079046ee4c727c4009eb089d97a0c2120642b", func := "foghorn/foghornlaw28.AgainSends", spec := "againSends", unfollowed := true, recurses := true, apart := false, narrowed := true }
def AgainSendsUptoSaid : Prop := againSendsUptoRow.holds Try.pinned (OpenSpec.upto againSendsSpec)

/-- 'foghornlaw28.AgainNames', WHERE WHAT IT READS IS OF BULK AT MOST 1048576: true; the input reads as it did. -/
def againNamesUptoRow : OpenClaim := { program := "ytmdigffgmohcnaa", sum := "57c6e3fb541fb5aa7c5e2715ebf079046ee4c727c4009eb089d97a0c2120642b", func := "foghorn/foghornlaw28.AgainNames", spec := "againNames", unfollowed := true, recurses := true, apart := false, narrowed := true }
def AgainNamesUptoSaid : Prop := againNamesUptoRow.holds Try.pinned (OpenSpec.upto againNamesSpec)

/-- 'foghornlaw28.AgainOnce', WHERE WHAT IT READS IS OF BULK AT MOST 1048576: true; the input reads as it did. -/
def againOnceUptoRow : OpenClaim := { program := "ytmdigffgmohcnaa", sum := "57c6e3fb541fb5aa7c5e2715ebf079046ee4c727c4009eb089d97a0c2120642b", func := "foghorn/foghornlaw28.AgainOnce", spec := "againOnce", unfollowed := true, recurses := true, apart := false, narrowed := true }
def AgainOnceUptoSaid : Prop := againOnceUptoRow.holds Try.pinned (OpenSpec.upto againOnceSpec)

/-- 'foghornlaw28.AgainLean', WHERE WHAT IT READS IS OF BULK AT MOST 1048576: true; the input reads as it did. -/
def againLeanUptoRow : OpenClaim := { program := "ytmdigffgmohcnaa", sum := "57c6e3fb541fb5aa7c5e2715ebf079046ee4c727c4009eb089d97a0c2120642b", func := "foghorn/foghornlaw28.AgainLean", spec := "againLean", unfollowed := true, recurses := true, apart := false, narrowed := true }
def AgainLeanUptoSaid : Prop := againLeanUptoRow.holds Try.pinned (OpenSpec.upto againLeanSpec)

end Rows
end Go.Proofs.Ytmdigffgmohcnaa
