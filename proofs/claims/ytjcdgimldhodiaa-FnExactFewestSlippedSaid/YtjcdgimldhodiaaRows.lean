/-
  No cell of these rows narrows 'for every input' (looked for: loops, veiled, ifaces, maps, wideKeys, modest, calm, conditions, laid).
  DERIVED. THE GIVEN ROWS OF THIS SEAT. 11 by the template 'for every input the law returns true; each argument reads behind the call as it read before'; 0 by the template 'total and deterministic' (their statements: YtjcdgimldhodiaaTotals.lean).
  GIVEN WITH THE SEED: the statements are not yours to turn. If you find one false, say at which input.
  Laid BY PROGRAM, IN A SANDBOX (cutbox-rows.mjs): the forced cells as the released guide's own fill.sh prints them over the translation 46c8818410d35784… (all of the seat's roots in one cut). By AI agents, Wed Nov 11 2026. No macro, syntax, notation, axiom, sorry.
-/
import Derived.Test.YtjcdgimldhodiaaChecked
import GoSem.Claim
import GoSem.ClaimJoined
import GoSem.ClaimMapViews
import Derived.JoinedTies
import Derived.KernelRfl
namespace Go.Proofs.Ytjcdgimldhodiaa
/- THE CELL 'sum', in the pinned program and in every row, IS THE sha256 OF THE DUMP (.gsa) THAT YtjcdgimldhodiaaProg.lean LOADS. Nothing in Lean hashes anything: it is a label: what it is worth is what the hold of that sum in a sandbox is worth. -/
noncomputable def Try.pinned : Pinned := { name := "ytjcdgimldhodiaa", sum := "46c8818410d357845b561958cad6761d28688fc34d748e8c0abaec5ad59f6731", checked := Try.checked }
namespace Rows
def none {H : Type} : Left H := { results := [], args := [] }

/-- 'laws.FnExactCoveredBy': WHATEVER THE INPUT: true; the input reads as it did. -/
def fnExactCoveredBySpec : ChangeSpec := { name := "fnExactCoveredBy", fn := fun _ => fun
  | [d1, d2, d3] => { results := [.lit (.bool true)], args := [d1, d2, d3] }
  | _ => none }
def fnExactCoveredByRow : OpenClaim := { program := "ytjcdgimldhodiaa", sum := "46c8818410d357845b561958cad6761d28688fc34d748e8c0abaec5ad59f6731", func := "loop.example/g01400/laws.FnExactCoveredBy", spec := "fnExactCoveredBy", recurses := true, apart := false }
def FnExactCoveredBySaid : Prop := fnExactCoveredByRow.holds Try.pinned (OpenSpec.ofChange fnExactCoveredBySpec)

/-- ITS FALSE NEIGHBOUR: 'it returns false'. Refute it at one input. -/
def fnExactCoveredByWrong : ChangeSpec := { name := "fnExactCoveredBy", fn := fun _ => fun
  | [d1, d2, d3] => { results := [.lit (.bool false)], args := [d1, d2, d3] }
  | _ => none }
def FnExactCoveredByWrongFalsely : Prop := fnExactCoveredByRow.holds Try.pinned (OpenSpec.ofChange fnExactCoveredByWrong)

/-- 'laws.FnExactMovesFor': WHATEVER THE INPUT: true; the input reads as it did. -/
def fnExactMovesForSpec : ChangeSpec := { name := "fnExactMovesFor", fn := fun _ => fun
  | [d1, d2] => { results := [.lit (.bool true)], args := [d1, d2] }
  | _ => none }
def fnExactMovesForRow : OpenClaim := { program := "ytjcdgimldhodiaa", sum := "46c8818410d357845b561958cad6761d28688fc34d748e8c0abaec5ad59f6731", func := "loop.example/g01400/laws.FnExactMovesFor", spec := "fnExactMovesFor", recurses := true, apart := false }
def FnExactMovesForSaid : Prop := fnExactMovesForRow.holds Try.pinned (OpenSpec.ofChange fnExactMovesForSpec)

/-- ITS FALSE NEIGHBOUR: 'it returns false'. Refute it at one input. -/
def fnExactMovesForWrong : ChangeSpec := { name := "fnExactMovesFor", fn := fun _ => fun
  | [d1, d2] => { results := [.lit (.bool false)], args := [d1, d2] }
  | _ => none }
def FnExactMovesForWrongFalsely : Prop := fnExactMovesForRow.holds Try.pinned (OpenSpec.ofChange fnExactMovesForWrong)

/-- 'laws.FnExactFreeChains': WHATEVER THE INPUT: true; the input reads as it did. -/
def fnExactFreeChainsSpec : ChangeSpec := { name := "fnExactFreeChains", fn := fun _ => fun
  | [d1, d2] => { results := [.lit (.bool true)], args := [d1, d2] }
  | _ => none }
def fnExactFreeChainsRow : OpenClaim := { program := "ytjcdgimldhodiaa", sum := "46c8818410d357845b561958cad6761d28688fc34d748e8c0abaec5ad59f6731", func := "loop.example/g01400/laws.FnExactFreeChains", spec := "fnExactFreeChains", unfollowed := true, recurses := true, apart := false }
def FnExactFreeChainsSaid : Prop := fnExactFreeChainsRow.holds Try.pinned (OpenSpec.ofChange fnExactFreeChainsSpec)

/-- ITS FALSE NEIGHBOUR: 'it returns false'. Refute it at one input. -/
def fnExactFreeChainsWrong : ChangeSpec := { name := "fnExactFreeChains", fn := fun _ => fun
  | [d1, d2] => { results := [.lit (.bool false)], args := [d1, d2] }
  | _ => none }
def FnExactFreeChainsWrongFalsely : Prop := fnExactFreeChainsRow.holds Try.pinned (OpenSpec.ofChange fnExactFreeChainsWrong)

/-- 'laws.FnExactCanLeave': WHATEVER THE INPUT: true; the input reads as it did. -/
def fnExactCanLeaveSpec : ChangeSpec := { name := "fnExactCanLeave", fn := fun _ => fun
  | [d1, d2, d3] => { results := [.lit (.bool true)], args := [d1, d2, d3] }
  | _ => none }
def fnExactCanLeaveRow : OpenClaim := { program := "ytjcdgimldhodiaa", sum := "46c8818410d357845b561958cad6761d28688fc34d748e8c0abaec5ad59f6731", func := "loop.example/g01400/laws.FnExactCanLeave", spec := "fnExactCanLeave", unfollowed := true, recurses := true, apart := false }
def FnExactCanLeaveSaid : Prop := fnExactCanLeaveRow.holds Try.pinned (OpenSpec.ofChange fnExactCanLeaveSpec)

/-- ITS FALSE NEIGHBOUR: 'it returns false'. Refute it at one input. -/
def fnExactCanLeaveWrong : ChangeSpec := { name := "fnExactCanLeave", fn := fun _ => fun
  | [d1, d2, d3] => { results := [.lit (.bool false)], args := [d1, d2, d3] }
  | _ => none }
def FnExactCanLeaveWrongFalsely : Prop := fnExactCanLeaveRow.holds Try.pinned (OpenSpec.ofChange fnExactCanLeaveWrong)

/-- 'laws.FnExactFirstOrder': WHATEVER THE INPUT: true; the input reads as it did. -/
def fnExactFirstOrderSpec : ChangeSpec := { name := "fnExactFirstOrder", fn := fun _ => fun
  | [d1, d2] => { results := [.lit (.bool true)], args := [d1, d2] }
  | _ => none }
def fnExactFirstOrderRow : OpenClaim := { program := "ytjcdgimldhodiaa", sum := "46c8818410d357845b561958cad6761d28688fc34d748e8c0abaec5ad59f6731", func := "loop.example/g01400/laws.FnExactFirstOrder", spec := "fnExactFirstOrder", unfollowed := true, recurses := true, apart := false }
def FnExactFirstOrderSaid : Prop := fnExactFirstOrderRow.holds Try.pinned (OpenSpec.ofChange fnExactFirstOrderSpec)

/-- ITS FALSE NEIGHBOUR: 'it returns false'. Refute it at one input. -/
def fnExactFirstOrderWrong : ChangeSpec := { name := "fnExactFirstOrder", fn := fun _ => fun
  | [d1, d2] => { results := [.lit (.bool false)], args := [d1, d2] }
  | _ => none }
def FnExactFirstOrderWrongFalsely : Prop := fnExactFirstOrderRow.holds Try.pinned (OpenSpec.ofChange fnExactFirstOrderWrong)

/-- 'laws.FnExactLockedChains': WHATEVER THE INPUT: true; the input reads as it did. -/
def fnExactLockedChainsSpec : ChangeSpec := { name := "fnExactLockedChains", fn := fun _ => fun
  | [d1, d2] => { results := [.lit (.bool true)], args := [d1, d2] }
  | _ => none }
def fnExactLockedChainsRow : OpenClaim := { program := "ytjcdgimldhodiaa", sum := "46c8818410d357845b561958cad6761d28688fc34d748e8c0abaec5ad59f6731", func := "loop.example/g01400/laws.FnExactLockedChains", spec := "fnExactLockedChains", unfollowed := true, recurses := true, apart := false }
def FnExactLockedChainsSaid : Prop := fnExactLockedChainsRow.holds Try.pinned (OpenSpec.ofChange fnExactLockedChainsSpec)

/-- ITS FALSE NEIGHBOUR: 'it returns false'. Refute it at one input. -/
def fnExactLockedChainsWrong : ChangeSpec := { name := "fnExactLockedChains", fn := fun _ => fun
  | [d1, d2] => { results := [.lit (.bool false)], args := [d1, d2] }
  | _ => none }
def FnExactLockedChainsWrongFalsely : Prop := fnExactLockedChainsRow.holds Try.pinned (OpenSpec.ofChange fnExactLockedChainsWrong)

/-- 'laws.FnExactEarliestLeave': WHATEVER THE INPUT: true; the input reads as it did. -/
def fnExactEarliestLeaveSpec : ChangeSpec := { name := "fnExactEarliestLeave", fn := fun _ => fun
  | [d1, d2, d3] => { results := [.lit (.bool true)], args := [d1, d2, d3] }
  | _ => none }
def fnExactEarliestLeaveRow : OpenClaim := { program := "ytjcdgimldhodiaa", sum := "46c8818410d357845b561958cad6761d28688fc34d748e8c0abaec5ad59f6731", func := "loop.example/g01400/laws.FnExactEarliestLeave", spec := "fnExactEarliestLeave", unfollowed := true, recurses := true, apart := false }
def FnExactEarliestLeaveSaid : Prop := fnExactEarliestLeaveRow.holds Try.pinned (OpenSpec.ofChange fnExactEarliestLeaveSpec)

/-- ITS FALSE NEIGHBOUR: 'it returns false'. Refute it at one input. -/
def fnExactEarliestLeaveWrong : ChangeSpec := { name := "fnExactEarliestLeave", fn := fun _ => fun
  | [d1, d2, d3] => { results := [.lit (.bool false)], args := [d1, d2, d3] }
  | _ => none }
def FnExactEarliestLeaveWrongFalsely : Prop := fnExactEarliestLeaveRow.holds Try.pinned (OpenSpec.ofChange fnExactEarliestLeaveWrong)

/-- 'laws.FnExactLeaveRounds': WHATEVER THE INPUT: true; the input reads as it did. -/
def fnExactLeaveRoundsSpec : ChangeSpec := { name := "fnExactLeaveRounds", fn := fun _ => fun
  | [d1, d2] => { results := [.lit (.bool true)], args := [d1, d2] }
  | _ => none }
def fnExactLeaveRoundsRow : OpenClaim := { program := "ytjcdgimldhodiaa", sum := "46c8818410d357845b561958cad6761d28688fc34d748e8c0abaec5ad59f6731", func := "loop.example/g01400/laws.FnExactLeaveRounds", spec := "fnExactLeaveRounds", unfollowed := true, recurses := true, apart := false }
def FnExactLeaveRoundsSaid : Prop := fnExactLeaveRoundsRow.holds Try.pinned (OpenSpec.ofChange fnExactLeaveRoundsSpec)

/-- ITS FALSE NEIGHBOUR: 'it returns false'. Refute it at one input. -/
def fnExactLeaveRoundsWrong : ChangeSpec := { name := "fnExactLeaveRounds", fn := fun _ => fun
  | [d1, d2] => { results := [.lit (.bool false)], args := [d1, d2] }
  | _ => none }
def FnExactLeaveRoundsWrongFalsely : Prop := fnExactLeaveRoundsRow.holds Try.pinned (OpenSpec.ofChange fnExactLeaveRoundsWrong)

/-- 'laws.FnExactGreedySlipped': WHATEVER THE INPUT: true; the input reads as it did. -/
def fnExactGreedySlippedSpec : ChangeSpec := { name := "fnExactGreedySlipped", fn := fun _ => fun
  | [d1, d2] => { results := [.lit (.bool true)], args := [d1, d2] }
  | _ => none }
def fnExactGreedySlippedRow : OpenClaim := { program := "ytjcdgimldhodiaa", sum := "46c8818410d357845b561958cad6761d28688fc34d748e8c0abaec5ad59f6731", func := "loop.example/g01400/laws.FnExactGreedySlipped", spec := "fnExactGreedySlipped", unfollowed := true, recurses := true, apart := false }
def FnExactGreedySlippedSaid : Prop := fnExactGreedySlippedRow.holds Try.pinned (OpenSpec.ofChange fnExactGreedySlippedSpec)

/-- ITS FALSE NEIGHBOUR: 'it returns false'. Refute it at one input. -/
def fnExactGreedySlippedWrong : ChangeSpec := { name := "fnExactGreedySlipped", fn := fun _ => fun
  | [d1, d2] => { results := [.lit (.bool false)], args := [d1, d2] }
  | _ => none }
def FnExactGreedySlippedWrongFalsely : Prop := fnExactGreedySlippedRow.holds Try.pinned (OpenSpec.ofChange fnExactGreedySlippedWrong)

/-- 'laws.FnExactLeastMoves': WHATEVER THE INPUT: true; the input reads as it did. -/
def fnExactLeastMovesSpec : ChangeSpec := { name := "fnExactLeastMoves", fn := fun _ => fun
  | [d1, d2] => { results := [.lit (.bool true)], args := [d1, d2] }
  | _ => none }
def fnExactLeastMovesRow : OpenClaim := { program := "ytjcdgimldhodiaa", sum := "46c8818410d357845b561958cad6761d28688fc34d748e8c0abaec5ad59f6731", func := "loop.example/g01400/laws.FnExactLeastMoves", spec := "fnExactLeastMoves", unfollowed := true, recurses := true, apart := false }
def FnExactLeastMovesSaid : Prop := fnExactLeastMovesRow.holds Try.pinned (OpenSpec.ofChange fnExactLeastMovesSpec)

/-- ITS FALSE NEIGHBOUR: 'it returns false'. Refute it at one input. -/
def fnExactLeastMovesWrong : ChangeSpec := { name := "fnExactLeastMoves", fn := fun _ => fun
  | [d1, d2] => { results := [.lit (.bool false)], args := [d1, d2] }
  | _ => none }
def FnExactLeastMovesWrongFalsely : Prop := fnExactLeastMovesRow.holds Try.pinned (OpenSpec.ofChange fnExactLeastMovesWrong)

/-- 'laws.FnExactFewestSlipped': WHATEVER THE INPUT: true; the input reads as it did. -/
def fnExactFewestSlippedSpec : ChangeSpec := { name := "fnExactFewestSlipped", fn := fun _ => fun
  | [d1, d2] => { results := [.lit (.bool true)], args := [d1, d2] }
  | _ => none }
def fnExactFewestSlippedRow : OpenClaim := { program := "ytjcdgimldhodiaa", sum := "46c8818410d357845b561958cad6761d28688fc34d748e8c0abaec5ad59f6731", func := "loop.example/g01400/laws.FnExactFewestSlipped", spec := "fnExactFewestSlipped", unfollowed := true, recurses := true, apart := false }
def FnExactFewestSlippedSaid : Prop := fnExactFewestSlippedRow.holds Try.pinned (OpenSpec.ofChange fnExactFewestSlippedSpec)

/-- ITS FALSE NEIGHBOUR: 'it returns false'. Refute it at one input. -/
def fnExactFewestSlippedWrong : ChangeSpec := { name := "fnExactFewestSlipped", fn := fun _ => fun
  | [d1, d2] => { results := [.lit (.bool false)], args := [d1, d2] }
  | _ => none }
def FnExactFewestSlippedWrongFalsely : Prop := fnExactFewestSlippedRow.holds Try.pinned (OpenSpec.ofChange fnExactFewestSlippedWrong)

/- THE SECOND FORM. 'bulk': how many values and letters a reading holds, each counted each time it is reached (what is shared counts as often as it is met; a slice's spare places count too). A statement '..UptoSaid' is the law's where the arguments, and the package variables that the reading takes, are together of bulk at most 1048576: NARROWER than '..Said'. Prove '..Said' where nothing that the law and all that it calls make is longer than what came in: it says more and counts as full. Else prove '..UptoSaid'. A law counts once. -/
mutual
def uptoBulk {H : Type} : DataW H → Nat
  | .lit (.string bytes) => bytes.length + 1
  | .lit _ => 1
  | .nil => 1
  | .ptr d => uptoBulk d + 1
  | .slice elems spare => uptoBulkAll elems + uptoBulkAll spare + 1
  | .agg parts => uptoBulkAll parts + 1
  | .iface _ d => uptoBulk d + 1
  | .map entries => uptoBulkEntries entries + 1
  | .held _ => 1
def uptoBulkAll {H : Type} : List (DataW H) → Nat
  | [] => 0
  | d :: r => uptoBulk d + uptoBulkAll r
def uptoBulkEntries {H : Type} : List (Lit × DataW H) → Nat
  | [] => 0
  | x :: r => uptoBulkEntry x + uptoBulkEntries r
def uptoBulkEntry {H : Type} : Lit × DataW H → Nat
  | (.string bytes, d) => bytes.length + uptoBulk d + 1
  | (_, d) => uptoBulk d + 1
 end
def uptoSmall : (H : Type) → List (DataW H) → Bool := fun _ ds => decide (uptoBulkAll ds ≤ 1048576)
def OpenSpec.upto (s : _root_.Go.ChangeSpec) : _root_.Go.OpenSpec := { _root_.Go.OpenSpec.ofChange s with cond := some uptoSmall }

/-- 'laws.FnExactCoveredBy', WHERE WHAT IT READS IS OF BULK AT MOST 1048576: true; the input reads as it did. -/
def fnExactCoveredByUptoRow : OpenClaim := { program := "ytjcdgimldhodiaa", sum := "46c8818410d357845b561958cad6761d28688fc34d748e8c0abaec5ad59f6731", func := "loop.example/g01400/laws.FnExactCoveredBy", spec := "fnExactCoveredBy", recurses := true, apart := false, narrowed := true }
def FnExactCoveredByUptoSaid : Prop := fnExactCoveredByUptoRow.holds Try.pinned (OpenSpec.upto fnExactCoveredBySpec)

/-- 'laws.FnExactMovesFor', WHERE WHAT IT READS IS OF BULK AT MOST 1048576: true; the input reads as it did. -/
def fnExactMovesForUptoRow : OpenClaim := { program := "ytjcdgimldhodiaa", sum := "46c8818410d357845b561958cad6761d28688fc34d748e8c0abaec5ad59f6731", func := "loop.example/g01400/laws.FnExactMovesFor", spec := "fnExactMovesFor", recurses := true, apart := false, narrowed := true }
def FnExactMovesForUptoSaid : Prop := fnExactMovesForUptoRow.holds Try.pinned (OpenSpec.upto fnExactMovesForSpec)

/-- 'laws.FnExactFreeChains', WHERE WHAT IT READS IS OF BULK AT MOST 1048576: true; the input reads as it did. -/
def fnExactFreeChainsUptoRow : OpenClaim := { program := "ytjcdgimldhodiaa", sum := "46c8818410d357845b561958cad6761d28688fc34d748e8c0abaec5ad59f6731", func := "loop.example/g01400/laws.FnExactFreeChains", spec := "fnExactFreeChains", unfollowed := true, recurses := true, apart := false, narrowed := true }
def FnExactFreeChainsUptoSaid : Prop := fnExactFreeChainsUptoRow.holds Try.pinned (OpenSpec.upto fnExactFreeChainsSpec)

/-- 'laws.FnExactCanLeave', WHERE WHAT IT READS IS OF BULK AT MOST 1048576: true; the input reads as it did. -/
def fnExactCanLeaveUptoRow : OpenClaim := { program := "ytjcdgimldhodiaa", sum := "46c8818410d357845b561958cad6761d28688fc34d748e8c0abaec5ad59f6731", func := "loop.example/g01400/laws.FnExactCanLeave", spec := "fnExactCanLeave", unfollowed := true, recurses := true, apart := false, narrowed := true }
def FnExactCanLeaveUptoSaid : Prop := fnExactCanLeaveUptoRow.holds Try.pinned (OpenSpec.upto fnExactCanLeaveSpec)

/-- 'laws.FnExactFirstOrder', WHERE WHAT IT READS IS OF BULK AT MOST 1048576: true; the input reads as it did. -/
def fnExactFirstOrderUptoRow : OpenClaim := { program := "ytjcdgimldhodiaa", sum := "46c8818410d357845b561958cad6761d28688fc34d748e8c0abaec5ad59f6731", func := "loop.example/g01400/laws.FnExactFirstOrder", spec := "fnExactFirstOrder", unfollowed := true, recurses := true, apart := false, narrowed := true }
def FnExactFirstOrderUptoSaid : Prop := fnExactFirstOrderUptoRow.holds Try.pinned (OpenSpec.upto fnExactFirstOrderSpec)

/-- 'laws.FnExactLockedChains', WHERE WHAT IT READS IS OF BULK AT MOST 1048576: true; the input reads as it did. -/
def fnExactLockedChainsUptoRow : OpenClaim := { program := "ytjcdgimldhodiaa", sum := "46c8818410d357845b561958cad6761d28688fc34d748e8c0abaec5ad59f6731", func := "loop.example/g01400/laws.FnExactLockedChains", spec := "fnExactLockedChains", unfollowed := true, recurses := true, apart := false, narrowed := true }
def FnExactLockedChainsUptoSaid : Prop := fnExactLockedChainsUptoRow.holds Try.pinned (OpenSpec.upto fnExactLockedChainsSpec)

/-- 'laws.FnExactEarliestLeave', WHERE WHAT IT READS IS OF BULK AT MOST 1048576: true; the input reads as it did. -/
def fnExactEarliestLeaveUptoRow : OpenClaim := { program := "ytjcdgimldhodiaa", sum := "46c8818410d357845b561958cad6761d28688fc34d748e8c0abaec5ad59f6731", func := "loop.example/g01400/laws.FnExactEarliestLeave", spec := "fnExactEarliestLeave", unfollowed := true, recurses := true, apart := false, narrowed := true }
def FnExactEarliestLeaveUptoSaid : Prop := fnExactEarliestLeaveUptoRow.holds Try.pinned (OpenSpec.upto fnExactEarliestLeaveSpec)

/-- 'laws.FnExactLeaveRounds', WHERE WHAT IT READS IS OF BULK AT MOST 1048576: true; the input reads as it did. -/
def fnExactLeaveRoundsUptoRow : OpenClaim := { program := "ytjcdgimldhodiaa", sum := "46c8818410d357845b561958cad6761d28688fc34d748e8c0abaec5ad59f6731", func := "loop.example/g01400/laws.FnExactLeaveRounds", spec := "fnExactLeaveRounds", unfollowed := true, recurses := true, apart := false, narrowed := true }
def FnExactLeaveRoundsUptoSaid : Prop := fnExactLeaveRoundsUptoRow.holds Try.pinned (OpenSpec.upto fnExactLeaveRoundsSpec)

/-- 'laws.FnExactGreedySlipped', WHERE WHAT IT READS IS OF BULK AT MOST 1048576: true; the input reads as it did. -/
def fnExactGreedySlippedUptoRow : OpenClaim := { program := "ytjcdgimldhodiaa", sum := "46c8818410d357845b561958cad6761d28688fc34d748e8c0abaec5ad59f6731", func := "loop.example/g01400/laws.FnExactGreedySlipped", spec := "fnExactGreedySlipped", unfollowed := true, recurses := true, apart := false, narrowed := true }
def FnExactGreedySlippedUptoSaid : Prop := fnExactGreedySlippedUptoRow.holds Try.pinned (OpenSpec.upto fnExactGreedySlippedSpec)

/-- 'laws.FnExactLeastMoves', WHERE WHAT IT READS IS OF BULK AT MOST 1048576: true; the input reads as it did. -/
def fnExactLeastMovesUptoRow : OpenClaim := { program := "ytjcdgimldhodiaa", sum := "46c8818410d357845b561958cad6761d28688fc34d748e8c0abaec5ad59f6731", func := "loop.example/g01400/laws.FnExactLeastMoves", spec := "fnExactLeastMoves", unfollowed := true, recurses := true, apart := false, narrowed := true }
def FnExactLeastMovesUptoSaid : Prop := fnExactLeastMovesUptoRow.holds Try.pinned (OpenSpec.upto fnExactLeastMovesSpec)

/-- 'laws.FnExactFewestSlipped', WHERE WHAT IT READS IS OF BULK AT MOST 1048576: true; the input reads as it did. -/
def fnExactFewestSlippedUptoRow : OpenClaim := { program := "ytjcdgimldhodiaa", sum := "46c8818410d357845b561958cad6761d28688fc34d748e8c0abaec5ad59f6731", func := "loop.example/g01400/laws.FnExactFewestSlipped", spec := "fnExactFewestSlipped", unfollowed := true, recurses := true, apart := false, narrowed := true }
def FnExactFewestSlippedUptoSaid : Prop := fnExactFewestSlippedUptoRow.holds Try.pinned (OpenSpec.upto fnExactFewestSlippedSpec)

end Rows
end Go.Proofs.Ytjcdgimldhodiaa
