/-
  No cell of these rows narrows 'for every input' (looked for: loops, veiled, ifaces, maps, wideKeys, modest, calm, conditions, laid).
  DERIVED. THE GIVEN ROWS OF THIS SEAT. 12 by the template 'for every input the law returns true; each argument reads behind the call as it read before'; 0 by the template 'total and deterministic' (their statements: YthpfafngjlnoaaaTotals.lean).
  GIVEN WITH THE SEED: the statements are not yours to turn. If you find one false, say at which input.
  Laid BY PROGRAM, IN A SANDBOX (cutbox-rows.mjs): the forced cells as the released guide's own fill.sh prints them over the translation 38e885c083371589… (all of the seat's roots in one cut). By AI agents, Wed Nov 11 2026. No macro, syntax, notation, axiom, sorry.
-/
import Derived.Test.YthpfafngjlnoaaaChecked
import GoSem.Claim
import GoSem.ClaimJoined
import GoSem.ClaimMapViews
import Derived.JoinedTies
import Derived.KernelRfl
namespace Go.Proofs.Ythpfafngjlnoaaa
/- THE CELL 'sum', in the pinned program and in every row, IS THE sha256 OF THE DUMP (.gsa) THAT YthpfafngjlnoaaaProg.lean LOADS. Nothing in Lean hashes anything: it is a label: what it is worth is what the hold of that sum in a sandbox is worth. -/
noncomputable def Try.pinned : Pinned := { name := "ythpfafngjlnoaaa", sum := "38e885c083371589061c633326630948646231281ad2460d4bc3bae732ee7001", checked := Try.checked }
namespace Rows
def none {H : Type} : Left H := { results := [], args := [] }

/-- 'laws.FnExactValidHull': WHATEVER THE INPUT: true; the input reads as it did. -/
def fnExactValidHullSpec : ChangeSpec := { name := "fnExactValidHull", fn := fun _ => fun
  | [d] => { results := [.lit (.bool true)], args := [d] }
  | _ => none }
def fnExactValidHullRow : OpenClaim := { program := "ythpfafngjlnoaaa", sum := "38e885c083371589061c633326630948646231281ad2460d4bc3bae732ee7001", func := "loop.example/g01400/laws.FnExactValidHull", spec := "fnExactValidHull", apart := false }
def FnExactValidHullSaid : Prop := fnExactValidHullRow.holds Try.pinned (OpenSpec.ofChange fnExactValidHullSpec)

/-- ITS FALSE NEIGHBOUR: 'it returns false'. Refute it at one input. -/
def fnExactValidHullWrong : ChangeSpec := { name := "fnExactValidHull", fn := fun _ => fun
  | [d] => { results := [.lit (.bool false)], args := [d] }
  | _ => none }
def FnExactValidHullWrongFalsely : Prop := fnExactValidHullRow.holds Try.pinned (OpenSpec.ofChange fnExactValidHullWrong)

/-- 'laws.FnExactCrossingsFor': WHATEVER THE INPUT: true; the input reads as it did. -/
def fnExactCrossingsForSpec : ChangeSpec := { name := "fnExactCrossingsFor", fn := fun _ => fun
  | [d1, d2] => { results := [.lit (.bool true)], args := [d1, d2] }
  | _ => none }
def fnExactCrossingsForRow : OpenClaim := { program := "ythpfafngjlnoaaa", sum := "38e885c083371589061c633326630948646231281ad2460d4bc3bae732ee7001", func := "loop.example/g01400/laws.FnExactCrossingsFor", spec := "fnExactCrossingsFor", apart := false }
def FnExactCrossingsForSaid : Prop := fnExactCrossingsForRow.holds Try.pinned (OpenSpec.ofChange fnExactCrossingsForSpec)

/-- ITS FALSE NEIGHBOUR: 'it returns false'. Refute it at one input. -/
def fnExactCrossingsForWrong : ChangeSpec := { name := "fnExactCrossingsFor", fn := fun _ => fun
  | [d1, d2] => { results := [.lit (.bool false)], args := [d1, d2] }
  | _ => none }
def FnExactCrossingsForWrongFalsely : Prop := fnExactCrossingsForRow.holds Try.pinned (OpenSpec.ofChange fnExactCrossingsForWrong)

/-- 'laws.FnExactMayLie': WHATEVER THE INPUT: true; the input reads as it did. -/
def fnExactMayLieSpec : ChangeSpec := { name := "fnExactMayLie", fn := fun _ => fun
  | [d1, d2] => { results := [.lit (.bool true)], args := [d1, d2] }
  | _ => none }
def fnExactMayLieRow : OpenClaim := { program := "ythpfafngjlnoaaa", sum := "38e885c083371589061c633326630948646231281ad2460d4bc3bae732ee7001", func := "loop.example/g01400/laws.FnExactMayLie", spec := "fnExactMayLie", apart := false }
def FnExactMayLieSaid : Prop := fnExactMayLieRow.holds Try.pinned (OpenSpec.ofChange fnExactMayLieSpec)

/-- ITS FALSE NEIGHBOUR: 'it returns false'. Refute it at one input. -/
def fnExactMayLieWrong : ChangeSpec := { name := "fnExactMayLie", fn := fun _ => fun
  | [d1, d2] => { results := [.lit (.bool false)], args := [d1, d2] }
  | _ => none }
def FnExactMayLieWrongFalsely : Prop := fnExactMayLieRow.holds Try.pinned (OpenSpec.ofChange fnExactMayLieWrong)

/-- 'laws.FnExactSameHulls': WHATEVER THE INPUT: true; the input reads as it did. -/
def fnExactSameHullsSpec : ChangeSpec := { name := "fnExactSameHulls", fn := fun _ => fun
  | [d1, d2] => { results := [.lit (.bool true)], args := [d1, d2] }
  | _ => none }
def fnExactSameHullsRow : OpenClaim := { program := "ythpfafngjlnoaaa", sum := "38e885c083371589061c633326630948646231281ad2460d4bc3bae732ee7001", func := "loop.example/g01400/laws.FnExactSameHulls", spec := "fnExactSameHulls", apart := false }
def FnExactSameHullsSaid : Prop := fnExactSameHullsRow.holds Try.pinned (OpenSpec.ofChange fnExactSameHullsSpec)

/-- ITS FALSE NEIGHBOUR: 'it returns false'. Refute it at one input. -/
def fnExactSameHullsWrong : ChangeSpec := { name := "fnExactSameHulls", fn := fun _ => fun
  | [d1, d2] => { results := [.lit (.bool false)], args := [d1, d2] }
  | _ => none }
def FnExactSameHullsWrongFalsely : Prop := fnExactSameHullsRow.holds Try.pinned (OpenSpec.ofChange fnExactSameHullsWrong)

/-- 'laws.FnExactValidCrew': WHATEVER THE INPUT: true; the input reads as it did. -/
def fnExactValidCrewSpec : ChangeSpec := { name := "fnExactValidCrew", fn := fun _ => fun
  | [d1, d2] => { results := [.lit (.bool true)], args := [d1, d2] }
  | _ => none }
def fnExactValidCrewRow : OpenClaim := { program := "ythpfafngjlnoaaa", sum := "38e885c083371589061c633326630948646231281ad2460d4bc3bae732ee7001", func := "loop.example/g01400/laws.FnExactValidCrew", spec := "fnExactValidCrew", apart := false }
def FnExactValidCrewSaid : Prop := fnExactValidCrewRow.holds Try.pinned (OpenSpec.ofChange fnExactValidCrewSpec)

/-- ITS FALSE NEIGHBOUR: 'it returns false'. Refute it at one input. -/
def fnExactValidCrewWrong : ChangeSpec := { name := "fnExactValidCrew", fn := fun _ => fun
  | [d1, d2] => { results := [.lit (.bool false)], args := [d1, d2] }
  | _ => none }
def FnExactValidCrewWrongFalsely : Prop := fnExactValidCrewRow.holds Try.pinned (OpenSpec.ofChange fnExactValidCrewWrong)

/-- 'laws.FnExactRaftDeep': WHATEVER THE INPUT: true; the input reads as it did. -/
def fnExactRaftDeepSpec : ChangeSpec := { name := "fnExactRaftDeep", fn := fun _ => fun
  | [d] => { results := [.lit (.bool true)], args := [d] }
  | _ => none }
def fnExactRaftDeepRow : OpenClaim := { program := "ythpfafngjlnoaaa", sum := "38e885c083371589061c633326630948646231281ad2460d4bc3bae732ee7001", func := "loop.example/g01400/laws.FnExactRaftDeep", spec := "fnExactRaftDeep", apart := false }
def FnExactRaftDeepSaid : Prop := fnExactRaftDeepRow.holds Try.pinned (OpenSpec.ofChange fnExactRaftDeepSpec)

/-- ITS FALSE NEIGHBOUR: 'it returns false'. Refute it at one input. -/
def fnExactRaftDeepWrong : ChangeSpec := { name := "fnExactRaftDeep", fn := fun _ => fun
  | [d] => { results := [.lit (.bool false)], args := [d] }
  | _ => none }
def FnExactRaftDeepWrongFalsely : Prop := fnExactRaftDeepRow.holds Try.pinned (OpenSpec.ofChange fnExactRaftDeepWrong)

/-- 'laws.FnExactTripsBound': WHATEVER THE INPUT: true; the input reads as it did. -/
def fnExactTripsBoundSpec : ChangeSpec := { name := "fnExactTripsBound", fn := fun _ => fun
  | [d1, d2] => { results := [.lit (.bool true)], args := [d1, d2] }
  | _ => none }
def fnExactTripsBoundRow : OpenClaim := { program := "ythpfafngjlnoaaa", sum := "38e885c083371589061c633326630948646231281ad2460d4bc3bae732ee7001", func := "loop.example/g01400/laws.FnExactTripsBound", spec := "fnExactTripsBound", apart := false }
def FnExactTripsBoundSaid : Prop := fnExactTripsBoundRow.holds Try.pinned (OpenSpec.ofChange fnExactTripsBoundSpec)

/-- ITS FALSE NEIGHBOUR: 'it returns false'. Refute it at one input. -/
def fnExactTripsBoundWrong : ChangeSpec := { name := "fnExactTripsBound", fn := fun _ => fun
  | [d1, d2] => { results := [.lit (.bool false)], args := [d1, d2] }
  | _ => none }
def FnExactTripsBoundWrongFalsely : Prop := fnExactTripsBoundRow.holds Try.pinned (OpenSpec.ofChange fnExactTripsBoundWrong)

/-- 'laws.FnExactIsRaft': WHATEVER THE INPUT: true; the input reads as it did. -/
def fnExactIsRaftSpec : ChangeSpec := { name := "fnExactIsRaft", fn := fun _ => fun
  | [d] => { results := [.lit (.bool true)], args := [d] }
  | _ => none }
def fnExactIsRaftRow : OpenClaim := { program := "ythpfafngjlnoaaa", sum := "38e885c083371589061c633326630948646231281ad2460d4bc3bae732ee7001", func := "loop.example/g01400/laws.FnExactIsRaft", spec := "fnExactIsRaft", apart := false }
def FnExactIsRaftSaid : Prop := fnExactIsRaftRow.holds Try.pinned (OpenSpec.ofChange fnExactIsRaftSpec)

/-- ITS FALSE NEIGHBOUR: 'it returns false'. Refute it at one input. -/
def fnExactIsRaftWrong : ChangeSpec := { name := "fnExactIsRaft", fn := fun _ => fun
  | [d] => { results := [.lit (.bool false)], args := [d] }
  | _ => none }
def FnExactIsRaftWrongFalsely : Prop := fnExactIsRaftRow.holds Try.pinned (OpenSpec.ofChange fnExactIsRaftWrong)

/-- 'laws.FnExactFirstWrong': WHATEVER THE INPUT: true; the input reads as it did. -/
def fnExactFirstWrongSpec : ChangeSpec := { name := "fnExactFirstWrong", fn := fun _ => fun
  | [d] => { results := [.lit (.bool true)], args := [d] }
  | _ => none }
def fnExactFirstWrongRow : OpenClaim := { program := "ythpfafngjlnoaaa", sum := "38e885c083371589061c633326630948646231281ad2460d4bc3bae732ee7001", func := "loop.example/g01400/laws.FnExactFirstWrong", spec := "fnExactFirstWrong", apart := false }
def FnExactFirstWrongSaid : Prop := fnExactFirstWrongRow.holds Try.pinned (OpenSpec.ofChange fnExactFirstWrongSpec)

/-- ITS FALSE NEIGHBOUR: 'it returns false'. Refute it at one input. -/
def fnExactFirstWrongWrong : ChangeSpec := { name := "fnExactFirstWrong", fn := fun _ => fun
  | [d] => { results := [.lit (.bool false)], args := [d] }
  | _ => none }
def FnExactFirstWrongWrongFalsely : Prop := fnExactFirstWrongRow.holds Try.pinned (OpenSpec.ofChange fnExactFirstWrongWrong)

/-- 'laws.FnExactLinesFor': WHATEVER THE INPUT: true; the input reads as it did. -/
def fnExactLinesForSpec : ChangeSpec := { name := "fnExactLinesFor", fn := fun _ => fun
  | [d] => { results := [.lit (.bool true)], args := [d] }
  | _ => none }
def fnExactLinesForRow : OpenClaim := { program := "ythpfafngjlnoaaa", sum := "38e885c083371589061c633326630948646231281ad2460d4bc3bae732ee7001", func := "loop.example/g01400/laws.FnExactLinesFor", spec := "fnExactLinesFor", apart := false }
def FnExactLinesForSaid : Prop := fnExactLinesForRow.holds Try.pinned (OpenSpec.ofChange fnExactLinesForSpec)

/-- ITS FALSE NEIGHBOUR: 'it returns false'. Refute it at one input. -/
def fnExactLinesForWrong : ChangeSpec := { name := "fnExactLinesFor", fn := fun _ => fun
  | [d] => { results := [.lit (.bool false)], args := [d] }
  | _ => none }
def FnExactLinesForWrongFalsely : Prop := fnExactLinesForRow.holds Try.pinned (OpenSpec.ofChange fnExactLinesForWrong)

/-- 'laws.FnExactOuterHull': WHATEVER THE INPUT: true; the input reads as it did. -/
def fnExactOuterHullSpec : ChangeSpec := { name := "fnExactOuterHull", fn := fun _ => fun
  | [d1, d2] => { results := [.lit (.bool true)], args := [d1, d2] }
  | _ => none }
def fnExactOuterHullRow : OpenClaim := { program := "ythpfafngjlnoaaa", sum := "38e885c083371589061c633326630948646231281ad2460d4bc3bae732ee7001", func := "loop.example/g01400/laws.FnExactOuterHull", spec := "fnExactOuterHull", apart := false }
def FnExactOuterHullSaid : Prop := fnExactOuterHullRow.holds Try.pinned (OpenSpec.ofChange fnExactOuterHullSpec)

/-- ITS FALSE NEIGHBOUR: 'it returns false'. Refute it at one input. -/
def fnExactOuterHullWrong : ChangeSpec := { name := "fnExactOuterHull", fn := fun _ => fun
  | [d1, d2] => { results := [.lit (.bool false)], args := [d1, d2] }
  | _ => none }
def FnExactOuterHullWrongFalsely : Prop := fnExactOuterHullRow.holds Try.pinned (OpenSpec.ofChange fnExactOuterHullWrong)

/-- 'laws.FnExactCheckTrips': WHATEVER THE INPUT: true; the input reads as it did. -/
def fnExactCheckTripsSpec : ChangeSpec := { name := "fnExactCheckTrips", fn := fun _ => fun
  | [d1, d2, d3] => { results := [.lit (.bool true)], args := [d1, d2, d3] }
  | _ => none }
def fnExactCheckTripsRow : OpenClaim := { program := "ythpfafngjlnoaaa", sum := "38e885c083371589061c633326630948646231281ad2460d4bc3bae732ee7001", func := "loop.example/g01400/laws.FnExactCheckTrips", spec := "fnExactCheckTrips", apart := false }
def FnExactCheckTripsSaid : Prop := fnExactCheckTripsRow.holds Try.pinned (OpenSpec.ofChange fnExactCheckTripsSpec)

/-- ITS FALSE NEIGHBOUR: 'it returns false'. Refute it at one input. -/
def fnExactCheckTripsWrong : ChangeSpec := { name := "fnExactCheckTrips", fn := fun _ => fun
  | [d1, d2, d3] => { results := [.lit (.bool false)], args := [d1, d2, d3] }
  | _ => none }
def FnExactCheckTripsWrongFalsely : Prop := fnExactCheckTripsRow.holds Try.pinned (OpenSpec.ofChange fnExactCheckTripsWrong)

/- THE SECOND FORM. 'bulk': how many values and letters a reading holds, each counted each time it is reached (what is shared counts as often as it is met; a slice's spare places count too). A statement '..UptoSaid' is the law's where the arguments, and the package variables that the reading takes, are together of bulk at most 1048576: NARROWER than '..Said'. Prove '..Said' where nothing that the law and all that it calls make is longer than what came in: it says more and counts as full. Else prove '..UptoSaid'. A law counts once. -/
mutual
def uptoBulk {H : Type} : DataW H → Nat
  | .lit (.string bytes) => bytes.length + 1
  | .lit _ => 1
  | .nil => 1
  | .ptr d => uptoBulk d + 1
  | .slice elems spare => uptoBulkAll elems + uptoBulkAll spare + 1
  | .agg parts => uptoBulkAll parts + 1
  | .iface _ d => uptoBulk d + 1
  | .map entries => uptoBulkEntries entries + 1
  | .held _ => 1
def uptoBulkAll {H : Type} : List (DataW H) → Nat
  | [] => 0
  | d :: r => uptoBulk d + uptoBulkAll r
def uptoBulkEntries {H : Type} : List (Lit × DataW H) → Nat
  | [] => 0
  | x :: r => uptoBulkEntry x + uptoBulkEntries r
def uptoBulkEntry {H : Type} : Lit × DataW H → Nat
  | (.string bytes, d) => bytes.length + uptoBulk d + 1
  | (_, d) => uptoBulk d + 1
 end
def uptoSmall : (H : Type) → List (DataW H) → Bool := fun _ ds => decide (uptoBulkAll ds ≤ 1048576)
def OpenSpec.upto (s : _root_.Go.ChangeSpec) : _root_.Go.OpenSpec := { _root_.Go.OpenSpec.ofChange s with cond := some uptoSmall }

/-- 'laws.FnExactValidHull', WHERE WHAT IT READS IS OF BULK AT MOST 1048576: true; the input reads as it did. -/
def fnExactValidHullUptoRow : OpenClaim := { program := "ythpfafngjlnoaaa", sum := "38e885c083371589061c633326630948646231281ad2460d4bc3bae732ee7001", func := "loop.example/g01400/laws.FnExactValidHull", spec := "fnExactValidHull", apart := false, narrowed := true }
def FnExactValidHullUptoSaid : Prop := fnExactValidHullUptoRow.holds Try.pinned (OpenSpec.upto fnExactValidHullSpec)

/-- 'laws.FnExactCrossingsFor', WHERE WHAT IT READS IS OF BULK AT MOST 1048576: true; the input reads as it did. -/
def fnExactCrossingsForUptoRow : OpenClaim := { program := "ythpfafngjlnoaaa", sum := "38e885c083371589061c633326630948646231281ad2460d4bc3bae732ee7001", func := "loop.example/g01400/laws.FnExactCrossingsFor", spec := "fnExactCrossingsFor", apart := false, narrowed := true }
def FnExactCrossingsForUptoSaid : Prop := fnExactCrossingsForUptoRow.holds Try.pinned (OpenSpec.upto fnExactCrossingsForSpec)

/-- 'laws.FnExactMayLie', WHERE WHAT IT READS IS OF BULK AT MOST 1048576: true; the input reads as it did. -/
def fnExactMayLieUptoRow : OpenClaim := { program := "ythpfafngjlnoaaa", sum := "38e885c083371589061c633326630948646231281ad2460d4bc3bae732ee7001", func := "loop.example/g01400/laws.FnExactMayLie", spec := "fnExactMayLie", apart := false, narrowed := true }
def FnExactMayLieUptoSaid : Prop := fnExactMayLieUptoRow.holds Try.pinned (OpenSpec.upto fnExactMayLieSpec)

/-- 'laws.FnExactSameHulls', WHERE WHAT IT READS IS OF BULK AT MOST 1048576: true; the input reads as it did. -/
def fnExactSameHullsUptoRow : OpenClaim := { program := "ythpfafngjlnoaaa", sum := "38e885c083371589061c633326630948646231281ad2460d4bc3bae732ee7001", func := "loop.example/g01400/laws.FnExactSameHulls", spec := "fnExactSameHulls", apart := false, narrowed := true }
def FnExactSameHullsUptoSaid : Prop := fnExactSameHullsUptoRow.holds Try.pinned (OpenSpec.upto fnExactSameHullsSpec)

/-- 'laws.FnExactValidCrew', WHERE WHAT IT READS IS OF BULK AT MOST 1048576: true; the input reads as it did. -/
def fnExactValidCrewUptoRow : OpenClaim := { program := "ythpfafngjlnoaaa", sum := "38e885c083371589061c633326630948646231281ad2460d4bc3bae732ee7001", func := "loop.example/g01400/laws.FnExactValidCrew", spec := "fnExactValidCrew", apart := false, narrowed := true }
def FnExactValidCrewUptoSaid : Prop := fnExactValidCrewUptoRow.holds Try.pinned (OpenSpec.upto fnExactValidCrewSpec)

/-- 'laws.FnExactRaftDeep', WHERE WHAT IT READS IS OF BULK AT MOST 1048576: true; the input reads as it did. -/
def fnExactRaftDeepUptoRow : OpenClaim := { program := "ythpfafngjlnoaaa", sum := "38e885c083371589061c633326630948646231281ad2460d4bc3bae732ee7001", func := "loop.example/g01400/laws.FnExactRaftDeep", spec := "fnExactRaftDeep", apart := false, narrowed := true }
def FnExactRaftDeepUptoSaid : Prop := fnExactRaftDeepUptoRow.holds Try.pinned (OpenSpec.upto fnExactRaftDeepSpec)

/-- 'laws.FnExactTripsBound', WHERE WHAT IT READS IS OF BULK AT MOST 1048576: true; the input reads as it did. -/
def fnExactTripsBoundUptoRow : OpenClaim := { program := "ythpfafngjlnoaaa", sum := "38e885c083371589061c633326630948646231281ad2460d4bc3bae732ee7001", func := "loop.example/g01400/laws.FnExactTripsBound", spec := "fnExactTripsBound", apart := false, narrowed := true }
def FnExactTripsBoundUptoSaid : Prop := fnExactTripsBoundUptoRow.holds Try.pinned (OpenSpec.upto fnExactTripsBoundSpec)

/-- 'laws.FnExactIsRaft', WHERE WHAT IT READS IS OF BULK AT MOST 1048576: true; the input reads as it did. -/
def fnExactIsRaftUptoRow : OpenClaim := { program := "ythpfafngjlnoaaa", sum := "38e885c083371589061c633326630948646231281ad2460d4bc3bae732ee7001", func := "loop.example/g01400/laws.FnExactIsRaft", spec := "fnExactIsRaft", apart := false, narrowed := true }
def FnExactIsRaftUptoSaid : Prop := fnExactIsRaftUptoRow.holds Try.pinned (OpenSpec.upto fnExactIsRaftSpec)

/-- 'laws.FnExactFirstWrong', WHERE WHAT IT READS IS OF BULK AT MOST 1048576: true; the input reads as it did. -/
def fnExactFirstWrongUptoRow : OpenClaim := { program := "ythpfafngjlnoaaa", sum := "38e885c083371589061c633326630948646231281ad2460d4bc3bae732ee7001", func := "loop.example/g01400/laws.FnExactFirstWrong", spec := "fnExactFirstWrong", apart := false, narrowed := true }
def FnExactFirstWrongUptoSaid : Prop := fnExactFirstWrongUptoRow.holds Try.pinned (OpenSpec.upto fnExactFirstWrongSpec)

/-- 'laws.FnExactLinesFor', WHERE WHAT IT READS IS OF BULK AT MOST 1048576: true; the input reads as it did. -/
def fnExactLinesForUptoRow : OpenClaim := { program := "ythpfafngjlnoaaa", sum := "38e885c083371589061c633326630948646231281ad2460d4bc3bae732ee7001", func := "loop.example/g01400/laws.FnExactLinesFor", spec := "fnExactLinesFor", apart := false, narrowed := true }
def FnExactLinesForUptoSaid : Prop := fnExactLinesForUptoRow.holds Try.pinned (OpenSpec.upto fnExactLinesForSpec)

/-- 'laws.FnExactOuterHull', WHERE WHAT IT READS IS OF BULK AT MOST 1048576: true; the input reads as it did. -/
def fnExactOuterHullUptoRow : OpenClaim := { program := "ythpfafngjlnoaaa", sum := "38e885c083371589061c633326630948646231281ad2460d4bc3bae732ee7001", func := "loop.example/g01400/laws.FnExactOuterHull", spec := "fnExactOuterHull", apart := false, narrowed := true }
def FnExactOuterHullUptoSaid : Prop := fnExactOuterHullUptoRow.holds Try.pinned (OpenSpec.upto fnExactOuterHullSpec)

/-- 'laws.FnExactCheckTrips', WHERE WHAT IT READS IS OF BULK AT MOST 1048576: true; the input reads as it did. -/
def fnExactCheckTripsUptoRow : OpenClaim := { program := "ythpfafngjlnoaaa", sum := "38e885c083371589061c633326630948646231281ad2460d4bc3bae732ee7001", func := "loop.example/g01400/laws.FnExactCheckTrips", spec := "fnExactCheckTrips", apart := false, narrowed := true }
def FnExactCheckTripsUptoSaid : Prop := fnExactCheckTripsUptoRow.holds Try.pinned (OpenSpec.upto fnExactCheckTripsSpec)

end Rows
end Go.Proofs.Ythpfafngjlnoaaa
