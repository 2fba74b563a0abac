/-
  No cell of these rows narrows 'for every input' (looked for: loops, veiled, ifaces, maps, wideKeys, modest, calm, conditions, laid).
  DERIVED. THE GIVEN ROWS OF THIS SEAT. 9 by the template 'for every input the law returns true; each argument reads behind the call as it read before'; 0 by the template 'total and deterministic' (their statements: YtpimdgkofgendaaTotals.lean).
  GIVEN WITH THE SEED: the statements are not yours to turn. If you find one false, say at which input.
  Laid BY PROGRAM, IN A SANDBOX (cutbox-rows.mjs): the forced cells as the released guide's own fill.sh prints them over the translation a9fb39ac05e995e8… (all of the seat's roots in one cut). By AI agents, Wed Nov 11 2026. No macro, syntax, notation, axiom, sorry.
-/
import Derived.Test.YtpimdgkofgendaaChecked
import GoSem.Claim
import GoSem.ClaimJoined
import GoSem.ClaimMapViews
import Derived.JoinedTies
import Derived.KernelRfl
namespace Go.Proofs.Ytpimdgkofgendaa
/- THE CELL 'sum', in the pinned program and in every row, IS THE sha256 OF THE DUMP (.gsa) THAT YtpimdgkofgendaaProg.lean LOADS. Nothing in Lean hashes anything: it is a label: what it is worth is what the hold of that sum in a sandbox is worth. -/
noncomputable def Try.pinned : Pinned := { name := "ytpimdgkofgendaa", sum := "a9fb39ac05e995e8ad026bb1a772f0a95859c51e27d8062c04bb8fbde98409a7", checked := Try.checked }
namespace Rows
def none {H : Type} : Left H := { results := [], args := [] }

/-- 'laws.FnExactCountRafts': WHATEVER THE INPUT: true; the input reads as it did. -/
def fnExactCountRaftsSpec : ChangeSpec := { name := "fnExactCountRafts", fn := fun _ => fun
  | [d] => { results := [.lit (.bool true)], args := [d] }
  | _ => none }
def fnExactCountRaftsRow : OpenClaim := { program := "ytpimdgkofgendaa", sum := "a9fb39ac05e995e8ad026bb1a772f0a95859c51e27d8062c04bb8fbde98409a7", func := "loop.example/g01400/laws.FnExactCountRafts", spec := "fnExactCountRafts", unfollowed := true, recurses := true, apart := false }
def FnExactCountRaftsSaid : Prop := fnExactCountRaftsRow.holds Try.pinned (OpenSpec.ofChange fnExactCountRaftsSpec)

/-- ITS FALSE NEIGHBOUR: 'it returns false'. Refute it at one input. -/
def fnExactCountRaftsWrong : ChangeSpec := { name := "fnExactCountRafts", fn := fun _ => fun
  | [d] => { results := [.lit (.bool false)], args := [d] }
  | _ => none }
def FnExactCountRaftsWrongFalsely : Prop := fnExactCountRaftsRow.holds Try.pinned (OpenSpec.ofChange fnExactCountRaftsWrong)

/-- 'laws.FnExactQuayLength': WHATEVER THE INPUT: true; the input reads as it did. -/
def fnExactQuayLengthSpec : ChangeSpec := { name := "fnExactQuayLength", fn := fun _ => fun
  | [d1, d2] => { results := [.lit (.bool true)], args := [d1, d2] }
  | _ => none }
def fnExactQuayLengthRow : OpenClaim := { program := "ytpimdgkofgendaa", sum := "a9fb39ac05e995e8ad026bb1a772f0a95859c51e27d8062c04bb8fbde98409a7", func := "loop.example/g01400/laws.FnExactQuayLength", spec := "fnExactQuayLength", apart := false }
def FnExactQuayLengthSaid : Prop := fnExactQuayLengthRow.holds Try.pinned (OpenSpec.ofChange fnExactQuayLengthSpec)

/-- ITS FALSE NEIGHBOUR: 'it returns false'. Refute it at one input. -/
def fnExactQuayLengthWrong : ChangeSpec := { name := "fnExactQuayLength", fn := fun _ => fun
  | [d1, d2] => { results := [.lit (.bool false)], args := [d1, d2] }
  | _ => none }
def FnExactQuayLengthWrongFalsely : Prop := fnExactQuayLengthRow.holds Try.pinned (OpenSpec.ofChange fnExactQuayLengthWrong)

/-- 'laws.FnExactCheckRafts': WHATEVER THE INPUT: true; the input reads as it did. -/
def fnExactCheckRaftsSpec : ChangeSpec := { name := "fnExactCheckRafts", fn := fun _ => fun
  | [d1, d2, d3] => { results := [.lit (.bool true)], args := [d1, d2, d3] }
  | _ => none }
def fnExactCheckRaftsRow : OpenClaim := { program := "ytpimdgkofgendaa", sum := "a9fb39ac05e995e8ad026bb1a772f0a95859c51e27d8062c04bb8fbde98409a7", func := "loop.example/g01400/laws.FnExactCheckRafts", spec := "fnExactCheckRafts", apart := false }
def FnExactCheckRaftsSaid : Prop := fnExactCheckRaftsRow.holds Try.pinned (OpenSpec.ofChange fnExactCheckRaftsSpec)

/-- ITS FALSE NEIGHBOUR: 'it returns false'. Refute it at one input. -/
def fnExactCheckRaftsWrong : ChangeSpec := { name := "fnExactCheckRafts", fn := fun _ => fun
  | [d1, d2, d3] => { results := [.lit (.bool false)], args := [d1, d2, d3] }
  | _ => none }
def FnExactCheckRaftsWrongFalsely : Prop := fnExactCheckRaftsRow.holds Try.pinned (OpenSpec.ofChange fnExactCheckRaftsWrong)

/-- 'laws.FnExactRaftOrder': WHATEVER THE INPUT: true; the input reads as it did. -/
def fnExactRaftOrderSpec : ChangeSpec := { name := "fnExactRaftOrder", fn := fun _ => fun
  | [d] => { results := [.lit (.bool true)], args := [d] }
  | _ => none }
def fnExactRaftOrderRow : OpenClaim := { program := "ytpimdgkofgendaa", sum := "a9fb39ac05e995e8ad026bb1a772f0a95859c51e27d8062c04bb8fbde98409a7", func := "loop.example/g01400/laws.FnExactRaftOrder", spec := "fnExactRaftOrder", unfollowed := true, recurses := true, apart := false }
def FnExactRaftOrderSaid : Prop := fnExactRaftOrderRow.holds Try.pinned (OpenSpec.ofChange fnExactRaftOrderSpec)

/-- ITS FALSE NEIGHBOUR: 'it returns false'. Refute it at one input. -/
def fnExactRaftOrderWrong : ChangeSpec := { name := "fnExactRaftOrder", fn := fun _ => fun
  | [d] => { results := [.lit (.bool false)], args := [d] }
  | _ => none }
def FnExactRaftOrderWrongFalsely : Prop := fnExactRaftOrderRow.holds Try.pinned (OpenSpec.ofChange fnExactRaftOrderWrong)

/-- 'laws.FnExactFewestRafts': WHATEVER THE INPUT: true; the input reads as it did. -/
def fnExactFewestRaftsSpec : ChangeSpec := { name := "fnExactFewestRafts", fn := fun _ => fun
  | [d1, d2] => { results := [.lit (.bool true)], args := [d1, d2] }
  | _ => none }
def fnExactFewestRaftsRow : OpenClaim := { program := "ytpimdgkofgendaa", sum := "a9fb39ac05e995e8ad026bb1a772f0a95859c51e27d8062c04bb8fbde98409a7", func := "loop.example/g01400/laws.FnExactFewestRafts", spec := "fnExactFewestRafts", unfollowed := true, recurses := true, apart := false }
def FnExactFewestRaftsSaid : Prop := fnExactFewestRaftsRow.holds Try.pinned (OpenSpec.ofChange fnExactFewestRaftsSpec)

/-- ITS FALSE NEIGHBOUR: 'it returns false'. Refute it at one input. -/
def fnExactFewestRaftsWrong : ChangeSpec := { name := "fnExactFewestRafts", fn := fun _ => fun
  | [d1, d2] => { results := [.lit (.bool false)], args := [d1, d2] }
  | _ => none }
def FnExactFewestRaftsWrongFalsely : Prop := fnExactFewestRaftsRow.holds Try.pinned (OpenSpec.ofChange fnExactFewestRaftsWrong)

/-- 'laws.FnExactShortestQuay': WHATEVER THE INPUT: true; the input reads as it did. -/
def fnExactShortestQuaySpec : ChangeSpec := { name := "fnExactShortestQuay", fn := fun _ => fun
  | [d1, d2] => { results := [.lit (.bool true)], args := [d1, d2] }
  | _ => none }
def fnExactShortestQuayRow : OpenClaim := { program := "ytpimdgkofgendaa", sum := "a9fb39ac05e995e8ad026bb1a772f0a95859c51e27d8062c04bb8fbde98409a7", func := "loop.example/g01400/laws.FnExactShortestQuay", spec := "fnExactShortestQuay", unfollowed := true, recurses := true, apart := false }
def FnExactShortestQuaySaid : Prop := fnExactShortestQuayRow.holds Try.pinned (OpenSpec.ofChange fnExactShortestQuaySpec)

/-- ITS FALSE NEIGHBOUR: 'it returns false'. Refute it at one input. -/
def fnExactShortestQuayWrong : ChangeSpec := { name := "fnExactShortestQuay", fn := fun _ => fun
  | [d1, d2] => { results := [.lit (.bool false)], args := [d1, d2] }
  | _ => none }
def FnExactShortestQuayWrongFalsely : Prop := fnExactShortestQuayRow.holds Try.pinned (OpenSpec.ofChange fnExactShortestQuayWrong)

/-- 'laws.FnExactFewestTrips': WHATEVER THE INPUT: true; the input reads as it did. -/
def fnExactFewestTripsSpec : ChangeSpec := { name := "fnExactFewestTrips", fn := fun _ => fun
  | [d1, d2] => { results := [.lit (.bool true)], args := [d1, d2] }
  | _ => none }
def fnExactFewestTripsRow : OpenClaim := { program := "ytpimdgkofgendaa", sum := "a9fb39ac05e995e8ad026bb1a772f0a95859c51e27d8062c04bb8fbde98409a7", func := "loop.example/g01400/laws.FnExactFewestTrips", spec := "fnExactFewestTrips", unfollowed := true, recurses := true, apart := false }
def FnExactFewestTripsSaid : Prop := fnExactFewestTripsRow.holds Try.pinned (OpenSpec.ofChange fnExactFewestTripsSpec)

/-- ITS FALSE NEIGHBOUR: 'it returns false'. Refute it at one input. -/
def fnExactFewestTripsWrong : ChangeSpec := { name := "fnExactFewestTrips", fn := fun _ => fun
  | [d1, d2] => { results := [.lit (.bool false)], args := [d1, d2] }
  | _ => none }
def FnExactFewestTripsWrongFalsely : Prop := fnExactFewestTripsRow.holds Try.pinned (OpenSpec.ofChange fnExactFewestTripsWrong)

/-- 'laws.FnExactFirstTrips': WHATEVER THE INPUT: true; the input reads as it did. -/
def fnExactFirstTripsSpec : ChangeSpec := { name := "fnExactFirstTrips", fn := fun _ => fun
  | [d1, d2] => { results := [.lit (.bool true)], args := [d1, d2] }
  | _ => none }
def fnExactFirstTripsRow : OpenClaim := { program := "ytpimdgkofgendaa", sum := "a9fb39ac05e995e8ad026bb1a772f0a95859c51e27d8062c04bb8fbde98409a7", func := "loop.example/g01400/laws.FnExactFirstTrips", spec := "fnExactFirstTrips", unfollowed := true, recurses := true, apart := false }
def FnExactFirstTripsSaid : Prop := fnExactFirstTripsRow.holds Try.pinned (OpenSpec.ofChange fnExactFirstTripsSpec)

/-- ITS FALSE NEIGHBOUR: 'it returns false'. Refute it at one input. -/
def fnExactFirstTripsWrong : ChangeSpec := { name := "fnExactFirstTrips", fn := fun _ => fun
  | [d1, d2] => { results := [.lit (.bool false)], args := [d1, d2] }
  | _ => none }
def FnExactFirstTripsWrongFalsely : Prop := fnExactFirstTripsRow.holds Try.pinned (OpenSpec.ofChange fnExactFirstTripsWrong)

/-- 'laws.FnQuays': WHATEVER THE INPUT: true; the input reads as it did. -/
def fnQuaysSpec : ChangeSpec := { name := "fnQuays", fn := fun _ => fun
  | [d1, d2] => { results := [.lit (.bool true)], args := [d1, d2] }
  | _ => none }
def fnQuaysRow : OpenClaim := { program := "ytpimdgkofgendaa", sum := "a9fb39ac05e995e8ad026bb1a772f0a95859c51e27d8062c04bb8fbde98409a7", func := "loop.example/g01400/laws.FnQuays", spec := "fnQuays", unfollowed := true, recurses := true, apart := false }
def FnQuaysSaid : Prop := fnQuaysRow.holds Try.pinned (OpenSpec.ofChange fnQuaysSpec)

/-- ITS FALSE NEIGHBOUR: 'it returns false'. Refute it at one input. -/
def fnQuaysWrong : ChangeSpec := { name := "fnQuays", fn := fun _ => fun
  | [d1, d2] => { results := [.lit (.bool false)], args := [d1, d2] }
  | _ => none }
def FnQuaysWrongFalsely : Prop := fnQuaysRow.holds Try.pinned (OpenSpec.ofChange fnQuaysWrong)

/- THE SECOND FORM. 'bulk': how many values and letters a reading holds, each counted each time it is reached (what is shared counts as often as it is met; a slice's spare places count too). A statement '..UptoSaid' is the law's where the arguments, and the package variables that the reading takes, are together of bulk at most 1048576: NARROWER than '..Said'. Prove '..Said' where nothing that the law and all that it calls make is longer than what came in: it says more and counts as full. Else prove '..UptoSaid'. A law counts once. -/
mutual
def uptoBulk {H : Type} : DataW H → Nat
  | .lit (.string bytes) => bytes.length + 1
  | .lit _ => 1
  | .nil => 1
  | .ptr d => uptoBulk d + 1
  | .slice elems spare => uptoBulkAll elems + uptoBulkAll spare + 1
  | .agg parts => uptoBulkAll parts + 1
  | .iface _ d => uptoBulk d + 1
  | .map entries => uptoBulkEntries entries + 1
  | .held _ => 1
def uptoBulkAll {H : Type} : List (DataW H) → Nat
  | [] => 0
  | d :: r => uptoBulk d + uptoBulkAll r
def uptoBulkEntries {H : Type} : List (Lit × DataW H) → Nat
  | [] => 0
  | x :: r => uptoBulkEntry x + uptoBulkEntries r
def uptoBulkEntry {H : Type} : Lit × DataW H → Nat
  | (.string bytes, d) => bytes.length + uptoBulk d + 1
  | (_, d) => uptoBulk d + 1
 end
def uptoSmall : (H : Type) → List (DataW H) → Bool := fun _ ds => decide (uptoBulkAll ds ≤ 1048576)
def OpenSpec.upto (s : _root_.Go.ChangeSpec) : _root_.Go.OpenSpec := { _root_.Go.OpenSpec.ofChange s with cond := some uptoSmall }

/-- 'laws.FnExactCountRafts', WHERE WHAT IT READS IS OF BULK AT MOST 1048576: true; the input reads as it did. -/
def fnExactCountRaftsUptoRow : OpenClaim := { program := "ytpimdgkofgendaa", sum := "a9fb39ac05e995e8ad026bb1a772f0a95859c51e27d8062c04bb8fbde98409a7", func := "loop.example/g01400/laws.FnExactCountRafts", spec := "fnExactCountRafts", unfollowed := true, recurses := true, apart := false, narrowed := true }
def FnExactCountRaftsUptoSaid : Prop := fnExactCountRaftsUptoRow.holds Try.pinned (OpenSpec.upto fnExactCountRaftsSpec)

/-- 'laws.FnExactQuayLength', WHERE WHAT IT READS IS OF BULK AT MOST 1048576: true; the input reads as it did. -/
def fnExactQuayLengthUptoRow : OpenClaim := { program := "ytpimdgkofgendaa", sum := "a9fb39ac05e995e8ad026bb1a772f0a95859c51e27d8062c04bb8fbde98409a7", func := "loop.example/g01400/laws.FnExactQuayLength", spec := "fnExactQuayLength", apart := false, narrowed := true }
def FnExactQuayLengthUptoSaid : Prop := fnExactQuayLengthUptoRow.holds Try.pinned (OpenSpec.upto fnExactQuayLengthSpec)

/-- 'laws.FnExactCheckRafts', WHERE WHAT IT READS IS OF BULK AT MOST 1048576: true; the input reads as it did. -/
def fnExactCheckRaftsUptoRow : OpenClaim := { program := "ytpimdgkofgendaa", sum := "a9fb39ac05e995e8ad026bb1a772f0a95859c51e27d8062c04bb8fbde98409a7", func := "loop.example/g01400/laws.FnExactCheckRafts", spec := "fnExactCheckRafts", apart := false, narrowed := true }
def FnExactCheckRaftsUptoSaid : Prop := fnExactCheckRaftsUptoRow.holds Try.pinned (OpenSpec.upto fnExactCheckRaftsSpec)

/-- 'laws.FnExactRaftOrder', WHERE WHAT IT READS IS OF BULK AT MOST 1048576: true; the input reads as it did. -/
def fnExactRaftOrderUptoRow : OpenClaim := { program := "ytpimdgkofgendaa", sum := "a9fb39ac05e995e8ad026bb1a772f0a95859c51e27d8062c04bb8fbde98409a7", func := "loop.example/g01400/laws.FnExactRaftOrder", spec := "fnExactRaftOrder", unfollowed := true, recurses := true, apart := false, narrowed := true }
def FnExactRaftOrderUptoSaid : Prop := fnExactRaftOrderUptoRow.holds Try.pinned (OpenSpec.upto fnExactRaftOrderSpec)

/-- 'laws.FnExactFewestRafts', WHERE WHAT IT READS IS OF BULK AT MOST 1048576: true; the input reads as it did. -/
def fnExactFewestRaftsUptoRow : OpenClaim := { program := "ytpimdgkofgendaa", sum := "a9fb39ac05e995e8ad026bb1a772f0a95859c51e27d8062c04bb8fbde98409a7", func := "loop.example/g01400/laws.FnExactFewestRafts", spec := "fnExactFewestRafts", unfollowed := true, recurses := true, apart := false, narrowed := true }
def FnExactFewestRaftsUptoSaid : Prop := fnExactFewestRaftsUptoRow.holds Try.pinned (OpenSpec.upto fnExactFewestRaftsSpec)

/-- 'laws.FnExactShortestQuay', WHERE WHAT IT READS IS OF BULK AT MOST 1048576: true; the input reads as it did. -/
def fnExactShortestQuayUptoRow : OpenClaim := { program := "ytpimdgkofgendaa", sum := "a9fb39ac05e995e8ad026bb1a772f0a95859c51e27d8062c04bb8fbde98409a7", func := "loop.example/g01400/laws.FnExactShortestQuay", spec := "fnExactShortestQuay", unfollowed := true, recurses := true, apart := false, narrowed := true }
def FnExactShortestQuayUptoSaid : Prop := fnExactShortestQuayUptoRow.holds Try.pinned (OpenSpec.upto fnExactShortestQuaySpec)

/-- 'laws.FnExactFewestTrips', WHERE WHAT IT READS IS OF BULK AT MOST 1048576: true; the input reads as it did. -/
def fnExactFewestTripsUptoRow : OpenClaim := { program := "ytpimdgkofgendaa", sum := "a9fb39ac05e995e8ad026bb1a772f0a95859c51e27d8062c04bb8fbde98409a7", func := "loop.example/g01400/laws.FnExactFewestTrips", spec := "fnExactFewestTrips", unfollowed := true, recurses := true, apart := false, narrowed := true }
def FnExactFewestTripsUptoSaid : Prop := fnExactFewestTripsUptoRow.holds Try.pinned (OpenSpec.upto fnExactFewestTripsSpec)

/-- 'laws.FnExactFirstTrips', WHERE WHAT IT READS IS OF BULK AT MOST 1048576: true; the input reads as it did. -/
def fnExactFirstTripsUptoRow : OpenClaim := { program := "ytpimdgkofgendaa", sum := "a9fb39ac05e995e8ad026bb1a772f0a95859c51e27d8062c04bb8fbde98409a7", func := "loop.example/g01400/laws.FnExactFirstTrips", spec := "fnExactFirstTrips", unfollowed := true, recurses := true, apart := false, narrowed := true }
def FnExactFirstTripsUptoSaid : Prop := fnExactFirstTripsUptoRow.holds Try.pinned (OpenSpec.upto fnExactFirstTripsSpec)

/-- 'laws.FnQuays', WHERE WHAT IT READS IS OF BULK AT MOST 1048576: true; the input reads as it did. -/
def fnQuaysUptoRow : OpenClaim := { program := "ytpimdgkofgendaa", sum := "a9fb39ac05e995e8ad026bb1a772f0a95859c51e27d8062c04bb8fbde98409a7", func := "loop.example/g01400/laws.FnQuays", spec := "fnQuays", unfollowed := true, recurses := true, apart := false, narrowed := true }
def FnQuaysUptoSaid : Prop := fnQuaysUptoRow.holds Try.pinned (OpenSpec.upto fnQuaysSpec)

end Rows
end Go.Proofs.Ytpimdgkofgendaa
