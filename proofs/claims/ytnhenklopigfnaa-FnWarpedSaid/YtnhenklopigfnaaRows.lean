/-
  No cell of these rows narrows 'for every input' (looked for: loops, veiled, ifaces, maps, wideKeys, modest, calm, conditions, laid).
  DERIVED. THE GIVEN ROWS OF THIS SEAT. 8 by the template 'for every input the law returns true; each argument reads behind the call as it read before'; 0 by the template 'total and deterministic' (their statements: YtnhenklopigfnaaTotals.lean).
  GIVEN WITH THE SEED: the statements are not yours to turn. If you find one false, say at which input.
  Laid BY PROGRAM, IN A SANDBOX (cutbox-rows.mjs): the forced cells as the released guide's own fill.sh prints them over the translation d5480766926da61a… (all of the seat's roots in one cut). By AI agents, Wed Nov 11 2026. No macro, syntax, notation, axiom, sorry.
-/
import Derived.Test.YtnhenklopigfnaaChecked
import GoSem.Claim
import GoSem.ClaimJoined
import GoSem.ClaimMapViews
import Derived.JoinedTies
import Derived.KernelRfl
namespace Go.Proofs.Ytnhenklopigfnaa
/- THE CELL 'sum', in the pinned program and in every row, IS THE sha256 OF THE DUMP (.gsa) THAT YtnhenklopigfnaaProg.lean LOADS. Nothing in Lean hashes anything: it is a label: what it is worth is what the hold of that sum in a sandbox is worth. -/
noncomputable def Try.pinned : Pinned := { name := "ytnhenklopigfnaa", sum := "d5480766926da61acf137abf6b0e430f2dc70a748629748511f72087baccdf93", checked := Try.checked }
namespace Rows
def none {H : Type} : Left H := { results := [], args := [] }

/-- 'laws.FnDrift': WHATEVER THE INPUT: true; the input reads as it did. -/
def fnDriftSpec : ChangeSpec := { name := "fnDrift", fn := fun _ => fun
  | [d1, d2] => { results := [.lit (.bool true)], args := [d1, d2] }
  | _ => none }
def fnDriftRow : OpenClaim := { program := "ytnhenklopigfnaa", sum := "d5480766926da61acf137abf6b0e430f2dc70a748629748511f72087baccdf93", func := "loop.example/g01375/laws.FnDrift", spec := "fnDrift", unfollowed := true, recurses := true, apart := false }
def FnDriftSaid : Prop := fnDriftRow.holds Try.pinned (OpenSpec.ofChange fnDriftSpec)

/-- ITS FALSE NEIGHBOUR: 'it returns false'. Refute it at one input. -/
def fnDriftWrong : ChangeSpec := { name := "fnDrift", fn := fun _ => fun
  | [d1, d2] => { results := [.lit (.bool false)], args := [d1, d2] }
  | _ => none }
def FnDriftWrongFalsely : Prop := fnDriftRow.holds Try.pinned (OpenSpec.ofChange fnDriftWrong)

/-- 'laws.FnExactTrendRun': WHATEVER THE INPUT: true; the input reads as it did. -/
def fnExactTrendRunSpec : ChangeSpec := { name := "fnExactTrendRun", fn := fun _ => fun
  | [d1, d2, d3] => { results := [.lit (.bool true)], args := [d1, d2, d3] }
  | _ => none }
def fnExactTrendRunRow : OpenClaim := { program := "ytnhenklopigfnaa", sum := "d5480766926da61acf137abf6b0e430f2dc70a748629748511f72087baccdf93", func := "loop.example/g01375/laws.FnExactTrendRun", spec := "fnExactTrendRun", unfollowed := true, recurses := true, apart := false }
def FnExactTrendRunSaid : Prop := fnExactTrendRunRow.holds Try.pinned (OpenSpec.ofChange fnExactTrendRunSpec)

/-- ITS FALSE NEIGHBOUR: 'it returns false'. Refute it at one input. -/
def fnExactTrendRunWrong : ChangeSpec := { name := "fnExactTrendRun", fn := fun _ => fun
  | [d1, d2, d3] => { results := [.lit (.bool false)], args := [d1, d2, d3] }
  | _ => none }
def FnExactTrendRunWrongFalsely : Prop := fnExactTrendRunRow.holds Try.pinned (OpenSpec.ofChange fnExactTrendRunWrong)

/-- 'laws.FnTrends': WHATEVER THE INPUT: true; the input reads as it did. -/
def fnTrendsSpec : ChangeSpec := { name := "fnTrends", fn := fun _ => fun
  | [d1, d2] => { results := [.lit (.bool true)], args := [d1, d2] }
  | _ => none }
def fnTrendsRow : OpenClaim := { program := "ytnhenklopigfnaa", sum := "d5480766926da61acf137abf6b0e430f2dc70a748629748511f72087baccdf93", func := "loop.example/g01375/laws.FnTrends", spec := "fnTrends", inPlace := ["math.Float64bits", "math.Float32bits"], unfollowed := true, recurses := true, apart := false }
def FnTrendsSaid : Prop := fnTrendsRow.holds Try.pinned (OpenSpec.ofChange fnTrendsSpec)

/-- ITS FALSE NEIGHBOUR: 'it returns false'. Refute it at one input. -/
def fnTrendsWrong : ChangeSpec := { name := "fnTrends", fn := fun _ => fun
  | [d1, d2] => { results := [.lit (.bool false)], args := [d1, d2] }
  | _ => none }
def FnTrendsWrongFalsely : Prop := fnTrendsRow.holds Try.pinned (OpenSpec.ofChange fnTrendsWrong)

/-- 'laws.FnExactWarpWay': WHATEVER THE INPUT: true; the input reads as it did. -/
def fnExactWarpWaySpec : ChangeSpec := { name := "fnExactWarpWay", fn := fun _ => fun
  | [d1, d2, d3] => { results := [.lit (.bool true)], args := [d1, d2, d3] }
  | _ => none }
def fnExactWarpWayRow : OpenClaim := { program := "ytnhenklopigfnaa", sum := "d5480766926da61acf137abf6b0e430f2dc70a748629748511f72087baccdf93", func := "loop.example/g01375/laws.FnExactWarpWay", spec := "fnExactWarpWay", unfollowed := true, recurses := true, apart := false }
def FnExactWarpWaySaid : Prop := fnExactWarpWayRow.holds Try.pinned (OpenSpec.ofChange fnExactWarpWaySpec)

/-- ITS FALSE NEIGHBOUR: 'it returns false'. Refute it at one input. -/
def fnExactWarpWayWrong : ChangeSpec := { name := "fnExactWarpWay", fn := fun _ => fun
  | [d1, d2, d3] => { results := [.lit (.bool false)], args := [d1, d2, d3] }
  | _ => none }
def FnExactWarpWayWrongFalsely : Prop := fnExactWarpWayRow.holds Try.pinned (OpenSpec.ofChange fnExactWarpWayWrong)

/-- 'laws.FnWarped': WHATEVER THE INPUT: true; the input reads as it did. -/
def fnWarpedSpec : ChangeSpec := { name := "fnWarped", fn := fun _ => fun
  | [d1, d2] => { results := [.lit (.bool true)], args := [d1, d2] }
  | _ => none }
def fnWarpedRow : OpenClaim := { program := "ytnhenklopigfnaa", sum := "d5480766926da61acf137abf6b0e430f2dc70a748629748511f72087baccdf93", func := "loop.example/g01375/laws.FnWarped", spec := "fnWarped", inPlace := ["math.Float32bits"], unfollowed := true, recurses := true, apart := false }
def FnWarpedSaid : Prop := fnWarpedRow.holds Try.pinned (OpenSpec.ofChange fnWarpedSpec)

/-- ITS FALSE NEIGHBOUR: 'it returns false'. Refute it at one input. -/
def fnWarpedWrong : ChangeSpec := { name := "fnWarped", fn := fun _ => fun
  | [d1, d2] => { results := [.lit (.bool false)], args := [d1, d2] }
  | _ => none }
def FnWarpedWrongFalsely : Prop := fnWarpedRow.holds Try.pinned (OpenSpec.ofChange fnWarpedWrong)

/-- 'laws.FnNearest': WHATEVER THE INPUT: true; the input reads as it did. -/
def fnNearestSpec : ChangeSpec := { name := "fnNearest", fn := fun _ => fun
  | [d1, d2] => { results := [.lit (.bool true)], args := [d1, d2] }
  | _ => none }
def fnNearestRow : OpenClaim := { program := "ytnhenklopigfnaa", sum := "d5480766926da61acf137abf6b0e430f2dc70a748629748511f72087baccdf93", func := "loop.example/g01375/laws.FnNearest", spec := "fnNearest", inPlace := ["math.sqrt", "math.Float32bits"], unfollowed := true, recurses := true, apart := false }
def FnNearestSaid : Prop := fnNearestRow.holds Try.pinned (OpenSpec.ofChange fnNearestSpec)

/-- ITS FALSE NEIGHBOUR: 'it returns false'. Refute it at one input. -/
def fnNearestWrong : ChangeSpec := { name := "fnNearest", fn := fun _ => fun
  | [d1, d2] => { results := [.lit (.bool false)], args := [d1, d2] }
  | _ => none }
def FnNearestWrongFalsely : Prop := fnNearestRow.holds Try.pinned (OpenSpec.ofChange fnNearestWrong)

/-- 'laws.FnProfiles': WHATEVER THE INPUT: true; the input reads as it did. -/
def fnProfilesSpec : ChangeSpec := { name := "fnProfiles", fn := fun _ => fun
  | [d1, d2] => { results := [.lit (.bool true)], args := [d1, d2] }
  | _ => none }
def fnProfilesRow : OpenClaim := { program := "ytnhenklopigfnaa", sum := "d5480766926da61acf137abf6b0e430f2dc70a748629748511f72087baccdf93", func := "loop.example/g01375/laws.FnProfiles", spec := "fnProfiles", inPlace := ["math.sqrt", "math.Float32bits"], unfollowed := true, recurses := true, apart := false }
def FnProfilesSaid : Prop := fnProfilesRow.holds Try.pinned (OpenSpec.ofChange fnProfilesSpec)

/-- ITS FALSE NEIGHBOUR: 'it returns false'. Refute it at one input. -/
def fnProfilesWrong : ChangeSpec := { name := "fnProfiles", fn := fun _ => fun
  | [d1, d2] => { results := [.lit (.bool false)], args := [d1, d2] }
  | _ => none }
def FnProfilesWrongFalsely : Prop := fnProfilesRow.holds Try.pinned (OpenSpec.ofChange fnProfilesWrong)

/-- 'laws.FnExactCentersOf': WHATEVER THE INPUT: true; the input reads as it did. -/
def fnExactCentersOfSpec : ChangeSpec := { name := "fnExactCentersOf", fn := fun _ => fun
  | [d1, d2, d3] => { results := [.lit (.bool true)], args := [d1, d2, d3] }
  | _ => none }
def fnExactCentersOfRow : OpenClaim := { program := "ytnhenklopigfnaa", sum := "d5480766926da61acf137abf6b0e430f2dc70a748629748511f72087baccdf93", func := "loop.example/g01375/laws.FnExactCentersOf", spec := "fnExactCentersOf", inPlace := ["math.sqrt"], unfollowed := true, recurses := true, apart := false }
def FnExactCentersOfSaid : Prop := fnExactCentersOfRow.holds Try.pinned (OpenSpec.ofChange fnExactCentersOfSpec)

/-- ITS FALSE NEIGHBOUR: 'it returns false'. Refute it at one input. -/
def fnExactCentersOfWrong : ChangeSpec := { name := "fnExactCentersOf", fn := fun _ => fun
  | [d1, d2, d3] => { results := [.lit (.bool false)], args := [d1, d2, d3] }
  | _ => none }
def FnExactCentersOfWrongFalsely : Prop := fnExactCentersOfRow.holds Try.pinned (OpenSpec.ofChange fnExactCentersOfWrong)

/- THE SECOND FORM. 'bulk': how many values and letters a reading holds, each counted each time it is reached (what is shared counts as often as it is met; a slice's spare places count too). A statement '..UptoSaid' is the law's where the arguments, and the package variables that the reading takes, are together of bulk at most 1048576: NARROWER than '..Said'. Prove '..Said' where nothing that the law and all that it calls make is longer than what came in: it says more and counts as full. Else prove '..UptoSaid'. A law counts once. -/
mutual
def uptoBulk {H : Type} : DataW H → Nat
  | .lit (.string bytes) => bytes.length + 1
  | .lit _ => 1
  | .nil => 1
  | .ptr d => uptoBulk d + 1
  | .slice elems spare => uptoBulkAll elems + uptoBulkAll spare + 1
  | .agg parts => uptoBulkAll parts + 1
  | .iface _ d => uptoBulk d + 1
  | .map entries => uptoBulkEntries entries + 1
  | .held _ => 1
def uptoBulkAll {H : Type} : List (DataW H) → Nat
  | [] => 0
  | d :: r => uptoBulk d + uptoBulkAll r
def uptoBulkEntries {H : Type} : List (Lit × DataW H) → Nat
  | [] => 0
  | x :: r => uptoBulkEntry x + uptoBulkEntries r
def uptoBulkEntry {H : Type} : Lit × DataW H → Nat
  | (.string bytes, d) => bytes.length + uptoBulk d + 1
  | (_, d) => uptoBulk d + 1
 end
def uptoSmall : (H : Type) → List (DataW H) → Bool := fun _ ds => decide (uptoBulkAll ds ≤ 1048576)
def OpenSpec.upto (s : _root_.Go.ChangeSpec) : _root_.Go.OpenSpec := { _root_.Go.OpenSpec.ofChange s with cond := some uptoSmall }

/-- 'laws.FnDrift', WHERE WHAT IT READS IS OF BULK AT MOST 1048576: true; the input reads as it did. -/
def fnDriftUptoRow : OpenClaim := { program := "ytnhenklopigfnaa", sum := "d5480766926da61acf137abf6b0e430f2dc70a748629748511f72087baccdf93", func := "loop.example/g01375/laws.FnDrift", spec := "fnDrift", unfollowed := true, recurses := true, apart := false, narrowed := true }
def FnDriftUptoSaid : Prop := fnDriftUptoRow.holds Try.pinned (OpenSpec.upto fnDriftSpec)

/-- 'laws.FnExactTrendRun', WHERE WHAT IT READS IS OF BULK AT MOST 1048576: true; the input reads as it did. -/
def fnExactTrendRunUptoRow : OpenClaim := { program := "ytnhenklopigfnaa", sum := "d5480766926da61acf137abf6b0e430f2dc70a748629748511f72087baccdf93", func := "loop.example/g01375/laws.FnExactTrendRun", spec := "fnExactTrendRun", unfollowed := true, recurses := true, apart := false, narrowed := true }
def FnExactTrendRunUptoSaid : Prop := fnExactTrendRunUptoRow.holds Try.pinned (OpenSpec.upto fnExactTrendRunSpec)

/-- 'laws.FnTrends', WHERE WHAT IT READS IS OF BULK AT MOST 1048576: true; the input reads as it did. -/
def fnTrendsUptoRow : OpenClaim := { program := "ytnhenklopigfnaa", sum := "d5480766926da61acf137abf6b0e430f2dc70a748629748511f72087baccdf93", func := "loop.example/g01375/laws.FnTrends", spec := "fnTrends", inPlace := ["math.Float64bits", "math.Float32bits"], unfollowed := true, recurses := true, apart := false, narrowed := true }
def FnTrendsUptoSaid : Prop := fnTrendsUptoRow.holds Try.pinned (OpenSpec.upto fnTrendsSpec)

/-- 'laws.FnExactWarpWay', WHERE WHAT IT READS IS OF BULK AT MOST 1048576: true; the input reads as it did. -/
def fnExactWarpWayUptoRow : OpenClaim := { program := "ytnhenklopigfnaa", sum := "d5480766926da61acf137abf6b0e430f2dc70a748629748511f72087baccdf93", func := "loop.example/g01375/laws.FnExactWarpWay", spec := "fnExactWarpWay", unfollowed := true, recurses := true, apart := false, narrowed := true }
def FnExactWarpWayUptoSaid : Prop := fnExactWarpWayUptoRow.holds Try.pinned (OpenSpec.upto fnExactWarpWaySpec)

/-- 'laws.FnWarped', WHERE WHAT IT READS IS OF BULK AT MOST 1048576: true; the input reads as it did. -/
def fnWarpedUptoRow : OpenClaim := { program := "ytnhenklopigfnaa", sum := "d5480766926da61acf137abf6b0e430f2dc70a748629748511f72087baccdf93", func := "loop.example/g01375/laws.FnWarped", spec := "fnWarped", inPlace := ["math.Float32bits"], unfollowed := true, recurses := true, apart := false, narrowed := true }
def FnWarpedUptoSaid : Prop := fnWarpedUptoRow.holds Try.pinned (OpenSpec.upto fnWarpedSpec)

/-- 'laws.FnNearest', WHERE WHAT IT READS IS OF BULK AT MOST 1048576: true; the input reads as it did. -/
def fnNearestUptoRow : OpenClaim := { program := "ytnhenklopigfnaa", sum := "d5480766926da61acf137abf6b0e430f2dc70a748629748511f72087baccdf93", func := "loop.example/g01375/laws.FnNearest", spec := "fnNearest", inPlace := ["math.sqrt", "math.Float32bits"], unfollowed := true, recurses := true, apart := false, narrowed := true }
def FnNearestUptoSaid : Prop := fnNearestUptoRow.holds Try.pinned (OpenSpec.upto fnNearestSpec)

/-- 'laws.FnProfiles', WHERE WHAT IT READS IS OF BULK AT MOST 1048576: true; the input reads as it did. -/
def fnProfilesUptoRow : OpenClaim := { program := "ytnhenklopigfnaa", sum := "d5480766926da61acf137abf6b0e430f2dc70a748629748511f72087baccdf93", func := "loop.example/g01375/laws.FnProfiles", spec := "fnProfiles", inPlace := ["math.sqrt", "math.Float32bits"], unfollowed := true, recurses := true, apart := false, narrowed := true }
def FnProfilesUptoSaid : Prop := fnProfilesUptoRow.holds Try.pinned (OpenSpec.upto fnProfilesSpec)

/-- 'laws.FnExactCentersOf', WHERE WHAT IT READS IS OF BULK AT MOST 1048576: true; the input reads as it did. -/
def fnExactCentersOfUptoRow : OpenClaim := { program := "ytnhenklopigfnaa", sum := "d5480766926da61acf137abf6b0e430f2dc70a748629748511f72087baccdf93", func := "loop.example/g01375/laws.FnExactCentersOf", spec := "fnExactCentersOf", inPlace := ["math.sqrt"], unfollowed := true, recurses := true, apart := false, narrowed := true }
def FnExactCentersOfUptoSaid : Prop := fnExactCentersOfUptoRow.holds Try.pinned (OpenSpec.upto fnExactCentersOfSpec)

end Rows
end Go.Proofs.Ytnhenklopigfnaa
