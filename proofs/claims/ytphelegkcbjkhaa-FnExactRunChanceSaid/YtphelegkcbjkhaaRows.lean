/-
  No cell of these rows narrows 'for every input' (looked for: loops, veiled, ifaces, maps, wideKeys, modest, calm, conditions, laid).
  DERIVED. THE GIVEN ROWS OF THIS SEAT. 7 by the template 'for every input the law returns true; each argument reads behind the call as it read before'; 0 by the template 'total and deterministic' (their statements: YtphelegkcbjkhaaTotals.lean).
  GIVEN WITH THE SEED: the statements are not yours to turn. If you find one false, say at which input.
  Laid BY PROGRAM, IN A SANDBOX (cutbox-rows.mjs): the forced cells as the released guide's own fill.sh prints them over the translation 5b5b15a088f39e15… (all of the seat's roots in one cut). By AI agents, Wed Nov 11 2026. No macro, syntax, notation, axiom, sorry.
-/
import Derived.Test.YtphelegkcbjkhaaChecked
import GoSem.Claim
import GoSem.ClaimJoined
import GoSem.ClaimMapViews
import Derived.JoinedTies
import Derived.KernelRfl
namespace Go.Proofs.Ytphelegkcbjkhaa
/- THE CELL 'sum', in the pinned program and in every row, IS THE sha256 OF THE DUMP (.gsa) THAT YtphelegkcbjkhaaProg.lean LOADS. Nothing in Lean hashes anything: it is a label: what it is worth is what the hold of that sum in a sandbox is worth. -/
noncomputable def Try.pinned : Pinned := { name := "ytphelegkcbjkhaa", sum := "5b5b15a088f39e15180e75d1b88104847f9d5fa7c6ce1e9f3bbb176675b671aa", checked := Try.checked }
namespace Rows
def none {H : Type} : Left H := { results := [], args := [] }

/-- 'laws.FnExactValidTrend': WHATEVER THE INPUT: true; the input reads as it did. -/
def fnExactValidTrendSpec : ChangeSpec := { name := "fnExactValidTrend", fn := fun _ => fun
  | [d] => { results := [.lit (.bool true)], args := [d] }
  | _ => none }
def fnExactValidTrendRow : OpenClaim := { program := "ytphelegkcbjkhaa", sum := "5b5b15a088f39e15180e75d1b88104847f9d5fa7c6ce1e9f3bbb176675b671aa", func := "loop.example/g01375/laws.FnExactValidTrend", spec := "fnExactValidTrend", unfollowed := true, recurses := true, apart := false }
def FnExactValidTrendSaid : Prop := fnExactValidTrendRow.holds Try.pinned (OpenSpec.ofChange fnExactValidTrendSpec)

/-- ITS FALSE NEIGHBOUR: 'it returns false'. Refute it at one input. -/
def fnExactValidTrendWrong : ChangeSpec := { name := "fnExactValidTrend", fn := fun _ => fun
  | [d] => { results := [.lit (.bool false)], args := [d] }
  | _ => none }
def FnExactValidTrendWrongFalsely : Prop := fnExactValidTrendRow.holds Try.pinned (OpenSpec.ofChange fnExactValidTrendWrong)

/-- 'laws.FnExactSameTrend': WHATEVER THE INPUT: true; the input reads as it did. -/
def fnExactSameTrendSpec : ChangeSpec := { name := "fnExactSameTrend", fn := fun _ => fun
  | [d1, d2] => { results := [.lit (.bool true)], args := [d1, d2] }
  | _ => none }
def fnExactSameTrendRow : OpenClaim := { program := "ytphelegkcbjkhaa", sum := "5b5b15a088f39e15180e75d1b88104847f9d5fa7c6ce1e9f3bbb176675b671aa", func := "loop.example/g01375/laws.FnExactSameTrend", spec := "fnExactSameTrend", inPlace := ["math.Float32bits", "math.Float64bits"], unfollowed := true, recurses := true, apart := false }
def FnExactSameTrendSaid : Prop := fnExactSameTrendRow.holds Try.pinned (OpenSpec.ofChange fnExactSameTrendSpec)

/-- ITS FALSE NEIGHBOUR: 'it returns false'. Refute it at one input. -/
def fnExactSameTrendWrong : ChangeSpec := { name := "fnExactSameTrend", fn := fun _ => fun
  | [d1, d2] => { results := [.lit (.bool false)], args := [d1, d2] }
  | _ => none }
def FnExactSameTrendWrongFalsely : Prop := fnExactSameTrendRow.holds Try.pinned (OpenSpec.ofChange fnExactSameTrendWrong)

/-- 'laws.FnExactRunLong': WHATEVER THE INPUT: true; the input reads as it did. -/
def fnExactRunLongSpec : ChangeSpec := { name := "fnExactRunLong", fn := fun _ => fun
  | [d1, d2, d3] => { results := [.lit (.bool true)], args := [d1, d2, d3] }
  | _ => none }
def fnExactRunLongRow : OpenClaim := { program := "ytphelegkcbjkhaa", sum := "5b5b15a088f39e15180e75d1b88104847f9d5fa7c6ce1e9f3bbb176675b671aa", func := "loop.example/g01375/laws.FnExactRunLong", spec := "fnExactRunLong", unfollowed := true, recurses := true, apart := false }
def FnExactRunLongSaid : Prop := fnExactRunLongRow.holds Try.pinned (OpenSpec.ofChange fnExactRunLongSpec)

/-- ITS FALSE NEIGHBOUR: 'it returns false'. Refute it at one input. -/
def fnExactRunLongWrong : ChangeSpec := { name := "fnExactRunLong", fn := fun _ => fun
  | [d1, d2, d3] => { results := [.lit (.bool false)], args := [d1, d2, d3] }
  | _ => none }
def FnExactRunLongWrongFalsely : Prop := fnExactRunLongRow.holds Try.pinned (OpenSpec.ofChange fnExactRunLongWrong)

/-- 'laws.FnExactRunChance': WHATEVER THE INPUT: true; the input reads as it did. -/
def fnExactRunChanceSpec : ChangeSpec := { name := "fnExactRunChance", fn := fun _ => fun
  | [d1, d2, d3, d4] => { results := [.lit (.bool true)], args := [d1, d2, d3, d4] }
  | _ => none }
def fnExactRunChanceRow : OpenClaim := { program := "ytphelegkcbjkhaa", sum := "5b5b15a088f39e15180e75d1b88104847f9d5fa7c6ce1e9f3bbb176675b671aa", func := "loop.example/g01375/laws.FnExactRunChance", spec := "fnExactRunChance", unfollowed := true, recurses := true, apart := false }
def FnExactRunChanceSaid : Prop := fnExactRunChanceRow.holds Try.pinned (OpenSpec.ofChange fnExactRunChanceSpec)

/-- ITS FALSE NEIGHBOUR: 'it returns false'. Refute it at one input. -/
def fnExactRunChanceWrong : ChangeSpec := { name := "fnExactRunChance", fn := fun _ => fun
  | [d1, d2, d3, d4] => { results := [.lit (.bool false)], args := [d1, d2, d3, d4] }
  | _ => none }
def FnExactRunChanceWrongFalsely : Prop := fnExactRunChanceRow.holds Try.pinned (OpenSpec.ofChange fnExactRunChanceWrong)

/-- 'laws.FnExactValidSaved': WHATEVER THE INPUT: true; the input reads as it did. -/
def fnExactValidSavedSpec : ChangeSpec := { name := "fnExactValidSaved", fn := fun _ => fun
  | [d] => { results := [.lit (.bool true)], args := [d] }
  | _ => none }
def fnExactValidSavedRow : OpenClaim := { program := "ytphelegkcbjkhaa", sum := "5b5b15a088f39e15180e75d1b88104847f9d5fa7c6ce1e9f3bbb176675b671aa", func := "loop.example/g01375/laws.FnExactValidSaved", spec := "fnExactValidSaved", unfollowed := true, recurses := true, apart := false }
def FnExactValidSavedSaid : Prop := fnExactValidSavedRow.holds Try.pinned (OpenSpec.ofChange fnExactValidSavedSpec)

/-- ITS FALSE NEIGHBOUR: 'it returns false'. Refute it at one input. -/
def fnExactValidSavedWrong : ChangeSpec := { name := "fnExactValidSaved", fn := fun _ => fun
  | [d] => { results := [.lit (.bool false)], args := [d] }
  | _ => none }
def FnExactValidSavedWrongFalsely : Prop := fnExactValidSavedRow.holds Try.pinned (OpenSpec.ofChange fnExactValidSavedWrong)

/-- 'laws.FnExactTrendAhead': WHATEVER THE INPUT: true; the input reads as it did. -/
def fnExactTrendAheadSpec : ChangeSpec := { name := "fnExactTrendAhead", fn := fun _ => fun
  | [d1, d2] => { results := [.lit (.bool true)], args := [d1, d2] }
  | _ => none }
def fnExactTrendAheadRow : OpenClaim := { program := "ytphelegkcbjkhaa", sum := "5b5b15a088f39e15180e75d1b88104847f9d5fa7c6ce1e9f3bbb176675b671aa", func := "loop.example/g01375/laws.FnExactTrendAhead", spec := "fnExactTrendAhead", unfollowed := true, recurses := true, apart := false }
def FnExactTrendAheadSaid : Prop := fnExactTrendAheadRow.holds Try.pinned (OpenSpec.ofChange fnExactTrendAheadSpec)

/-- ITS FALSE NEIGHBOUR: 'it returns false'. Refute it at one input. -/
def fnExactTrendAheadWrong : ChangeSpec := { name := "fnExactTrendAhead", fn := fun _ => fun
  | [d1, d2] => { results := [.lit (.bool false)], args := [d1, d2] }
  | _ => none }
def FnExactTrendAheadWrongFalsely : Prop := fnExactTrendAheadRow.holds Try.pinned (OpenSpec.ofChange fnExactTrendAheadWrong)

/-- 'laws.FnExactPartMeans': WHATEVER THE INPUT: true; the input reads as it did. -/
def fnExactPartMeansSpec : ChangeSpec := { name := "fnExactPartMeans", fn := fun _ => fun
  | [d1, d2] => { results := [.lit (.bool true)], args := [d1, d2] }
  | _ => none }
def fnExactPartMeansRow : OpenClaim := { program := "ytphelegkcbjkhaa", sum := "5b5b15a088f39e15180e75d1b88104847f9d5fa7c6ce1e9f3bbb176675b671aa", func := "loop.example/g01375/laws.FnExactPartMeans", spec := "fnExactPartMeans", unfollowed := true, recurses := true, apart := false }
def FnExactPartMeansSaid : Prop := fnExactPartMeansRow.holds Try.pinned (OpenSpec.ofChange fnExactPartMeansSpec)

/-- ITS FALSE NEIGHBOUR: 'it returns false'. Refute it at one input. -/
def fnExactPartMeansWrong : ChangeSpec := { name := "fnExactPartMeans", fn := fun _ => fun
  | [d1, d2] => { results := [.lit (.bool false)], args := [d1, d2] }
  | _ => none }
def FnExactPartMeansWrongFalsely : Prop := fnExactPartMeansRow.holds Try.pinned (OpenSpec.ofChange fnExactPartMeansWrong)

/- THE SECOND FORM. 'bulk': how many values and letters a reading holds, each counted each time it is reached (what is shared counts as often as it is met; a slice's spare places count too). A statement '..UptoSaid' is the law's where the arguments, and the package variables that the reading takes, are together of bulk at most 1048576: NARROWER than '..Said'. Prove '..Said' where nothing that the law and all that it calls make is longer than what came in: it says more and counts as full. Else prove '..UptoSaid'. A law counts once. -/
mutual
def uptoBulk {H : Type} : DataW H → Nat
  | .lit (.string bytes) => bytes.length + 1
  | .lit _ => 1
  | .nil => 1
  | .ptr d => uptoBulk d + 1
  | .slice elems spare => uptoBulkAll elems + uptoBulkAll spare + 1
  | .agg parts => uptoBulkAll parts + 1
  | .iface _ d => uptoBulk d + 1
  | .map entries => uptoBulkEntries entries + 1
  | .held _ => 1
def uptoBulkAll {H : Type} : List (DataW H) → Nat
  | [] => 0
  | d :: r => uptoBulk d + uptoBulkAll r
def uptoBulkEntries {H : Type} : List (Lit × DataW H) → Nat
  | [] => 0
  | x :: r => uptoBulkEntry x + uptoBulkEntries r
def uptoBulkEntry {H : Type} : Lit × DataW H → Nat
  | (.string bytes, d) => bytes.length + uptoBulk d + 1
  | (_, d) => uptoBulk d + 1
 end
def uptoSmall : (H : Type) → List (DataW H) → Bool := fun _ ds => decide (uptoBulkAll ds ≤ 1048576)
def OpenSpec.upto (s : _root_.Go.ChangeSpec) : _root_.Go.OpenSpec := { _root_.Go.OpenSpec.ofChange s with cond := some uptoSmall }

/-- 'laws.FnExactValidTrend', WHERE WHAT IT READS IS OF BULK AT MOST 1048576: true; the input reads as it did. -/
def fnExactValidTrendUptoRow : OpenClaim := { program := "ytphelegkcbjkhaa", sum := "5b5b15a088f39e15180e75d1b88104847f9d5fa7c6ce1e9f3bbb176675b671aa", func := "loop.example/g01375/laws.FnExactValidTrend", spec := "fnExactValidTrend", unfollowed := true, recurses := true, apart := false, narrowed := true }
def FnExactValidTrendUptoSaid : Prop := fnExactValidTrendUptoRow.holds Try.pinned (OpenSpec.upto fnExactValidTrendSpec)

/-- 'laws.FnExactSameTrend', WHERE WHAT IT READS IS OF BULK AT MOST 1048576: true; the input reads as it did. -/
def fnExactSameTrendUptoRow : OpenClaim := { program := "ytphelegkcbjkhaa", sum := "5b5b15a088f39e15180e75d1b88104847f9d5fa7c6ce1e9f3bbb176675b671aa", func := "loop.example/g01375/laws.FnExactSameTrend", spec := "fnExactSameTrend", inPlace := ["math.Float32bits", "math.Float64bits"], unfollowed := true, recurses := true, apart := false, narrowed := true }
def FnExactSameTrendUptoSaid : Prop := fnExactSameTrendUptoRow.holds Try.pinned (OpenSpec.upto fnExactSameTrendSpec)

/-- 'laws.FnExactRunLong', WHERE WHAT IT READS IS OF BULK AT MOST 1048576: true; the input reads as it did. -/
def fnExactRunLongUptoRow : OpenClaim := { program := "ytphelegkcbjkhaa", sum := "5b5b15a088f39e15180e75d1b88104847f9d5fa7c6ce1e9f3bbb176675b671aa", func := "loop.example/g01375/laws.FnExactRunLong", spec := "fnExactRunLong", unfollowed := true, recurses := true, apart := false, narrowed := true }
def FnExactRunLongUptoSaid : Prop := fnExactRunLongUptoRow.holds Try.pinned (OpenSpec.upto fnExactRunLongSpec)

/-- 'laws.FnExactRunChance', WHERE WHAT IT READS IS OF BULK AT MOST 1048576: true; the input reads as it did. -/
def fnExactRunChanceUptoRow : OpenClaim := { program := "ytphelegkcbjkhaa", sum := "5b5b15a088f39e15180e75d1b88104847f9d5fa7c6ce1e9f3bbb176675b671aa", func := "loop.example/g01375/laws.FnExactRunChance", spec := "fnExactRunChance", unfollowed := true, recurses := true, apart := false, narrowed := true }
def FnExactRunChanceUptoSaid : Prop := fnExactRunChanceUptoRow.holds Try.pinned (OpenSpec.upto fnExactRunChanceSpec)

/-- 'laws.FnExactValidSaved', WHERE WHAT IT READS IS OF BULK AT MOST 1048576: true; the input reads as it did. -/
def fnExactValidSavedUptoRow : OpenClaim := { program := "ytphelegkcbjkhaa", sum := "5b5b15a088f39e15180e75d1b88104847f9d5fa7c6ce1e9f3bbb176675b671aa", func := "loop.example/g01375/laws.FnExactValidSaved", spec := "fnExactValidSaved", unfollowed := true, recurses := true, apart := false, narrowed := true }
def FnExactValidSavedUptoSaid : Prop := fnExactValidSavedUptoRow.holds Try.pinned (OpenSpec.upto fnExactValidSavedSpec)

/-- 'laws.FnExactTrendAhead', WHERE WHAT IT READS IS OF BULK AT MOST 1048576: true; the input reads as it did. -/
def fnExactTrendAheadUptoRow : OpenClaim := { program := "ytphelegkcbjkhaa", sum := "5b5b15a088f39e15180e75d1b88104847f9d5fa7c6ce1e9f3bbb176675b671aa", func := "loop.example/g01375/laws.FnExactTrendAhead", spec := "fnExactTrendAhead", unfollowed := true, recurses := true, apart := false, narrowed := true }
def FnExactTrendAheadUptoSaid : Prop := fnExactTrendAheadUptoRow.holds Try.pinned (OpenSpec.upto fnExactTrendAheadSpec)

/-- 'laws.FnExactPartMeans', WHERE WHAT IT READS IS OF BULK AT MOST 1048576: true; the input reads as it did. -/
def fnExactPartMeansUptoRow : OpenClaim := { program := "ytphelegkcbjkhaa", sum := "5b5b15a088f39e15180e75d1b88104847f9d5fa7c6ce1e9f3bbb176675b671aa", func := "loop.example/g01375/laws.FnExactPartMeans", spec := "fnExactPartMeans", unfollowed := true, recurses := true, apart := false, narrowed := true }
def FnExactPartMeansUptoSaid : Prop := fnExactPartMeansUptoRow.holds Try.pinned (OpenSpec.upto fnExactPartMeansSpec)

end Rows
end Go.Proofs.Ytphelegkcbjkhaa
