/-
  No cell of these rows narrows 'for every input' (looked for: loops, veiled, ifaces, maps, wideKeys, modest, calm, conditions, laid).
  DERIVED. THE GIVEN ROWS OF THIS SEAT. 8 by the template 'for every input the law returns true; each argument reads behind the call as it read before'; 0 by the template 'total and deterministic' (their statements: YtaplnfdlcihhpaaTotals.lean).
  GIVEN WITH THE SEED: the statements are not yours to turn. If you find one false, say at which input.
  Laid BY PROGRAM, IN A SANDBOX (cutbox-rows.mjs): the forced cells as the released guide's own fill.sh prints them over the translation 32378c1d3cae1657… (all of the seat's roots in one cut). By AI agents, Wed Nov 11 2026. No macro, syntax, notation, axiom, sorry.
-/
import Derived.Test.YtaplnfdlcihhpaaChecked
import GoSem.Claim
import GoSem.ClaimJoined
import GoSem.ClaimMapViews
import Derived.JoinedTies
import Derived.KernelRfl
namespace Go.Proofs.Ytaplnfdlcihhpaa
/- THE CELL 'sum', in the pinned program and in every row, IS THE sha256 OF THE DUMP (.gsa) THAT YtaplnfdlcihhpaaProg.lean LOADS. Nothing in Lean hashes anything: it is a label: what it is worth is what the hold of that sum in a sandbox is worth. -/
noncomputable def Try.pinned : Pinned := { name := "ytaplnfdlcihhpaa", sum := "32378c1d3cae165703bc75df95b683ca22d5fb0533e90da3a5c29939e699e539", checked := Try.checked }
namespace Rows
def none {H : Type} : Left H := { results := [], args := [] }

/-- 'laws.FnWalks': WHATEVER THE INPUT: true; the input reads as it did. -/
def fnWalksSpec : ChangeSpec := { name := "fnWalks", fn := fun _ => fun
  | [d1, d2] => { results := [.lit (.bool true)], args := [d1, d2] }
  | _ => none }
def fnWalksRow : OpenClaim := { program := "ytaplnfdlcihhpaa", sum := "32378c1d3cae165703bc75df95b683ca22d5fb0533e90da3a5c29939e699e539", func := "loop.example/g01375/laws.FnWalks", spec := "fnWalks", inPlace := ["math.Float32bits"], unfollowed := true, recurses := true, apart := false }
def FnWalksSaid : Prop := fnWalksRow.holds Try.pinned (OpenSpec.ofChange fnWalksSpec)

/-- ITS FALSE NEIGHBOUR: 'it returns false'. Refute it at one input. -/
def fnWalksWrong : ChangeSpec := { name := "fnWalks", fn := fun _ => fun
  | [d1, d2] => { results := [.lit (.bool false)], args := [d1, d2] }
  | _ => none }
def FnWalksWrongFalsely : Prop := fnWalksRow.holds Try.pinned (OpenSpec.ofChange fnWalksWrong)

/-- 'laws.FnExactProfileOf': WHATEVER THE INPUT: true; the input reads as it did. -/
def fnExactProfileOfSpec : ChangeSpec := { name := "fnExactProfileOf", fn := fun _ => fun
  | [d1, d2] => { results := [.lit (.bool true)], args := [d1, d2] }
  | _ => none }
def fnExactProfileOfRow : OpenClaim := { program := "ytaplnfdlcihhpaa", sum := "32378c1d3cae165703bc75df95b683ca22d5fb0533e90da3a5c29939e699e539", func := "loop.example/g01375/laws.FnExactProfileOf", spec := "fnExactProfileOf", inPlace := ["math.sqrt"], unfollowed := true, recurses := true, apart := false }
def FnExactProfileOfSaid : Prop := fnExactProfileOfRow.holds Try.pinned (OpenSpec.ofChange fnExactProfileOfSpec)

/-- ITS FALSE NEIGHBOUR: 'it returns false'. Refute it at one input. -/
def fnExactProfileOfWrong : ChangeSpec := { name := "fnExactProfileOf", fn := fun _ => fun
  | [d1, d2] => { results := [.lit (.bool false)], args := [d1, d2] }
  | _ => none }
def FnExactProfileOfWrongFalsely : Prop := fnExactProfileOfRow.holds Try.pinned (OpenSpec.ofChange fnExactProfileOfWrong)

/-- 'laws.FnExactMotifOf': WHATEVER THE INPUT: true; the input reads as it did. -/
def fnExactMotifOfSpec : ChangeSpec := { name := "fnExactMotifOf", fn := fun _ => fun
  | [d1, d2] => { results := [.lit (.bool true)], args := [d1, d2] }
  | _ => none }
def fnExactMotifOfRow : OpenClaim := { program := "ytaplnfdlcihhpaa", sum := "32378c1d3cae165703bc75df95b683ca22d5fb0533e90da3a5c29939e699e539", func := "loop.example/g01375/laws.FnExactMotifOf", spec := "fnExactMotifOf", inPlace := ["math.sqrt"], unfollowed := true, recurses := true, apart := false }
def FnExactMotifOfSaid : Prop := fnExactMotifOfRow.holds Try.pinned (OpenSpec.ofChange fnExactMotifOfSpec)

/-- ITS FALSE NEIGHBOUR: 'it returns false'. Refute it at one input. -/
def fnExactMotifOfWrong : ChangeSpec := { name := "fnExactMotifOf", fn := fun _ => fun
  | [d1, d2] => { results := [.lit (.bool false)], args := [d1, d2] }
  | _ => none }
def FnExactMotifOfWrongFalsely : Prop := fnExactMotifOfRow.holds Try.pinned (OpenSpec.ofChange fnExactMotifOfWrong)

/-- 'laws.FnExactDiscordOf': WHATEVER THE INPUT: true; the input reads as it did. -/
def fnExactDiscordOfSpec : ChangeSpec := { name := "fnExactDiscordOf", fn := fun _ => fun
  | [d1, d2] => { results := [.lit (.bool true)], args := [d1, d2] }
  | _ => none }
def fnExactDiscordOfRow : OpenClaim := { program := "ytaplnfdlcihhpaa", sum := "32378c1d3cae165703bc75df95b683ca22d5fb0533e90da3a5c29939e699e539", func := "loop.example/g01375/laws.FnExactDiscordOf", spec := "fnExactDiscordOf", inPlace := ["math.sqrt"], unfollowed := true, recurses := true, apart := false }
def FnExactDiscordOfSaid : Prop := fnExactDiscordOfRow.holds Try.pinned (OpenSpec.ofChange fnExactDiscordOfSpec)

/-- ITS FALSE NEIGHBOUR: 'it returns false'. Refute it at one input. -/
def fnExactDiscordOfWrong : ChangeSpec := { name := "fnExactDiscordOf", fn := fun _ => fun
  | [d1, d2] => { results := [.lit (.bool false)], args := [d1, d2] }
  | _ => none }
def FnExactDiscordOfWrongFalsely : Prop := fnExactDiscordOfRow.holds Try.pinned (OpenSpec.ofChange fnExactDiscordOfWrong)

/-- 'laws.FnExactCentersOf': WHATEVER THE INPUT: true; the input reads as it did. -/
def fnExactCentersOfSpec : ChangeSpec := { name := "fnExactCentersOf", fn := fun _ => fun
  | [d1, d2, d3] => { results := [.lit (.bool true)], args := [d1, d2, d3] }
  | _ => none }
def fnExactCentersOfRow : OpenClaim := { program := "ytaplnfdlcihhpaa", sum := "32378c1d3cae165703bc75df95b683ca22d5fb0533e90da3a5c29939e699e539", func := "loop.example/g01375/laws.FnExactCentersOf", spec := "fnExactCentersOf", inPlace := ["math.sqrt"], unfollowed := true, recurses := true, apart := false }
def FnExactCentersOfSaid : Prop := fnExactCentersOfRow.holds Try.pinned (OpenSpec.ofChange fnExactCentersOfSpec)

/-- ITS FALSE NEIGHBOUR: 'it returns false'. Refute it at one input. -/
def fnExactCentersOfWrong : ChangeSpec := { name := "fnExactCentersOf", fn := fun _ => fun
  | [d1, d2, d3] => { results := [.lit (.bool false)], args := [d1, d2, d3] }
  | _ => none }
def FnExactCentersOfWrongFalsely : Prop := fnExactCentersOfRow.holds Try.pinned (OpenSpec.ofChange fnExactCentersOfWrong)

/-- 'laws.FnDrift': WHATEVER THE INPUT: true; the input reads as it did. -/
def fnDriftSpec : ChangeSpec := { name := "fnDrift", fn := fun _ => fun
  | [d1, d2] => { results := [.lit (.bool true)], args := [d1, d2] }
  | _ => none }
def fnDriftRow : OpenClaim := { program := "ytaplnfdlcihhpaa", sum := "32378c1d3cae165703bc75df95b683ca22d5fb0533e90da3a5c29939e699e539", func := "loop.example/g01375/laws.FnDrift", spec := "fnDrift", unfollowed := true, recurses := true, apart := false }
def FnDriftSaid : Prop := fnDriftRow.holds Try.pinned (OpenSpec.ofChange fnDriftSpec)

/-- ITS FALSE NEIGHBOUR: 'it returns false'. Refute it at one input. -/
def fnDriftWrong : ChangeSpec := { name := "fnDrift", fn := fun _ => fun
  | [d1, d2] => { results := [.lit (.bool false)], args := [d1, d2] }
  | _ => none }
def FnDriftWrongFalsely : Prop := fnDriftRow.holds Try.pinned (OpenSpec.ofChange fnDriftWrong)

/-- 'laws.FnProfiles': WHATEVER THE INPUT: true; the input reads as it did. -/
def fnProfilesSpec : ChangeSpec := { name := "fnProfiles", fn := fun _ => fun
  | [d1, d2] => { results := [.lit (.bool true)], args := [d1, d2] }
  | _ => none }
def fnProfilesRow : OpenClaim := { program := "ytaplnfdlcihhpaa", sum := "32378c1d3cae165703bc75df95b683ca22d5fb0533e90da3a5c29939e699e539", func := "loop.example/g01375/laws.FnProfiles", spec := "fnProfiles", inPlace := ["math.sqrt", "math.Float32bits"], unfollowed := true, recurses := true, apart := false }
def FnProfilesSaid : Prop := fnProfilesRow.holds Try.pinned (OpenSpec.ofChange fnProfilesSpec)

/-- ITS FALSE NEIGHBOUR: 'it returns false'. Refute it at one input. -/
def fnProfilesWrong : ChangeSpec := { name := "fnProfiles", fn := fun _ => fun
  | [d1, d2] => { results := [.lit (.bool false)], args := [d1, d2] }
  | _ => none }
def FnProfilesWrongFalsely : Prop := fnProfilesRow.holds Try.pinned (OpenSpec.ofChange fnProfilesWrong)

/-- 'laws.FnNearest': WHATEVER THE INPUT: true; the input reads as it did. -/
def fnNearestSpec : ChangeSpec := { name := "fnNearest", fn := fun _ => fun
  | [d1, d2] => { results := [.lit (.bool true)], args := [d1, d2] }
  | _ => none }
def fnNearestRow : OpenClaim := { program := "ytaplnfdlcihhpaa", sum := "32378c1d3cae165703bc75df95b683ca22d5fb0533e90da3a5c29939e699e539", func := "loop.example/g01375/laws.FnNearest", spec := "fnNearest", inPlace := ["math.sqrt", "math.Float32bits"], unfollowed := true, recurses := true, apart := false }
def FnNearestSaid : Prop := fnNearestRow.holds Try.pinned (OpenSpec.ofChange fnNearestSpec)

/-- ITS FALSE NEIGHBOUR: 'it returns false'. Refute it at one input. -/
def fnNearestWrong : ChangeSpec := { name := "fnNearest", fn := fun _ => fun
  | [d1, d2] => { results := [.lit (.bool false)], args := [d1, d2] }
  | _ => none }
def FnNearestWrongFalsely : Prop := fnNearestRow.holds Try.pinned (OpenSpec.ofChange fnNearestWrong)

/- THE SECOND FORM. 'bulk': how many values and letters a reading holds, each counted each time it is reached (what is shared counts as often as it is met; a slice's spare places count too). A statement '..UptoSaid' is the law's where the arguments, and the package variables that the reading takes, are together of bulk at most 1048576: NARROWER than '..Said'. Prove '..Said' where nothing that the law and all that it calls make is longer than what came in: it says more and counts as full. Else prove '..UptoSaid'. A law counts once. -/
mutual
def uptoBulk {H : Type} : DataW H → Nat
  | .lit (.string bytes) => bytes.length + 1
  | .lit _ => 1
  | .nil => 1
  | .ptr d => uptoBulk d + 1
  | .slice elems spare => uptoBulkAll elems + uptoBulkAll spare + 1
  | .agg parts => uptoBulkAll parts + 1
  | .iface _ d => uptoBulk d + 1
  | .map entries => uptoBulkEntries entries + 1
  | .held _ => 1
def uptoBulkAll {H : Type} : List (DataW H) → Nat
  | [] => 0
  | d :: r => uptoBulk d + uptoBulkAll r
def uptoBulkEntries {H : Type} : List (Lit × DataW H) → Nat
  | [] => 0
  | x :: r => uptoBulkEntry x + uptoBulkEntries r
def uptoBulkEntry {H : Type} : Lit × DataW H → Nat
  | (.string bytes, d) => bytes.length + uptoBulk d + 1
  | (_, d) => uptoBulk d + 1
 end
def uptoSmall : (H : Type) → List (DataW H) → Bool := fun _ ds => decide (uptoBulkAll ds ≤ 1048576)
def OpenSpec.upto (s : _root_.Go.ChangeSpec) : _root_.Go.OpenSpec := { _root_.Go.OpenSpec.ofChange s with cond := some uptoSmall }

/-- 'laws.FnWalks', WHERE WHAT IT READS IS OF BULK AT MOST 1048576: true; the input reads as it did. -/
def fnWalksUptoRow : OpenClaim := { program := "ytaplnfdlcihhpaa", sum := "32378c1d3cae165703bc75df95b683ca22d5fb0533e90da3a5c29939e699e539", func := "loop.example/g01375/laws.FnWalks", spec := "fnWalks", inPlace := ["math.Float32bits"], unfollowed := true, recurses := true, apart := false, narrowed := true }
def FnWalksUptoSaid : Prop := fnWalksUptoRow.holds Try.pinned (OpenSpec.upto fnWalksSpec)

/-- 'laws.FnExactProfileOf', WHERE WHAT IT READS IS OF BULK AT MOST 1048576: true; the input reads as it did. -/
def fnExactProfileOfUptoRow : OpenClaim := { program := "ytaplnfdlcihhpaa", sum := "32378c1d3cae165703bc75df95b683ca22d5fb0533e90da3a5c29939e699e539", func := "loop.example/g01375/laws.FnExactProfileOf", spec := "fnExactProfileOf", inPlace := ["math.sqrt"], unfollowed := true, recurses := true, apart := false, narrowed := true }
def FnExactProfileOfUptoSaid : Prop := fnExactProfileOfUptoRow.holds Try.pinned (OpenSpec.upto fnExactProfileOfSpec)

/-- 'laws.FnExactMotifOf', WHERE WHAT IT READS IS OF BULK AT MOST 1048576: true; the input reads as it did. -/
def fnExactMotifOfUptoRow : OpenClaim := { program := "ytaplnfdlcihhpaa", sum := "32378c1d3cae165703bc75df95b683ca22d5fb0533e90da3a5c29939e699e539", func := "loop.example/g01375/laws.FnExactMotifOf", spec := "fnExactMotifOf", inPlace := ["math.sqrt"], unfollowed := true, recurses := true, apart := false, narrowed := true }
def FnExactMotifOfUptoSaid : Prop := fnExactMotifOfUptoRow.holds Try.pinned (OpenSpec.upto fnExactMotifOfSpec)

/-- 'laws.FnExactDiscordOf', WHERE WHAT IT READS IS OF BULK AT MOST 1048576: true; the input reads as it did. -/
def fnExactDiscordOfUptoRow : OpenClaim := { program := "ytaplnfdlcihhpaa", sum := "32378c1d3cae165703bc75df95b683ca22d5fb0533e90da3a5c29939e699e539", func := "loop.example/g01375/laws.FnExactDiscordOf", spec := "fnExactDiscordOf", inPlace := ["math.sqrt"], unfollowed := true, recurses := true, apart := false, narrowed := true }
def FnExactDiscordOfUptoSaid : Prop := fnExactDiscordOfUptoRow.holds Try.pinned (OpenSpec.upto fnExactDiscordOfSpec)

/-- 'laws.FnExactCentersOf', WHERE WHAT IT READS IS OF BULK AT MOST 1048576: true; the input reads as it did. -/
def fnExactCentersOfUptoRow : OpenClaim := { program := "ytaplnfdlcihhpaa", sum := "32378c1d3cae165703bc75df95b683ca22d5fb0533e90da3a5c29939e699e539", func := "loop.example/g01375/laws.FnExactCentersOf", spec := "fnExactCentersOf", inPlace := ["math.sqrt"], unfollowed := true, recurses := true, apart := false, narrowed := true }
def FnExactCentersOfUptoSaid : Prop := fnExactCentersOfUptoRow.holds Try.pinned (OpenSpec.upto fnExactCentersOfSpec)

/-- 'laws.FnDrift', WHERE WHAT IT READS IS OF BULK AT MOST 1048576: true; the input reads as it did. -/
def fnDriftUptoRow : OpenClaim := { program := "ytaplnfdlcihhpaa", sum := "32378c1d3cae165703bc75df95b683ca22d5fb0533e90da3a5c29939e699e539", func := "loop.example/g01375/laws.FnDrift", spec := "fnDrift", unfollowed := true, recurses := true, apart := false, narrowed := true }
def FnDriftUptoSaid : Prop := fnDriftUptoRow.holds Try.pinned (OpenSpec.upto fnDriftSpec)

/-- 'laws.FnProfiles', WHERE WHAT IT READS IS OF BULK AT MOST 1048576: true; the input reads as it did. -/
def fnProfilesUptoRow : OpenClaim := { program := "ytaplnfdlcihhpaa", sum := "32378c1d3cae165703bc75df95b683ca22d5fb0533e90da3a5c29939e699e539", func := "loop.example/g01375/laws.FnProfiles", spec := "fnProfiles", inPlace := ["math.sqrt", "math.Float32bits"], unfollowed := true, recurses := true, apart := false, narrowed := true }
def FnProfilesUptoSaid : Prop := fnProfilesUptoRow.holds Try.pinned (OpenSpec.upto fnProfilesSpec)

/-- 'laws.FnNearest', WHERE WHAT IT READS IS OF BULK AT MOST 1048576: true; the input reads as it did. -/
def fnNearestUptoRow : OpenClaim := { program := "ytaplnfdlcihhpaa", sum := "32378c1d3cae165703bc75df95b683ca22d5fb0533e90da3a5c29939e699e539", func := "loop.example/g01375/laws.FnNearest", spec := "fnNearest", inPlace := ["math.sqrt", "math.Float32bits"], unfollowed := true, recurses := true, apart := false, narrowed := true }
def FnNearestUptoSaid : Prop := fnNearestUptoRow.holds Try.pinned (OpenSpec.upto fnNearestSpec)

end Rows
end Go.Proofs.Ytaplnfdlcihhpaa
