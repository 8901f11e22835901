/- What each law's proof begins with. -/
import Derived.Test.YtkkomajokdlkeaaRows
import Derived.Test.YtkkomajokdlkeaaOpen
namespace Go.Proofs.Ytkkomajokdlkeaa
set_option linter.unusedSimpArgs false
set_option linter.unusedVariables false
set_option maxRecDepth 100000
set_option maxHeartbeats 4000000
open Go.RowKit

theorem own : ownKnob Try.prog.godebug = none := by kernel_rfl
theorem laidOut : laidOutB Try.prog = true := by kernel_rfl

theorem eight {α : Type} {l : List α} (h : l.length = 8) {a b c d e f g i : α} (h0 : l[0]? = some a) (h1 : l[1]? = some b) (h2 : l[2]? = some c) (h3 : l[3]? = some d) (h4 : l[4]? = some e) (h5 : l[5]? = some f) (h6 : l[6]? = some g) (h7 : l[7]? = some i) : l = [a, b, c, d, e, f, g, i] := by
  match l, h with
  | [x0, x1, x2, x3, x4, x5, x6, x7], _ => simp_all

end Go.Proofs.Ytkkomajokdlkeaa
