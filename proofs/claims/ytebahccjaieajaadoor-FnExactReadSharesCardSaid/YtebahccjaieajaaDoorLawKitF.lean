/- What a law over texts that are read begins with: seven variables, two of them sentinels. -/
import Derived.Test.YtebahccjaieajaaDoorLawKitE
import Derived.Lay
namespace Go.Proofs.YtebahccjaieajaaDoor
set_option linter.unusedSimpArgs false
set_option linter.unusedVariables false
set_option maxRecDepth 100000
set_option maxHeartbeats 4000000
open Go.RowKit

def laidR : List (String × DataW Unit) := [("math/bits.deBruijn32tab", Rows.laid_math_bits_deBruijn32tab), ("math/bits.deBruijn64tab", Rows.laid_math_bits_deBruijn64tab), ("internal/strconv.uint64pow10", Rows.laid_internal_strconv_uint64pow10), ("unicode/utf8.acceptRanges", Rows.laid_unicode_utf8_acceptRanges), ("strconv.ErrRange", Rows.laid_strconv_ErrRange), ("strconv.ErrSyntax", Rows.laid_strconv_ErrSyntax), ("unicode/utf8.first", Rows.laid_unicode_utf8_first)]
theorem deR_of_laid {W : World} (h : laidMetH Tryd.prog laidR W) : W.cell? ⟨8, 15, none⟩ = some (.int .u8 4) := by
  rw [MakeChecks.laidMetH_plain _ _ _ (by kernel_rfl)] at h
  have h2 : laidMet Tryd.prog (("math/bits.deBruijn64tab", Lib.tabData .u8 deB64) :: laidR.tail.tail) W := h.tail
  exact (Lib.tabIs_of_head (g := 8) (t := 167) (e := 5) (n := 64) (by kernel_rfl) (by kernel_rfl) (by kernel_rfl) (by kernel_rfl) (by kernel_rfl) (by kernel_rfl) h2).cell (by kernel_rfl) 15 (by decide)
theorem tabR_of_laid {W : World} (h : laidMetH Tryd.prog laidR W) : Lib.TabIs Tryd.prog W "internal/strconv.uint64pow10" .u64 Lib.pow10Tab := by
  rw [MakeChecks.laidMetH_plain _ _ _ (by kernel_rfl)] at h
  have h2 : laidMet Tryd.prog (("internal/strconv.uint64pow10", Lib.tabData .u64 Lib.pow10Tab) :: laidR.tail.tail.tail) W := h.tail.tail
  exact Lib.tabIs_of_head (g := 2) (t := 144) (e := 120) (n := 20) (by kernel_rfl) (by kernel_rfl) (by kernel_rfl) (by kernel_rfl) (by kernel_rfl) (by kernel_rfl) h2
theorem erR_of_laid {W : World} (h : laidMetH Tryd.prog laidR W) : ∃ ev, W.cell? ⟨3, 0, none⟩ = some ev ∧ (ev = .nilIface ∨ ∃ te pe, ev = .iface te pe) := by
  rw [MakeChecks.laidMetH_plain _ _ _ (by kernel_rfl)] at h
  have h2 : laidMet Tryd.prog (("strconv.ErrSyntax", Rows.laid_strconv_ErrSyntax) :: laidR.tail.tail.tail.tail.tail.tail) W := h.tail.tail.tail.tail.tail
  obtain ⟨ps, ⟨g0, t0, cs0, f0, p0, q0, hg0, ht0, hv0, hd0, _, e0⟩, _, hrows⟩ := h2
  have e1 : g0 = 3 := Option.some.inj (hg0.symm.trans (by kernel_rfl))
  have e2 : t0 = 66 := Option.some.inj (ht0.symm.trans (by subst e1; kernel_rfl))
  subst e1 e2
  obtain ⟨l0⟩ := cs0
  obtain ⟨f1, u, v, e, -, -⟩ := iface_of_trod Tryd.underlying66 hd0
  have e3 : l0 = [.iface u v] := e
  subst e3
  exact ⟨.iface u v, by simpa using World.var?_cell hg0 hv0 0, .inr ⟨u, v, rfl⟩⟩

end Go.Proofs.YtebahccjaieajaaDoor
