/- What a law over texts of numbers begins with. -/
import Derived.Test.YtebahccjaieajaaGreatDoorLawKitD
import Derived.Lay
namespace Go.Proofs.YtebahccjaieajaaGreatDoor
set_option linter.unusedSimpArgs false
set_option linter.unusedVariables false
set_option maxRecDepth 100000
set_option maxHeartbeats 4000000
open Go.RowKit
def deB64 : List Int := [0, 1, 56, 2, 57, 49, 28, 3, 61, 58, 42, 50, 38, 29, 17, 4, 62, 47, 59, 36, 45, 43, 51, 22, 53, 39, 33, 30, 24, 18, 12, 5, 63, 55, 48, 27, 60, 41, 37, 16, 46, 35, 44, 21, 52, 32, 23, 11, 54, 26, 40, 15, 34, 20, 31, 10, 25, 14, 19, 9, 13, 8, 7, 6]
/-- What the condition gives: the table's place that the base 16 asks for. -/
theorem deB_of_laid {W : World} (h : laidMetH Tryz.prog laidT W) : W.cell? ⟨8, 15, none⟩ = some (.int .u8 4) := by
  rw [MakeChecks.laidMetH_plain _ _ _ (by kernel_rfl)] at h
  have h2 : laidMet Tryz.prog [("math/bits.deBruijn64tab", Lib.tabData .u8 deB64), ("internal/strconv.uint64pow10", Lib.tabData .u64 Lib.pow10Tab)] W := h.tail
  exact (Lib.tabIs_of_head (g := 8) (t := 135) (e := 5) (n := 64) (by kernel_rfl) (by kernel_rfl) (by kernel_rfl) (by kernel_rfl) (by kernel_rfl) (by kernel_rfl) h2).cell (by kernel_rfl) 15 (by decide)
theorem four {α : Type} {l : List α} {a b c d : α} (hl : l.length = 4) (h0 : l[0]? = some a) (h1 : l[1]? = some b) (h2 : l[2]? = some c) (h3 : l[3]? = some d) : l = [a, b, c, d] := by
  match l, hl with
  | [x, y, z, t], _ => simp at h0 h1 h2 h3; rw [h0, h1, h2, h3]

def laidR : List (String × DataW Unit) := [("math/bits.deBruijn32tab", Rows.laid_math_bits_deBruijn32tab), ("math/bits.deBruijn64tab", Rows.laid_math_bits_deBruijn64tab), ("internal/strconv.uint64pow10", Rows.laid_internal_strconv_uint64pow10), ("unicode/utf8.acceptRanges", Rows.laid_unicode_utf8_acceptRanges), ("strconv.ErrRange", Rows.laid_strconv_ErrRange), ("strconv.ErrSyntax", Rows.laid_strconv_ErrSyntax), ("unicode/utf8.first", Rows.laid_unicode_utf8_first)]
theorem deR_of_laid {W : World} (h : laidMetH Tryz.prog laidR W) : W.cell? ⟨8, 15, none⟩ = some (.int .u8 4) := by
  rw [MakeChecks.laidMetH_plain _ _ _ (by kernel_rfl)] at h
  have h2 : laidMet Tryz.prog (("math/bits.deBruijn64tab", Lib.tabData .u8 deB64) :: laidR.tail.tail) W := h.tail
  exact (Lib.tabIs_of_head (g := 8) (t := 135) (e := 5) (n := 64) (by kernel_rfl) (by kernel_rfl) (by kernel_rfl) (by kernel_rfl) (by kernel_rfl) (by kernel_rfl) h2).cell (by kernel_rfl) 15 (by decide)
theorem tabR_of_laid {W : World} (h : laidMetH Tryz.prog laidR W) : Lib.TabIs Tryz.prog W "internal/strconv.uint64pow10" .u64 Lib.pow10Tab := by
  rw [MakeChecks.laidMetH_plain _ _ _ (by kernel_rfl)] at h
  have h2 : laidMet Tryz.prog (("internal/strconv.uint64pow10", Lib.tabData .u64 Lib.pow10Tab) :: laidR.tail.tail.tail) W := h.tail.tail
  exact Lib.tabIs_of_head (g := 6) (t := 126) (e := 62) (n := 20) (by kernel_rfl) (by kernel_rfl) (by kernel_rfl) (by kernel_rfl) (by kernel_rfl) (by kernel_rfl) h2
theorem erR_of_laid {W : World} (h : laidMetH Tryz.prog laidR W) : ∃ ev, W.cell? ⟨2, 0, none⟩ = some ev ∧ (ev = .nilIface ∨ ∃ te pe, ev = .iface te pe) := by
  rw [MakeChecks.laidMetH_plain _ _ _ (by kernel_rfl)] at h
  have h2 : laidMet Tryz.prog (("strconv.ErrSyntax", Rows.laid_strconv_ErrSyntax) :: laidR.tail.tail.tail.tail.tail.tail) W := h.tail.tail.tail.tail.tail
  obtain ⟨ps, ⟨g0, t0, cs0, f0, p0, q0, hg0, ht0, hv0, hd0, _, e0⟩, _, hrows⟩ := h2
  have e1 : g0 = 2 := Option.some.inj (hg0.symm.trans (by kernel_rfl))
  have e2 : t0 = 49 := Option.some.inj (ht0.symm.trans (by subst e1; kernel_rfl))
  subst e1 e2
  obtain ⟨l0⟩ := cs0
  obtain ⟨f1, u, v, e, -, -⟩ := iface_of_trod Tryz.underlying49 hd0
  have e3 : l0 = [.iface u v] := e
  subst e3
  exact ⟨.iface u v, by simpa using World.var?_cell hg0 hv0 0, .inr ⟨u, v, rfl⟩⟩
theorem erR2_of_laid {W : World} (h : laidMetH Tryz.prog laidR W) : ∃ ev, W.cell? ⟨3, 0, none⟩ = some ev ∧ (ev = .nilIface ∨ ∃ te pe, ev = .iface te pe) := by
  rw [MakeChecks.laidMetH_plain _ _ _ (by kernel_rfl)] at h
  have h2 : laidMet Tryz.prog (("strconv.ErrRange", Rows.laid_strconv_ErrRange) :: laidR.tail.tail.tail.tail.tail) W := h.tail.tail.tail.tail
  obtain ⟨ps, ⟨g0, t0, cs0, f0, p0, q0, hg0, ht0, hv0, hd0, _, e0⟩, _, hrows⟩ := h2
  have e1 : g0 = 3 := Option.some.inj (hg0.symm.trans (by kernel_rfl))
  have e2 : t0 = 49 := Option.some.inj (ht0.symm.trans (by subst e1; kernel_rfl))
  subst e1 e2
  obtain ⟨l0⟩ := cs0
  obtain ⟨f1, u, v, e, -, -⟩ := iface_of_trod Tryz.underlying49 hd0
  have e3 : l0 = [.iface u v] := e
  subst e3
  exact ⟨.iface u v, by simpa using World.var?_cell hg0 hv0 0, .inr ⟨u, v, rfl⟩⟩

end Go.Proofs.YtebahccjaieajaaGreatDoor
