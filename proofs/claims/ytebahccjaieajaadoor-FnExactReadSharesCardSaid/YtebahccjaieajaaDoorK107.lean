/- Contracts: SharesText of both. -/
import Derived.Test.YtebahccjaieajaaDoorK106
namespace Go.Proofs.YtebahccjaieajaaDoor
set_option linter.unusedSimpArgs false
set_option linter.unusedVariables false
set_option maxRecDepth 100000
set_option maxHeartbeats 4000000
open Go.RowKit
attribute [local go_sem] run_store_float run_store_complex alloc_drewN setCell_drewN
def sh4 (a b c d : Nat) : List Nat := [a, b, c, d].map (cn .f32)
def shQ (a b c d : Nat) : List UInt8 × Bool := if sharesB (cn .f32 a) (cn .f32 b) (cn .f32 c) (cn .f32 d) then (hxAll (sh4 a b c d), true) else ([], false)
theorem shQ_eq (a b c d : Nat) : shQ a b c d = if sharesB (cn .f32 a) (cn .f32 b) (cn .f32 c) (cn .f32 d) then (hxAll (sh4 a b c d), true) else ([], false) := rfl

theorem i_SharesText (a b c d : Nat) (hl : ∀ x ∈ [a, b, c, d], x < 4294967296) (w : World) (hdb : w.cell? ⟨8, 15, none⟩ = some (.int .u8 4)) :
    Calls Tryd.prog 22 #[.agg #[.float .f32 a, .float .f32 b, .float .f32 c, .float .f32 d]] w fun e w' => e = .returned (.tuple #[.string (tx (shQ a b c d).1), .bool (shQ a b c d).2]) ∧ Below w.heap.size w w' := by
  have HL := Lib.hid hl
  have hdl := block_lt_of_cell hdb
  clear hl
  have HV := Lib.hid (i_ValidShares a b c d)
  have HQ := Lib.hid (shQ_eq a b c d)
  generalize sharesB (cn .f32 a) (cn .f32 b) (cn .f32 c) (cn .f32 d) = B at HV HQ
  generalize shQ a b c d = Q at HQ ⊢
  have HB0 := Lib.hid (show Below w.heap.size w (w.alloc (.cells #[.float .f32 a, .float .f32 b, .float .f32 c, .float .f32 d] 38)) from (Below.refl _ _).alloc (Nat.le_refl _) _)
  go_enter Tryd.func22, Tryd.ntmps22
  go_wp2_with fail
  refine (HV.out _).mono ?_; rintro e w1 ⟨rfl, hb⟩
  have hb1 : Below w.heap.size w w1 := HB0.out.trans (hb.mono HB0.out.size)
  have hz1 := hb1.size
  obtain ⟨hcA, hfA⟩ := bcell hb
  have hx0 : w1.cell? ⟨w.heap.size, 0, none⟩ = some (.float .f32 a) := (hcA _ _ (by simp)).trans (by simp)
  have hx1 : w1.cell? ⟨w.heap.size, 1, none⟩ = some (.float .f32 b) := (hcA _ _ (by simp)).trans (by simp)
  have hx2 : w1.cell? ⟨w.heap.size, 2, none⟩ = some (.float .f32 c) := (hcA _ _ (by simp)).trans (by simp)
  have hx3 : w1.cell? ⟨w.heap.size, 3, none⟩ = some (.float .f32 d) := (hcA _ _ (by simp)).trans (by simp)
  clear hb hcA hfA HB0
  cases B with
  | false =>
    go_wp2_with fail
    go_ret2
    exact ⟨by rw [HQ.out]; rfl, hb1⟩
  | true =>
    go_wp2_with fail
    refine (i_sharesNumbers a b c d HL.out _).mono ?_; rintro e w2 ⟨⟨v, rfl, hv⟩, hb⟩
    have hb2 := hb1.trans (hb.mono hz1)
    go_wp2_with fail
    refine (i_NumbersText v _ _ hv (by simp) ((hb2.cell (p := ⟨8, 15, none⟩) hdl).trans hdb)).mono ?_; rintro e w3 ⟨rfl, hb3⟩
    have hb4 := hb2.trans (hb3.mono hb2.size)
    have HQ2 := Lib.hid (show Q = (hxAll (sh4 a b c d), true) from HQ.out)
    go_wp2_with fail
    go_ret2
    exact ⟨by rw [HQ2.out]; rfl, hb4⟩

theorem s_SharesText (a b c d : Nat) (hl : ∀ x ∈ [a, b, c, d], x < 4294967296) (w : World) :
    Calls Tryd.prog 20 #[.agg #[.float .f32 a, .float .f32 b, .float .f32 c, .float .f32 d]] w fun e w' => e = .returned (.tuple #[.string (tx (shQ a b c d).1), .bool (shQ a b c d).2]) ∧ Below w.heap.size w w' := by
  have HL := Lib.hid hl
  clear hl
  have HB0 := Lib.hid (show Below w.heap.size w (w.alloc (.cells #[.float .f32 a, .float .f32 b, .float .f32 c, .float .f32 d] 38)) from (Below.refl _ _).alloc (Nat.le_refl _) _)
  have HV := Lib.hid (s_l04Shares0 w.heap.size a b c d)
  have HQ := Lib.hid (shQ_eq a b c d)
  generalize sharesB (cn .f32 a) (cn .f32 b) (cn .f32 c) (cn .f32 d) = B at HV HQ
  generalize shQ a b c d = Q at HQ ⊢
  go_enter Tryd.func20, Tryd.ntmps20
  go_wp2_with fail
  refine (HV.out _ (by simp) (by simp) (by simp) (by simp)).mono ?_; rintro e w1 ⟨rfl, hd⟩
  have hb := hd.below (w.alloc (.cells #[.float .f32 a, .float .f32 b, .float .f32 c, .float .f32 d] 38)).heap.size
  have hb1 : Below w.heap.size w w1 := HB0.out.trans (hb.mono HB0.out.size)
  have hz1 := hb1.size
  obtain ⟨hcA, hfA⟩ := bcell hb
  have hx0 : w1.cell? ⟨w.heap.size, 0, none⟩ = some (.float .f32 a) := (hcA _ _ (by simp)).trans (by simp)
  have hx1 : w1.cell? ⟨w.heap.size, 1, none⟩ = some (.float .f32 b) := (hcA _ _ (by simp)).trans (by simp)
  have hx2 : w1.cell? ⟨w.heap.size, 2, none⟩ = some (.float .f32 c) := (hcA _ _ (by simp)).trans (by simp)
  have hx3 : w1.cell? ⟨w.heap.size, 3, none⟩ = some (.float .f32 d) := (hcA _ _ (by simp)).trans (by simp)
  have hp1 := block_lt_of_cell hx0
  clear hb hcA hfA HB0 hd HV
  cases B with
  | false =>
    go_wp2_with fail
    go_ret2
    exact ⟨by rw [HQ.out]; rfl, hb1⟩
  | true =>
    go_wp2_with fail
    refine (s_l08Shares0 w.heap.size a b c d HL.out _ hp1 hx0 hx1 hx2 hx3).mono ?_; rintro e w2 ⟨⟨v, rfl, hv⟩, hb⟩
    have hb2 := hb1.trans (hb.mono hz1)
    go_wp2_with fail
    refine (s_l01NText v _ _ hv (by simp)).mono ?_; rintro e w3 ⟨rfl, hb3⟩
    have hb4 := hb2.trans (hb3.mono hb2.size)
    have HQ2 := Lib.hid (show Q = (hxAll (sh4 a b c d), true) from HQ.out)
    go_wp2_with fail
    go_ret2
    exact ⟨by rw [HQ2.out]; rfl, hb4⟩

end Go.Proofs.YtebahccjaieajaaDoor
