/- Contracts: StateText by the reference. -/
import Derived.Test.YtebahccjaieajaaDoorK110
namespace Go.Proofs.YtebahccjaieajaaDoor
set_option linter.unusedSimpArgs false
set_option linter.unusedVariables false
set_option maxRecDepth 100000
set_option maxHeartbeats 4000000
open Go.RowKit
attribute [local go_sem] run_store_float run_store_complex alloc_drewN setCell_drewN

theorem s_StateText (l s : Nat) (hl : ∀ x ∈ [l, s], x < 4294967296) (v : Value) (cs : List Nat) (x : Int) (w : World) (hv : SB w v cs) :
    Calls Tryd.prog 24 #[.agg #[.float .f32 l, .float .f32 s, v, .int .i64 x]] w fun e w' => e = .returned (.tuple #[.string (tx (stQ l s cs x).1), .bool (stQ l s cs x).2]) ∧ Below w.heap.size w w' := by
  obtain ⟨ao, c, rfl, hlen⟩ := hv.sl.slice
  have HL := Lib.hid hl
  have HSV := Lib.hid hv
  clear hl hv
  have HB0 := Lib.hid (show Below w.heap.size w (w.alloc (.cells #[.float .f32 l, .float .f32 s, .slice ao cs.length c, .int .i64 x] 46)) from (Below.refl _ _).alloc (Nat.le_refl _) _)
  have HV := Lib.hid (s_l04Is0 w.heap.size l s (.slice ao cs.length c) cs x)
  have HQ := Lib.hid (stQ_eq l s cs x)
  have HF := Lib.hid (fun h => state_facts (l := cn .f32 l) (s := cn .f32 s) (cs := cs) (x := x) h)
  generalize stateB (cn .f32 l) (cn .f32 s) cs x = B at HV HQ HF
  generalize stQ l s cs x = Q at HQ ⊢
  go_enter Tryd.func24, Tryd.ntmps24
  go_wp2_with fail
  refine (HV.out _ (by simp) (by simp) (by simp) (by simp) (HSV.out.keep ((Below.refl _ _).alloc (Nat.le_refl _) _)).sl).mono ?_; rintro e w1 ⟨rfl, hd⟩
  have hb := hd.below (w.alloc (.cells #[.float .f32 l, .float .f32 s, .slice ao cs.length c, .int .i64 x] 46)).heap.size
  have hb1 : Below w.heap.size w w1 := HB0.out.trans (hb.mono HB0.out.size)
  have hz1 := hb1.size
  obtain ⟨hcA, hfA⟩ := bcell hb
  have hx0 : w1.cell? ⟨w.heap.size, 0, none⟩ = some (.float .f32 l) := (hcA _ _ (by simp)).trans (by simp)
  have hx1 : w1.cell? ⟨w.heap.size, 1, none⟩ = some (.float .f32 s) := (hcA _ _ (by simp)).trans (by simp)
  have hx2 : w1.cell? ⟨w.heap.size, 2, none⟩ = some (.slice ao cs.length c) := (hcA _ _ (by simp)).trans (by simp)
  have hx3 : w1.cell? ⟨w.heap.size, 3, none⟩ = some (.int .i64 x) := (hcA _ _ (by simp)).trans (by simp)
  have hp1 := block_lt_of_cell hx0
  clear hb hcA hfA HB0 hd
  cases B with
  | false =>
    go_wp2_with fail
    go_ret2
    exact ⟨by rw [HQ.out]; rfl, hb1⟩
  | true =>
    have HQ2 := Lib.hid (show Q = (stTx l s cs x, true) from HQ.out)
    obtain ⟨f1, f2, f3⟩ := HF.out rfl
    go_wp2_with fail
    refine (s_l08State w.heap.size l s HL.out _ cs x _ hp1 (HSV.out.keep hb1) hx0 hx1 hx2 hx3 f1 f2 f3).mono ?_; rintro e w2 ⟨rfl, hb⟩
    have hb2 := hb1.trans (hb.mono hz1)
    go_wp2_with fail
    go_ret2
    exact ⟨by rw [HQ2.out]; rfl, hb2⟩

end Go.Proofs.YtebahccjaieajaaDoor
