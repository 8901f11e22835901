/- Contracts: StateText by the program. -/
import Derived.Test.YtebahccjaieajaaDoorK108
import Derived.Test.YtebahccjaieajaaDoorK106
import Derived.Test.YtebahccjaieajaaDoorK96
namespace Go.Proofs.YtebahccjaieajaaDoor
set_option linter.unusedSimpArgs false
set_option linter.unusedVariables false
set_option maxRecDepth 100000
set_option maxHeartbeats 4000000
open Go.RowKit
attribute [local go_sem] run_store_float run_store_complex alloc_drewN setCell_drewN
def stTx (l s : Nat) (cs : List Nat) (x : Int) : List UInt8 := hxAll ([l, s].map (cn .f32)) ++ ([59] ++ (hxAll cs ++ ([59] ++ Lib.itoa x)))
def stQ (l s : Nat) (cs : List Nat) (x : Int) : List UInt8 × Bool := if stateB (cn .f32 l) (cn .f32 s) cs x then (stTx l s cs x, true) else ([], false)
theorem stQ_eq (l s : Nat) (cs : List Nat) (x : Int) : stQ l s cs x = if stateB (cn .f32 l) (cn .f32 s) cs x then (stTx l s cs x, true) else ([], false) := rfl
theorem stTx_tx (l s : Nat) (cs : List Nat) (x : Int) : tx (hxAll ([l, s].map (cn .f32))) ++ (⟨#[59]⟩ : ByteArray) ++ tx (hxAll cs) ++ (⟨#[59]⟩ : ByteArray) ++ tx (Lib.itoa x) = tx (stTx l s cs x) := by
  rw [stTx, ← tx_append, ← tx_append, ← tx_append, ← tx_append]
  show _ ++ tx [59] ++ _ ++ tx [59] ++ _ = _
  simp only [tx_append, List.append_assoc]
theorem state_facts {l s : Nat} {cs : List Nat} {x : Int} (h : stateB l s cs x = true) : cs.length ≤ 24 ∧ 0 ≤ x ∧ x ≤ 23 := by
  simp only [stateB, inB, Bool.and_eq_true, decide_eq_true_eq] at h
  omega

theorem i_StateText (l s : Nat) (hl : ∀ x ∈ [l, s], x < 4294967296) (v : Value) (cs : List Nat) (x : Int) (w : World) (hv : SB w v cs) (hdb : w.cell? ⟨8, 15, none⟩ = some (.int .u8 4)) (htab : Lib.TabIs Tryd.prog w "internal/strconv.uint64pow10" .u64 Lib.pow10Tab) :
    Calls Tryd.prog 26 #[.agg #[.float .f32 l, .float .f32 s, v, .int .i64 x]] w fun e w' => e = .returned (.tuple #[.string (tx (stQ l s cs x).1), .bool (stQ l s cs x).2]) ∧ Below w.heap.size w w' := by
  obtain ⟨ao, c, rfl, hlen⟩ := hv.sl.slice
  have HL := Lib.hid hl
  have hdl := block_lt_of_cell hdb
  have HTB := Lib.hid (fun w' (h : Below w.heap.size w w') => tab_keep htab h)
  have HSV := Lib.hid hv
  clear hl htab hv
  have HB0 := Lib.hid (show Below w.heap.size w (w.alloc (.cells #[.float .f32 l, .float .f32 s, .slice ao cs.length c, .int .i64 x] 46)) from (Below.refl _ _).alloc (Nat.le_refl _) _)
  have HV := Lib.hid (fun w hv => i_ValidState l s (.slice ao cs.length c) cs x w hv)
  have HQ := Lib.hid (stQ_eq l s cs x)
  have HF := Lib.hid (fun h => state_facts (l := cn .f32 l) (s := cn .f32 s) (cs := cs) (x := x) h)
  generalize stateB (cn .f32 l) (cn .f32 s) cs x = B at HV HQ HF
  generalize stQ l s cs x = Q at HQ ⊢
  go_enter Tryd.func26, Tryd.ntmps26
  go_wp2_with fail
  refine (HV.out _ (HSV.out.keep ((Below.refl _ _).alloc (Nat.le_refl _) _)).sl).mono ?_; rintro e w1 ⟨rfl, hb⟩
  have hb1 : Below w.heap.size w w1 := HB0.out.trans (hb.mono HB0.out.size)
  have hz1 := hb1.size
  obtain ⟨hcA, hfA⟩ := bcell hb
  have hx0 : w1.cell? ⟨w.heap.size, 0, none⟩ = some (.float .f32 l) := (hcA _ _ (by simp)).trans (by simp)
  have hx1 : w1.cell? ⟨w.heap.size, 1, none⟩ = some (.float .f32 s) := (hcA _ _ (by simp)).trans (by simp)
  have hx2 : w1.cell? ⟨w.heap.size, 2, none⟩ = some (.slice ao cs.length c) := (hcA _ _ (by simp)).trans (by simp)
  have hx3 : w1.cell? ⟨w.heap.size, 3, none⟩ = some (.int .i64 x) := (hcA _ _ (by simp)).trans (by simp)
  have hp1 := block_lt_of_cell hx0
  clear hb hcA hfA HB0
  cases B with
  | false =>
    go_wp2_with fail
    go_ret2
    exact ⟨by rw [HQ.out]; rfl, hb1⟩
  | true =>
    have HQ2 := Lib.hid (show Q = (stTx l s cs x, true) from HQ.out)
    obtain ⟨f1, f2, f3⟩ := HF.out rfl
    have HX := Lib.hid (stTx_tx l s cs x)
    have z1 : (tx (hxAll ([l, s].map (cn .f32)))).size ≤ 1000000 := by rw [tx_size]; exact hxAll_len _ (by simp)
    have z2 : (tx (hxAll cs)).size ≤ 1000000 := by rw [tx_size]; exact hxAll_len _ (by omega)
    have z3 : (tx (Lib.itoa x)).size ≤ 1000000 := by rw [tx_size]; have := itoa_le (n := x) (by omega) (by omega); omega
    have HN1 := Lib.hid (fun w v hv hd => i_NumbersText v ([l, s].map (cn .f32)) w hv (by simp) hd)
    have HN2 := Lib.hid (fun w v hv hd => i_NumbersText v cs w hv (by omega) hd)
    have HD := Lib.hid (fun w ht => i_Decimal x (by omega) (by omega) w ht)
    have HLT := Lib.hid (SB.lit w1 [l, s] 34 (0, 0) (by simp) HL.out rfl rfl)
    generalize tx (hxAll ([l, s].map (cn .f32))) = t1 at *
    generalize tx (hxAll cs) = t2 at *
    generalize tx (Lib.itoa x) = t3 at *
    have n1 : ¬ 9223372036854775807 < t1.size + 1 := by omega
    have n2 : ¬ 9223372036854775807 < t1.size + 1 + t2.size := by omega
    have n3 : ¬ 9223372036854775807 < t1.size + 1 + t2.size + 1 := by omega
    have n4 : ¬ 9223372036854775807 < t1.size + 1 + t2.size + 1 + t3.size := by omega
    have hba := hb1.alloc hz1 (.cells ([l, s].map (Value.float .f32)).toArray 34)
    have hca := (hba.cell (p := ⟨8, 15, none⟩) hdl).trans hdb
    go_wp2_with fail
    refine (HN1.out _ _ HLT.out hca).mono ?_; rintro e w2 ⟨rfl, hb⟩
    have hb2 := hba.trans (hb.mono hba.size)
    have hz2 := hb2.size
    obtain ⟨hcA, hfA⟩ := bcell hb
    have hp2 : w.heap.size < (w1.alloc (.cells ([l, s].map (Value.float .f32)).toArray 34)).heap.size := by simp; omega
    have hy2 := (hcA _ 2 hp2).trans ((World.cell?_alloc_lt _ _ _ (by simpa using hp1)).trans hx2)
    have hy3 := (hcA _ 3 hp2).trans ((World.cell?_alloc_lt _ _ _ (by simpa using hp1)).trans hx3)
    have hq2 := block_lt_of_cell hy2
    clear hb hcA hfA hx0 hx1 hx2 hx3 hca
    have hcb := (hb2.cell (p := ⟨8, 15, none⟩) hdl).trans hdb
    go_wp2_with fail
    refine (HN2.out _ _ (HSV.out.keep hb2) hcb).mono ?_; rintro e w3 ⟨rfl, hb⟩
    have hb3 := hb2.trans (hb.mono hz2)
    obtain ⟨hcA, hfA⟩ := bcell hb
    have hv3 := (hcA _ 3 hq2).trans hy3
    clear hb hcA hfA hy2 hy3 hcb
    go_wp2_with fail
    refine (HD.out _ (HTB.out _ hb3)).mono ?_; rintro e w4 ⟨rfl, hb⟩
    have hb4 := hb3.trans (hb.mono hb3.size)
    clear hb
    go_wp2_with fail
    go_ret2
    exact ⟨by rw [HQ2.out, ← HX.out]; rfl, hb4⟩

end Go.Proofs.YtebahccjaieajaaDoor
