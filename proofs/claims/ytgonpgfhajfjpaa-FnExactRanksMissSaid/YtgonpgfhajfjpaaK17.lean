/- Contracts: how far two series are apart. -/
import Derived.Test.YtgonpgfhajfjpaaK16
import Derived.Test.YtgonpgfhajfjpaaK13
namespace Go.Proofs.Ytgonpgfhajfjpaa
set_option linter.unusedSimpArgs false
set_option linter.unusedVariables false
set_option maxRecDepth 100000
set_option maxHeartbeats 4000000
open Go.RowKit
attribute [local go_sem] run_store_float run_store_complex alloc_drewN setCell_drewN

/-- What an operation gives, as an equation for every world. -/
theorem run_ar_all (P : Program) (op : BinOp) (hop : isAr op = true) : ∃ (R N : Nat → Nat → World → Nat), ∀ t x y w, (binOp op t (.float .f32 x) (.float .f32 y)).run P w = .ok (.float .f32 (R x y w)) (w.drewN (N x y w)) ∧ cn .f32 (R x y w) = ar op .f32 (cn .f32 x) (cn .f32 y) ∧ R x y w < 4294967296 := by
  refine ⟨fun x y w => Classical.choose (run_ar (P := P) w op 0 .f32 x y hop), fun x y w => Classical.choose (Classical.choose_spec (run_ar (P := P) w op 0 .f32 x y hop)), fun t x y w => ?_⟩
  have := Classical.choose_spec (Classical.choose_spec (run_ar (P := P) w op 0 .f32 x y hop))
  refine ⟨?_, this.2.1, this.2.2⟩
  rw [← this.1]
  cases op <;> first | rfl | cases hop

def lessL (cs ds : List Nat) (n : Nat) : List Nat := (List.range n).map fun i => subF (cs.getD i 0) (ds.getD i 0)
theorem lessL_length (cs ds : List Nat) (n : Nat) : (lessL cs ds n).length = n := by simp [lessL]
theorem lessL_succ (cs ds : List Nat) (n : Nat) : lessL cs ds (n + 1) = lessL cs ds n ++ [subF (cs.getD n 0) (ds.getD n 0)] := by simp [lessL, List.range_succ]
theorem lessL_get (cs ds : List Nat) {n i : Nat} (h : i < n) : (lessL cs ds n).getD i 0 = subF (cs.getD i 0) (ds.getD i 0) := by
  simp [lessL, List.getD_eq_getElem?_getD, List.getElem?_map, List.getElem?_range h]
def dotL (cs ds : List Nat) : Nat → Nat
  | 0 => 0
  | k + 1 => addF (dotL cs ds k) (mulF (cs.getD k 0) (ds.getD k 0))
def sqsL (f : Nat → Nat) : Nat → Nat
  | 0 => 0
  | k + 1 => addF (sqsL f k) (mulF (f k) (f k))
theorem dot_sqs {cs : List Nat} {f : Nat → Nat} (n : Nat) (h : ∀ i, i < n → cs.getD i 0 = f i) : dotL cs cs n = sqsL f n := by
  induction n with
  | zero => rfl
  | succ n ih =>
    show addF _ _ = addF _ _
    rw [ih (fun i hi => h i (by omega)), h n (by omega)]
def farL (cs ds : List Nat) : Nat := rootF (sqsL (fun i => subF (cs.getD i 0) (ds.getD i 0)) cs.length)
theorem far_less (cs ds : List Nat) : rootF (dotL (lessL cs ds cs.length) (lessL cs ds cs.length) cs.length) = farL cs ds := by
  rw [farL, dot_sqs cs.length (f := fun i => subF (cs.getD i 0) (ds.getD i 0)) (fun i hi => lessL_get cs ds hi)]
def twoOk (cs ds : List Nat) : Bool := series cs && series ds && decide (cs.length = ds.length)
def farQ (cs ds : List Nat) : Nat × Bool := if twoOk cs ds then numB (farL cs ds) else (0, false)
theorem farQ_no {cs ds : List Nat} (h : twoOk cs ds = false) : farQ cs ds = (0, false) := by rw [farQ, h]; rfl
theorem farQ_yes {cs ds : List Nat} (h : twoOk cs ds = true) : farQ cs ds = numB (farL cs ds) := by rw [farQ, h]; rfl
theorem two_len {cs ds : List Nat} (h : twoOk cs ds = true) : cs.length = ds.length ∧ cs.length ≤ 96 ∧ 1 ≤ cs.length := by
  simp only [twoOk, Bool.and_eq_true, decide_eq_true_eq] at h
  have := series_len h.1.1
  exact ⟨h.2, by omega, by omega⟩


theorem i_areTwo (u v : Value) (cs ds : List Nat) (w : World) (hu : SL w u cs) (hv : SL w v ds) :
    Calls Try.prog 33 #[u, v] w fun e w' => e = .returned (.bool (twoOk cs ds)) ∧ Dr w w' := by
  obtain ⟨ao, c, rfl, hlen⟩ := hu.slice
  obtain ⟨bo, d, rfl, hlen2⟩ := hv.slice
  by_cases hl : cs.length = ds.length
  · have HL := Lib.hid hl
    have hl2 : ((cs.length : Int) == (ds.length : Int)) = true := by simp; omega
    clear hl
    go_enter Try.func33, Try.ntmps33
    go_wp2_with (first
      | (go_at_call_of 43 (Value.slice ao cs.length c); refine (i_IsSeries _ cs _ hu).mono ?_; rintro e w1 ⟨rfl, n1, rfl⟩)
      | (go_at_call_of 43 (Value.slice bo ds.length d); refine (i_IsSeries _ ds _ (hv.drewN _)).mono ?_; rintro e w1 ⟨rfl, n2, rfl⟩))
    all_goals
      go_ret
      refine ⟨ret_bool ?_, Dr.mk _ _⟩
      have h := HL.out
      first | (simp [twoOk, h, *]; done) | (simp_all [twoOk]; done) | trace_state
  · have HL := Lib.hid hl
    have hl2 : ((cs.length : Int) == (ds.length : Int)) = false := by simp; omega
    clear hl
    go_enter Try.func33, Try.ntmps33
    go_wp2_with (first
      | (go_at_call_of 43 (Value.slice ao cs.length c); refine (i_IsSeries _ cs _ hu).mono ?_; rintro e w1 ⟨rfl, n1, rfl⟩)
      | (go_at_call_of 43 (Value.slice bo ds.length d); refine (i_IsSeries _ ds _ (hv.drewN _)).mono ?_; rintro e w1 ⟨rfl, n2, rfl⟩))
    all_goals
      go_ret
      refine ⟨ret_bool ?_, Dr.mk _ _⟩
      have h := HL.out
      first | (simp [twoOk, h, *]; done) | (simp_all [twoOk]; done) | trace_state

end Go.Proofs.Ytgonpgfhajfjpaa
