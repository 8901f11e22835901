/- Walks over eighths: what is asked of them, reckoned for all 512. Plain: no program. -/
import Derived.Test.YtaplnfdlcihhpaaK40
namespace Go.Proofs.Ytaplnfdlcihhpaa
set_option maxRecDepth 100000
set_option maxHeartbeats 4000000
open Go.RowKit


theorem wk_one : ∀ A, A < 8 → wkOne A = true := by decide +kernel
theorem wk_r0 : ∀ B, B < 8 → wkRow 0 B = true := by decide +kernel
theorem wk_r1 : ∀ B, B < 8 → wkRow 1 B = true := by decide +kernel
theorem wk_r2 : ∀ B, B < 8 → wkRow 2 B = true := by decide +kernel
theorem wk_r3 : ∀ B, B < 8 → wkRow 3 B = true := by decide +kernel
theorem wk_r4 : ∀ B, B < 8 → wkRow 4 B = true := by decide +kernel
theorem wk_r5 : ∀ B, B < 8 → wkRow 5 B = true := by decide +kernel
theorem wk_r6 : ∀ B, B < 8 → wkRow 6 B = true := by decide +kernel
theorem wk_r7 : ∀ B, B < 8 → wkRow 7 B = true := by decide +kernel
theorem wk_all : ∀ A, A < 8 → ∀ B, B < 8 → ∀ C, C < 8 → wkAll A B C = true := by
  intro A hA B hB C hC
  have h1 : wkRow A B = true := by
    match A, hA with
    | 0, _ => exact wk_r0 B hB
    | 1, _ => exact wk_r1 B hB
    | 2, _ => exact wk_r2 B hB
    | 3, _ => exact wk_r3 B hB
    | 4, _ => exact wk_r4 B hB
    | 5, _ => exact wk_r5 B hB
    | 6, _ => exact wk_r6 B hB
    | 7, _ => exact wk_r7 B hB
  simp only [wkRow, List.all_eq_true] at h1
  exact h1 C (List.mem_range.2 hC)
structure WKF (A B C : Nat) (u d : Nat) : Prop where
  s : (rlong one 0 ((A : Int) + 1)).2 = true
  l : (rlong u d ((A : Int) + 1)).2 = true
  m : (rlong u d ((A : Int) + 2)).2 = true
  gap : fc .gtr .f64 (gapF (wd (rlong one 0 ((A : Int) + 1)).1) (cn .f64 (floatOfInt .f64 ((A : Int) + 1)))) (cn .f64 4562254508917369340) = false
  ls : fc .lss .f32 (rlong u d ((A : Int) + 1)).1 (rlong one 0 ((A : Int) + 1)).1 = false
  ml : fc .leq .f32 (rlong u d ((A : Int) + 2)).1 (rlong u d ((A : Int) + 1)).1 = false
  ok : walkOk u d ((A : Int) + 1) = true
  run : ∀ j, j < 12 → wkTest (A + 1) j (rcAt false u d (A + 1) j).2 (if j = 0 then 0 else (rcAt false u d (A + 1) (j - 1)).2) = true
  last : (rcQ false one 0 ((A : Int) + 1) ((A : Int) + 1)).2 = true
  near : fc .lss .f64 (gapF (wd (rcQ false one 0 ((A : Int) + 1) ((A : Int) + 1)).1) (cn .f64 4607182418800017408)) (cn .f64 4562254508917369340) = true
theorem rlong_get {cu cd n : Nat} (h : walkOk cu cd ((n : Int) + 1) = true) (hf : fin (iterN (rlStep cu cd) n (divF one cu, divF one cu)).2 = true) : rlong cu cd ((n : Int) + 1) = ((iterN (rlStep cu cd) n (divF one cu, divF one cu)).2, true) := by
  rw [rlong_yes h]
  show numB (iterN (rlStep cu cd) n (divF one cu, divF one cu)).2 = _
  rw [numB, hf]; rfl
theorem wkf {A B C : Nat} (hA : A < 8) (hB : B < 8) (hC : C < 8) : WKF A B C (wkU B) (wkD C) := by
  have h := wk_all A hA B hB C hC
  have g := wk_one A hA
  unfold wkAll at h
  unfold wkOne at g
  simp only [seqN_eq, rlK_eq, Bool.and_eq_true, Bool.not_eq_true'] at h g
  rw [rcK_eq, Nat.zero_add] at g
  simp only [Bool.and_eq_true] at g
  obtain ⟨⟨⟨h1, h2⟩, ⟨⟨⟨h3, h4⟩, h5⟩, h6⟩⟩, h7⟩ := h
  obtain ⟨g1, ⟨g2, g3⟩, g4, g5⟩ := g
  have es := rlong_get g1 g2
  have el := rlong_get h1 h3
  have em := rlong_get (n := A + 1) (by rw [show ((A + 1 : Nat) : Int) + 1 = (A : Int) + 2 by omega]; exact h2) h4
  rw [show ((A + 1 : Nat) : Int) + 1 = (A : Int) + 2 by omega] at em
  have ec : rcQ false one 0 ((A : Int) + 1) ((A : Int) + 1) = ((rcAt false one 0 (A + 1) (A + 1)).2, true) := by
    rw [rcQ, g1, show inB ((A : Int) + 1) 0 256 = true by simp [inB]; omega]
    simp only [Bool.and_self, if_true, show ((A : Int) + 1).toNat = A + 1 by omega]
    rw [numB, g4]; rfl
  refine ⟨by rw [es], by rw [el], by rw [em], by rw [es]; exact g3, by rw [es, el]; exact h5, by rw [em, el]; exact h6, h1, ?_, by rw [ec], by rw [ec]; exact g5⟩
  intro j hj
  have := wkRun_eq (wkU B) (wkD C) (A + 1) 12 0 0 h7 j hj
  simpa using this

end Go.Proofs.Ytaplnfdlcihhpaa
