/- Contracts: stable sorting of few integers by a function that compares two. -/
import Derived.Test.YtkkomajokdlkeaaQ28
import Derived.Test.YtkkomajokdlkeaaQ38
namespace Go.Proofs.Ytkkomajokdlkeaa
set_option linter.unusedSimpArgs false
set_option linter.unusedVariables false
set_option maxRecDepth 100000
set_option maxHeartbeats 4000000
open Go.RowKit
attribute [local go_sem] run_store_float run_store_complex alloc_drewN setCell_drewN
/-- Two neighbours changed. -/
def swapI (X : List Int) (j : Nat) : List Int := (X.set (j + 1) (X.getD j 0)).set j (X.getD (j + 1) 0)
def insI (cmp : Int → Int → Int) : List Int → Nat → List Int
  | X, 0 => X
  | X, j + 1 => if cmp (X.getD (j + 1) 0) (X.getD j 0) < 0 then insI cmp (swapI X j) j else X
def isortI (cmp : Int → Int → Int) (X : List Int) : Nat → List Int
  | 0 => X
  | i + 1 => insI cmp (isortI cmp X i) (i + 1)
theorem swapI_length (X : List Int) (j : Nat) : (swapI X j).length = X.length := by simp [swapI]
theorem insI_length (cmp : Int → Int → Int) : ∀ (j : Nat) (X : List Int), (insI cmp X j).length = X.length
  | 0, _ => rfl
  | j + 1, X => by rw [insI]; split; rw [insI_length cmp j, swapI_length]; rfl
theorem isortI_length (cmp : Int → Int → Int) (X : List Int) : ∀ i, (isortI cmp X i).length = X.length
  | 0 => rfl
  | i + 1 => by rw [isortI, insI_length, isortI_length cmp X i]
theorem mem_set {X : List Int} {i : Nat} {x y : Int} (h : y ∈ X.set i x) : y ∈ X ∨ y = x := by
  rcases List.mem_or_eq_of_mem_set h with h | h
  · exact .inl h
  · exact .inr h
theorem getD_mem {X : List Int} {i : Nat} (h : i < X.length) : X.getD i 0 ∈ X := by
  rw [List.getD_eq_getElem?_getD, List.getElem?_eq_getElem h]; exact List.getElem_mem h
theorem swapI_mem {D : Int → Prop} {X : List Int} {j : Nat} (hj : j + 1 < X.length) (h : ∀ a ∈ X, D a) : ∀ a ∈ swapI X j, D a := by
  intro a ha
  unfold swapI at ha
  rcases mem_set ha with h1 | rfl
  · rcases mem_set h1 with h2 | rfl
    · exact h a h2
    · exact h _ (getD_mem (by omega))
  · exact h _ (getD_mem hj)
theorem insI_mem {D : Int → Prop} (cmp : Int → Int → Int) : ∀ (j : Nat) (X : List Int), j < X.length → (∀ a ∈ X, D a) → ∀ a ∈ insI cmp X j, D a
  | 0, _, _, h => h
  | j + 1, X, hj, h => by
    rw [insI]
    split
    · exact insI_mem cmp j _ (by rw [swapI_length]; omega) (swapI_mem hj h)
    · exact h
theorem isortI_mem {D : Int → Prop} (cmp : Int → Int → Int) {X : List Int} (h : ∀ a ∈ X, D a) : ∀ i, i < X.length → ∀ a ∈ isortI cmp X i, D a
  | 0, _ => h
  | i + 1, hi => insI_mem cmp _ _ (by rw [isortI_length]; exact hi) (isortI_mem cmp h i (by omega))
/-- A function value that compares two integers and only reads. -/
def CmpsI (P : Program) (F : Nat) (p : Value) (w : World) (r : Option Nat) (D : Int → Prop) (cmp : Int → Int → Int) : Prop :=
  ∀ a b w', D a → D b → w.grownBy w' r → Calls P F #[.int .i64 a, .int .i64 b, p] w' fun e w'' => e = .returned (.int .i64 (cmp a b)) ∧ Dr w' w''
theorem grown_dN {w w' : World} {r : Option Nat} (h : w.grownBy w' r) (n : Nat) : w.grownBy (w'.drewN n) r := grown_transW h (grown_of_below ((Dr.mk w' n).below _) _)

theorem f_insSort (F : Nat) (p : Value) (D : Int → Prop) (cmp : Int → Int → Int) (hE : ∀ (args : Array Value) (w : World), (callFunc F args).run Try.prog w = .ok (.enter F args) w) (v : Value) (xs : List Int) (lo : Nat) (w : World)
    (hv : GO (Value.int .i64) 2 lo w v xs) (hl : xs.length < 1000) (h1 : 1 ≤ xs.length) (hD : ∀ a ∈ xs, D a) (hF : CmpsI Try.prog F p w v.ownBlock D cmp) :
    Calls Try.prog 149 #[v, .int .i64 0, .int .i64 xs.length, .func (.func F) #[] #[p]] w fun e w' => e = .returned (.tuple #[]) ∧ GO (Value.int .i64) 2 lo w' v (isortI cmp xs (xs.length - 1)) ∧ w.grownBy w' v.ownBlock ∧ (∀ B, (∀ g, v.ownBlock = some g → B ≤ g) → ∀ s, Below B s w → Below B s w') := by
  obtain ⟨ao, c, rfl, -, -⟩ := hv.slice
  have HV := Lib.hid hv
  have HF := Lib.hid hF
  have HD := Lib.hid (isortI_mem cmp hD)
  have HIL := Lib.hid (isortI_length cmp xs)
  clear hv hF hD
  obtain ⟨n, hn⟩ : ∃ n, n = xs.length := ⟨_, rfl⟩
  have HN := Lib.hid hn
  rw [← hn] at h1 hl ⊢
  clear hn
  go_enter Try.func149, Try.ntmps149
  go_wp2_with fail
  go_loopw [8] (fun i wr => ∃ k : Nat, k + 1 ≤ n ∧ i = .int .i64 ((k : Int) + 1) ∧ Hid (GO (Value.int .i64) 2 lo wr (.slice ao n c) (isortI cmp xs k)) ∧ Hid (w.grownBy wr (Value.slice ao n c).ownBlock) ∧ Hid (∀ B, (∀ g, (Value.slice ao n c).ownBlock = some g → B ≤ g) → ∀ s, Below B s w → Below B s wr)) (fun i _ => n - (intOf i).toNat)
  case atStart => exact ⟨0, h1, by go_num, Lib.hid (by rw [HN.out]; exact HV.out), Lib.hid (grown_of_below (Below.refl _ w) _), Lib.hid (fun _ _ _ h => h)⟩
  case round =>
    obtain ⟨k, hk, rfl, HG, HR, HB⟩ := hrel
    by_cases hlt : k + 1 < n
    · have hki : (k : Int) + 1 < (n : Int) := by omega
      obtain ⟨wo, hwo⟩ : ∃ wo, wo = wr := ⟨_, rfl⟩
      subst hwo
      go_wp2_with fail
      go_loopw [9] (fun jv wr => ∃ (j : Nat) (Y : List Int), j ≤ k + 1 ∧ jv = .int .i64 (j : Int) ∧ Hid (Y.length = n) ∧ Hid (∀ a ∈ Y, D a) ∧ Hid (insI cmp Y j = isortI cmp xs (k + 1)) ∧ Hid (GO (Value.int .i64) 2 lo wr (.slice ao n c) Y) ∧ Hid (w.grownBy wr (Value.slice ao n c).ownBlock) ∧ Hid (∀ B, (∀ g, (Value.slice ao n c).ownBlock = some g → B ≤ g) → ∀ s, Below B s w → Below B s wr)) (fun jv _ => (intOf jv).toNat)
      case atStart => exact ⟨k + 1, isortI cmp xs k, Nat.le_refl _, by go_num, Lib.hid (by rw [HIL.out, HN.out]), Lib.hid (HD.out k (by have := HN.out; omega)), Lib.hid rfl, HG, HR, HB⟩
      case round =>
        clear HG HR HB
        obtain ⟨j, Y, hj, rfl, HYL, HYD, HIN, HG, HR, HB⟩ := hrel
        have hgi := HG.out
        obtain ⟨ji, hji⟩ : ∃ ji : Int, ji = (j : Int) := ⟨_, rfl⟩
        rw [← hji]
        have HJI := Lib.hid hji
        rcases j with _ | j
        · have hj0 : ¬ (0 < ji) := by omega
          have hd0 : decide (0 < ji) = false := decide_eq_false hj0
          have HX := Lib.hid (show Y = isortI cmp xs (k + 1) from HIN.out)
          clear hji hgi
          go_wp2_with fail
          go_quiet (fail)
          go_wp2_with fail
          refine ⟨⟨k + 1, by omega, by go_num, ?_, ?_, ?_⟩, by simp [intOf]; omega⟩
          · rw [← HX.out]; exact Lib.hid (GO.drewN HG.out _)
          · exact Lib.hid (grown_dN HR.out _)
          · exact Lib.hid (fun B hB s h => below_drewN (HB.out B hB s h) _)
        · have hj1 : j + 1 < Y.length := by rw [HYL.out]; omega
          obtain ⟨g, cap, hv1, hg1, hg2, hc1, hf1, hs1⟩ := HG.out.at_ hj1
          obtain ⟨g', cap', hv2, -, -, hc2, hf2, -⟩ := HG.out.at_ (k := j) (by omega)
          simp only [Value.slice.injEq] at hv1
          obtain ⟨rfl, -, -⟩ := hv1
          simp only [Value.slice.injEq, Option.some.injEq, Addr.mk.injEq, and_true] at hv2
          obtain ⟨rfl, -, -⟩ := hv2
          have e1 : Y[j + 1] = Y.getD (j + 1) 0 := by rw [List.getD_eq_getElem?_getD, List.getElem?_eq_getElem hj1]; rfl
          have e2 : Y[j]'(by omega) = Y.getD j 0 := by rw [List.getD_eq_getElem?_getD, List.getElem?_eq_getElem (by omega)]; rfl
          rw [e1] at hc1
          rw [e2] at hc2
          have HCM := Lib.hid (fun (w' : World) (h : w.grownBy w' (Value.slice (some ⟨g, 0, none⟩) n c).ownBlock) => HF.out (Y.getD (j + 1) 0) (Y.getD j 0) w' (HYD.out _ (getD_mem hj1)) (HYD.out _ (getD_mem (by omega))) h)
          have HCQ := Lib.hid (fun m => HCM.out (wr.drewN m) (grown_dN HR.out m))
          have HCQ0 := Lib.hid (HCM.out wr HR.out)
          have HE := hE
          have HSW := Lib.hid (show insI cmp Y (j + 1) = if cmp (Y.getD (j + 1) 0) (Y.getD j 0) < 0 then insI cmp (swapI Y j) j else Y from rfl)
          have HSY := Lib.hid (show swapI Y j = (Y.set (j + 1) (Y.getD j 0)).set j (Y.getD (j + 1) 0) from rfl)
          obtain ⟨h3, h4⟩ := hs1 (Y.getD j 0)
          obtain ⟨g'', cap'', hv3, -, -, -, -, hs2⟩ := h3.at_ (k := j) (by rw [List.length_set]; omega)
          simp only [Value.slice.injEq, Option.some.injEq, Addr.mk.injEq, and_true] at hv3
          obtain ⟨rfl, -, -⟩ := hv3
          obtain ⟨h5, h6⟩ := hs2 (Y.getD (j + 1) 0)
          rw [← HSY.out] at h5
          have HG5 := Lib.hid h5
          have HR5 := Lib.hid (grown_transW (grown_transW HR.out h4) h6)
          clear h3 h4 h5 h6 hs1 hs2 e1 e2 hgi
          have m1 : 0 < ji := by omega
          have m2 : 0 ≤ ji := by omega
          have m3 : ji < (n : Int) := by have := HYL.out; omega
          have m4 : ji.toNat = j + 1 := by omega
          have m5 : 0 ≤ ji - 1 := by omega
          have m6 : ji - 1 < (n : Int) := by omega
          have m7 : (ji - 1).toNat = j := by omega
          have m8 : IntKind.i64.wrap (ji - 1) = ji - 1 := by rw [IntKind.wrap_i64]; omega
          have m9 : j ≠ j + 1 := by omega
          have m10 : j + 1 ≠ j := by omega
          clear hji
          by_cases hcmp : cmp (Y.getD (j + 1) 0) (Y.getD j 0) < 0
          · have hcd : decide (cmp (Y.getD (j + 1) 0) (Y.getD j 0) < 0) = true := decide_eq_true hcmp
            have HNX := Lib.hid (show insI cmp (swapI Y j) j = isortI cmp xs (k + 1) by rw [← HIN.out, HSW.out, if_pos hcmp])
            generalize Y.getD (j + 1) 0 = ya at *
            generalize Y.getD j 0 = yb at *
            generalize cmp ya yb = cv at *
            go_wp2_with fail
            go_quiet ((first | exact quiet_dr (HCQ0.out) | exact quiet_dr2 (HCQ.out _) | exact quiet_dr (HCQ.out _)))
            go_wp2_with fail
            have HG6 := Lib.hid (show GO (Value.int .i64) 2 lo (((wr.drewN nq).setCell ⟨g, j + 1, none⟩ (.int .i64 yb)).setCell ⟨g, j, none⟩ (.int .i64 ya)) (.slice (some ⟨g, 0, none⟩) n c) (swapI Y j) from GO.drewN HG5.out nq)
            have HR6 := Lib.hid (show w.grownBy (((wr.drewN nq).setCell ⟨g, j + 1, none⟩ (.int .i64 yb)).setCell ⟨g, j, none⟩ (.int .i64 ya)) (Value.slice (some ⟨g, 0, none⟩) n c).ownBlock from grown_dN HR5.out nq)
            clear HG5 HR5
            have hc1' : (wr.drewN nq).cell? ⟨g, j + 1, none⟩ = some (.int .i64 ya) := hc1
            have hc2' : (wr.drewN nq).cell? ⟨g, j, none⟩ = some (.int .i64 yb) := hc2
            have hf1' : (wr.drewN nq).frozen? ⟨g, j + 1, none⟩ = false := hf1
            have hf2' : (wr.drewN nq).frozen? ⟨g, j, none⟩ = false := hf2
            have HB6 := Lib.hid (fun B hB s h => below_drewN (HB.out B hB s h) nq)
            clear hc1 hc2 hf1 hf2 HCQ HCQ0 HCM HB
            generalize World.drewN wr nq = w6 at *
            go_region
            go_wp2_with fail
            refine ⟨⟨j, swapI Y j, by omega, by (have := HJI.out; congr 1; omega), Lib.hid (by rw [swapI_length, HYL.out]), Lib.hid (swapI_mem hj1 HYD.out), HNX, Lib.hid (GO.drew HG6.out), Lib.hid (grown_transW HR6.out (grown_of_below (Below.drew (Below.refl _ _)) _)), ?_⟩, by simp [intOf]; have := HJI.out; omega⟩
            exact Lib.hid (fun B hB s h => (((HB6.out B hB s h).setCell (p := ⟨g, j + 1, none⟩) (hB g rfl) (.int .i64 yb)).setCell (p := ⟨g, j, none⟩) (hB g rfl) (.int .i64 ya)).drew)
          · have hcd : decide (cmp (Y.getD (j + 1) 0) (Y.getD j 0) < 0) = false := decide_eq_false hcmp
            have HX := Lib.hid (show Y = isortI cmp xs (k + 1) by rw [← HIN.out, HSW.out, if_neg hcmp])
            generalize Y.getD (j + 1) 0 = ya at *
            generalize Y.getD j 0 = yb at *
            generalize cmp ya yb = cv at *
            go_wp2_with fail
            go_quiet ((first | exact quiet_dr (HCQ0.out) | exact quiet_dr2 (HCQ.out _) | exact quiet_dr (HCQ.out _)))
            go_wp2_with fail
            refine ⟨⟨k + 1, by omega, by go_num, ?_, ?_, ?_⟩, by simp [intOf]; omega⟩
            · rw [← HX.out]; exact Lib.hid (GO.drewN HG.out _)
            · exact Lib.hid (grown_dN HR.out _)
            · exact Lib.hid (fun B hB s h => below_drewN (HB.out B hB s h) _)
    · obtain rfl : n = k + 1 := by omega
      have hki : ¬ ((k : Int) + 1 < ((k + 1 : Nat) : Int)) := by omega
      go_wp2_with fail
      (try simp only [Exit.inBlock, Exit.then])
      refine bodyPost_end (v := .tuple #[]) (by simp [results, Try.results149, go_sem]; try rfl) rfl ?_
      exact ⟨rfl, HG.out, HR.out, HB.out⟩

theorem f_stable (F : Nat) (p : Value) (D : Int → Prop) (cmp : Int → Int → Int) (hE : ∀ (args : Array Value) (w : World), (callFunc F args).run Try.prog w = .ok (.enter F args) w) (v : Value) (xs : List Int) (lo : Nat) (w : World)
    (hv : GO (Value.int .i64) 2 lo w v xs) (hl : xs.length < 20) (h1 : 1 ≤ xs.length) (hD : ∀ a ∈ xs, D a) (hF : CmpsI Try.prog F p w v.ownBlock D cmp) :
    Calls Try.prog 136 #[v, .int .i64 xs.length, .func (.func F) #[] #[p]] w fun e w' => e = .returned (.tuple #[]) ∧ GO (Value.int .i64) 2 lo w' v (isortI cmp xs (xs.length - 1)) ∧ w.grownBy w' v.ownBlock ∧ (∀ B, (∀ g, v.ownBlock = some g → B ≤ g) → ∀ s, Below B s w → Below B s w') := by
  have hc := f_insSort F p D cmp hE v xs lo w hv (by omega) h1 hD hF
  have h20 : ¬ ((20 : Int) ≤ (xs.length : Int)) := by omega
  have h21 : ¬ ((20 : Int) < (xs.length : Int)) := by omega
  clear hv hD hF
  go_enter Try.func136, Try.ntmps136
  go_wp2_with fail
  go_loopw [7, 8] (fun a b wr => a = .int .i64 0 ∧ b = .int .i64 20 ∧ wr = w) (fun _ _ _ => 0)
  case atStart => exact ⟨rfl, rfl, rfl⟩
  case round =>
    obtain ⟨rfl, rfl, rfl⟩ := hrel
    go_wp2_with fail
    refine hc.mono ?_; rintro e w1 ⟨rfl, h2, h3, h4⟩
    go_wp2_with fail
    go_loopw [6] (fun a wr => a = .int .i64 20 ∧ wr = w1) (fun _ _ => 0)
    case atStart => exact ⟨rfl, rfl⟩
    case round =>
      obtain ⟨rfl, rfl⟩ := hrel
      go_wp2_with fail
      (try simp only [Exit.inBlock, Exit.then])
      refine bodyPost_end (v := .tuple #[]) (by simp [results, Try.results136, go_sem]; try rfl) rfl ?_
      exact ⟨rfl, h2, h3, h4⟩

theorem f_SortStable (F : Nat) (p : Value) (D : Int → Prop) (cmp : Int → Int → Int) (hE : ∀ (args : Array Value) (w : World), (callFunc F args).run Try.prog w = .ok (.enter F args) w) (v : Value) (xs : List Int) (lo : Nat) (w : World)
    (hv : GO (Value.int .i64) 2 lo w v xs) (hl : xs.length < 20) (h1 : 1 ≤ xs.length) (hD : ∀ a ∈ xs, D a) (hF : CmpsI Try.prog F p w v.ownBlock D cmp) :
    Calls Try.prog 107 #[v, .func (.func F) #[] #[p]] w fun e w' => e = .returned (.tuple #[]) ∧ GO (Value.int .i64) 2 lo w' v (isortI cmp xs (xs.length - 1)) ∧ w.grownBy w' v.ownBlock ∧ (∀ B, (∀ g, v.ownBlock = some g → B ≤ g) → ∀ s, Below B s w → Below B s w') := by
  have hc := f_stable F p D cmp hE v xs lo w hv hl h1 hD hF
  obtain ⟨ao, c, rfl, -, -⟩ := hv.slice
  clear hv hD hF
  go_enter Try.func107, Try.ntmps107
  go_wp2_with fail
  refine hc.mono ?_; rintro e w1 ⟨rfl, h2, h3, h4⟩
  go_wp2_with fail
  (try simp only [Exit.inBlock, Exit.then])
  refine bodyPost_end (v := .tuple #[]) (by simp [results, Try.results107, go_sem]; try rfl) rfl ?_
  exact ⟨rfl, h2, h3, h4⟩

end Go.Proofs.Ytkkomajokdlkeaa

namespace Go.Proofs.Ytkkomajokdlkeaa
set_option linter.unusedSimpArgs false
set_option linter.unusedVariables false
set_option maxRecDepth 100000
set_option maxHeartbeats 4000000
open Go.RowKit
attribute [local go_sem] run_store_float run_store_complex alloc_drewN setCell_drewN
def sgnF (x y : Nat) : Int := if fc .lss .f32 x y then -1 else if fc .gtr .f32 x y then 1 else 0
def rkR (xs : List Nat) (css : List (List Nat)) (n : Nat) : List Nat := (List.range n).map fun i => (rmsQ xs (rowL css i)).1
def rkCmp (R : List Nat) (a b : Int) : Int := sgnF (R.getD a.toNat 0) (R.getD b.toNat 0)
def numsI (n : Nat) : List Int := (List.range n).map fun (i : Nat) => (i : Int)
def rkAll (xs : List Nat) (css : List (List Nat)) (n : Nat) : Bool := (List.range n).all fun i => (rmsQ xs (rowL css i)).2
def rkQ (css : List (List Nat)) (xs : List Nat) : List Int × Bool :=
  if waysOk css && rkAll xs css css.length then (isortI (rkCmp (rkR xs css css.length)) (numsI css.length) (css.length - 1), true) else ([], false)
theorem rkR_length (xs : List Nat) (css : List (List Nat)) (n : Nat) : (rkR xs css n).length = n := by simp [rkR]
theorem rkR_succ (xs : List Nat) (css : List (List Nat)) (n : Nat) : rkR xs css (n + 1) = rkR xs css n ++ [(rmsQ xs (rowL css n)).1] := by simp [rkR, List.range_succ]
theorem numsI_length (n : Nat) : (numsI n).length = n := by simp [numsI]
theorem numsI_succ (n : Nat) : numsI (n + 1) = numsI n ++ [(n : Int)] := by simp [numsI, List.range_succ]
theorem rkAll_succ (xs : List Nat) (css : List (List Nat)) (n : Nat) : rkAll xs css (n + 1) = (rkAll xs css n && (rmsQ xs (rowL css n)).2) := by simp [rkAll, List.range_succ, List.all_append]
theorem rkAll_no {xs : List Nat} {css : List (List Nat)} {k n : Nat} (hk : k < n) (h : (rmsQ xs (rowL css k)).2 = false) : rkAll xs css n = false := by
  unfold rkAll
  rw [List.all_eq_false]
  exact ⟨k, List.mem_range.2 hk, by rw [h]; decide⟩
theorem rkQ_short (css : List (List Nat)) (xs : List Nat) : (rkQ css xs).1.length < 1000000 := by
  unfold rkQ
  split
  · rename_i h
    simp only [waysOk, Bool.and_eq_true, decide_eq_true_eq] at h
    dsimp only
    rw [isortI_length, numsI_length]
    omega
  · decide
/-- Slices of other elements lie in other blocks. -/
theorem OW.ne_goR {α : Type} {inj : α → Value} {T T' b b' : Nat} {w : World} {u v : Value} {cs : List Nat} {xs : List α} (h : OW T b w u cs) (h' : GO inj T' b' w v xs) (hne : T ≠ T') : u.ownBlock = none ∨ u.ownBlock ≠ v.ownBlock := by
  obtain ⟨ys, ho, -, -⟩ := h
  rcases ho.2 with ⟨rfl, -⟩ | ⟨g, cap, cur, rfl, -, hg, -⟩
  · exact .inl rfl
  · rcases h'.2 with ⟨rfl, -⟩ | ⟨g2, cap2, cur2, rfl, -, hg2, -⟩
    · exact .inr (by simp [Value.ownBlock])
    · refine .inr fun e => ?_
      have e2 : g = g2 := by simpa [Value.ownBlock] using e
      subst e2
      rw [hg] at hg2
      simp only [Option.some.injEq, Obj.cells.injEq] at hg2
      exact hne hg2.2.1
theorem GO.ne_goR {α β : Type} {inj : α → Value} {inj' : β → Value} {T T' b b' : Nat} {w : World} {u v : Value} {cs : List β} {xs : List α} (h : GO inj' T b w u cs) (h' : GO inj T' b' w v xs) (hne : T ≠ T') : u.ownBlock = none ∨ u.ownBlock ≠ v.ownBlock := by
  rcases h.2 with ⟨rfl, -⟩ | ⟨g, cap, cur, rfl, -, hg, -⟩
  · exact .inl rfl
  · rcases h'.2 with ⟨rfl, -⟩ | ⟨g2, cap2, cur2, rfl, -, hg2, -⟩
    · exact .inr (by simp [Value.ownBlock])
    · refine .inr fun e => ?_
      have e2 : g = g2 := by simpa [Value.ownBlock] using e
      subst e2
      rw [hg] at hg2
      simp only [Option.some.injEq, Obj.cells.injEq] at hg2
      exact hne hg2.2.1
theorem own_sym {a b : Option Nat} (h : a = none ∨ a ≠ b) : b = none ∨ b ≠ a := by
  rcases h with rfl | h
  · cases b with
    | none => exact .inl rfl
    | some g => exact .inr (by simp)
  · exact .inr (Ne.symm h)

theorem i_sign (x y : Nat) (w : World) : Calls Try.prog 109 #[.float .f32 x, .float .f32 y] w fun e w' => e = .returned (.int .i64 (sgnF (cn .f32 x) (cn .f32 y))) ∧ Dr w w' := by
  cases h1 : fc .lss .f32 (cn .f32 x) (cn .f32 y) <;> cases h2 : fc .gtr .f32 (cn .f32 x) (cn .f32 y)
  all_goals
    have H1 := Lib.hid h1
    have H2 := Lib.hid h2
    clear h1 h2
    go_enter Try.func109, Try.ntmps109
    go_wp2_with (first | (refine wpList_fc .f32 _ _ rfl rfl rfl ?_; first | rw [H1.out] | rw [H2.out]))
    go_ret
    exact ⟨by rw [sgnF, H1.out, H2.out]; rfl, Dr.refl _⟩

theorem i_cmpR (b : Nat) (ao : Option Addr) (n c : Nat) (R : List Nat) (w : World) (r : Option Nat) (hb : b < w.heap.size) (hbr : r ≠ some b) (hm : w.cell? ⟨b, 0, none⟩ = some (.slice ao n c)) (hs : SB w (.slice ao n c) R) (hn : R.length = n)
    (hao : ∀ g o, ao = some ⟨g, o, none⟩ → r ≠ some g) :
    CmpsI Try.prog 108 (.pointer (some ⟨b, 0, none⟩)) w r (fun a => 0 ≤ a ∧ a < (n : Int)) (rkCmp R) := by
  intro x y w' hx hy hg
  obtain ⟨av, cc, hv, -, -, hget⟩ := hs.get hn
  obtain ⟨xn, rfl⟩ := Int.eq_ofNat_of_zero_le hx.1
  obtain ⟨yn, rfl⟩ := Int.eq_ofNat_of_zero_le hy.1
  obtain ⟨b1, o1, x1, e1, hb1, hc1, hx1, hcx1⟩ := hget xn (by omega)
  obtain ⟨b2, o2, y1, e2, hb2, hc2, hy1, hcy1⟩ := hget yn (by omega)
  simp only [Value.slice.injEq] at hv
  obtain ⟨rfl, -, -⟩ := hv
  subst e1
  simp only [Option.some.injEq, Addr.mk.injEq, and_true] at e2
  obtain ⟨rfl, rfl⟩ := e2
  have hne := hao _ _ rfl
  have k0 : w'.cell? ⟨b, 0, none⟩ = some (.slice (some ⟨b1, o1, none⟩) n c) := (World.cell?_of_block (hg.block b hb (fun e => hbr e.symm))).trans hm
  have k1 : w'.cell? ⟨b1, o1 + xn, none⟩ = some (.float .f32 x1) := (World.cell?_of_block (hg.block b1 hb1 (fun e => hne e.symm))).trans hc1
  have k2 : w'.cell? ⟨b1, o1 + yn, none⟩ = some (.float .f32 y1) := (World.cell?_of_block (hg.block b1 hb2 (fun e => hne e.symm))).trans hc2
  have HS := Lib.hid (fun w => i_sign x1 y1 w)
  have hq : rkCmp R (xn : Int) (yn : Int) = sgnF (cn .f32 x1) (cn .f32 y1) := by rw [hcx1, hcy1]; rfl
  rw [hq]
  clear hget hm hs hc1 hc2 hcx1 hcy1 hg hq
  obtain ⟨hx0, hx2⟩ := hx
  obtain ⟨hy0, hy2⟩ := hy
  have t1 : ((xn : Int)).toNat = xn := by omega
  have t2 : ((yn : Int)).toNat = yn := by omega
  go_enter Try.func108, Try.ntmps108
  go_wp2_with fail
  go_quiet ((go_at_call 109; first | exact quiet_dr (HS.out _) | exact quiet_dr2 (HS.out _)))
  go_wp2_with fail
  go_ret
  exact ⟨rfl, by first | exact Dr.refl _ | exact Dr.mk _ _ | exact ⟨_, rfl⟩⟩

theorem oneI64R : OneC Try.prog 28 2 (.int .i64 0) 8 := oneC_of Try.underlying28 (by kernel_rfl) rfl (by decide)
theorem f32sRk : F32s Try.prog 26 33 := f32s_of Try.underlying26 (by kernel_rfl)
theorem GO.oneRow {T : Nat} (w : World) (v : Value) {lo : Nat} (hb : lo ≤ w.heap.size) : GO (fun v : Value => v) T lo (w.alloc (.cells #[v] T)) (.slice (some ⟨w.heap.size, 0, none⟩) 1 1) [v] := by
  have := World.ownsRow_lit (e := T) (size := 1) w #[v] 1 hb (by simp [maxLen]) rfl
  simpa [GO] using this
theorem i_RanksMiss (u v : Value) (css : List (List Nat)) (xs : List Nat) (w : World) (hu : SS w u css) (hv : SB w v xs) :
    Calls Try.prog 46 #[u, v] w fun z w' => IB 2 w.heap.size w' z (rkQ css xs) ∧ Below w.heap.size w w' := by
  have HU := Lib.hid hu
  have HV := Lib.hid hv
  obtain ⟨ao, c, rfl, hc1, hc2, hget⟩ := hu.get rfl
  clear hget hu hv
  cases hok : waysOk css
  · have HOK := Lib.hid hok
    clear hok
    go_enter Try.func46, Try.ntmps46
    go_wp2_with fail
    refine (i_areWays _ css _ HU.out).mono ?_; rintro e w1 ⟨rfl, hb1⟩
    rw [HOK.out]
    go_wp2_with fail
    go_ret2
    exact ⟨IB.no _ _ _ (by rw [rkQ, HOK.out]; rfl), hb1⟩
  · have HOK := Lib.hid hok
    have hlen : 1 ≤ css.length ∧ css.length ≤ 8 := by simp only [waysOk, Bool.and_eq_true, decide_eq_true_eq] at hok; exact hok.1
    obtain ⟨hl1, hl2⟩ := hlen
    have HQF := Lib.hid (fun k (hk : k < css.length) (h : (rmsQ xs (rowL css k)).2 = false) => show rkQ css xs = ([], false) by rw [rkQ, rkAll_no hk h, Bool.and_false]; rfl)
    have HQT := Lib.hid (fun (h : rkAll xs css css.length = true) => show rkQ css xs = (isortI (rkCmp (rkR xs css css.length)) (numsI css.length) (css.length - 1), true) by rw [rkQ, hok, h]; rfl)
    clear hok
    go_enter Try.func46, Try.ntmps46
    go_wp2_with fail
    refine (i_areWays _ css _ HU.out).mono ?_; rintro e w1 ⟨rfl, hb1⟩
    rw [HOK.out]
    have hz1 := hb1.size
    have HB1 := Lib.hid hb1
    clear hb1
    go_wp2_with fail
    go_loopw [7, 19] (fun o i wr => ∃ (k : Nat) (ms : Value), k ≤ css.length ∧ i = .int .i64 (k : Int) ∧ Hid (GO (fun v : Value => v) 26 w1.heap.size wr (.slice (some ⟨w1.heap.size + 1 + 1, 0, none⟩) 1 1) [ms]) ∧ Hid (OW 33 w1.heap.size wr ms (rkR xs css k)) ∧ Hid (GO (Value.int .i64) 2 w1.heap.size wr o (numsI k)) ∧ Hid (rkAll xs css k = true) ∧ Below w.heap.size w wr) (fun _ i _ => css.length - (intOf i).toNat)
    case atStart => exact ⟨0, _, Nat.zero_le _, rfl, Lib.hid (by have := GO.oneRow (T := 26) ((w1.alloc (.cells #[] 33)).alloc (.cells #[] 2)) (.slice (some ⟨w1.heap.size, 0, none⟩) 0 0) (lo := w1.heap.size) (by simp; omega); simpa using this), Lib.hid (OW.alloc (OW.alloc (OW.empty _ _ rfl (Nat.le_refl _)) _) _), Lib.hid (GO.alloc (GO.empty _ _ (by simp) (by simp)) _), rfl, by have := HB1.out; (repeat (first | with_reducible exact Below.refl _ _ | with_reducible assumption | with_reducible refine below_drewN ?_ _ | with_reducible refine Below.drew ?_ | with_reducible refine Below.alloc ?_ (by first | omega | (simp; omega) | (simp; done) | (simp at *; omega)) _ | with_reducible refine Below.setCell ?_ (by first | omega | (simp; omega) | (simp; done) | (simp at *; omega)) _ | refine Below.trans ?_ (Below.mono (by with_reducible assumption) (by first | omega | (simp; omega) | (simp; done) | (simp at *; omega)))))⟩
    case round =>
      obtain ⟨k, ms, hk, rfl, HVR, HM, HO, HAL, hb⟩ := hrel
      have hz := hb.size
      by_cases hlt : k < css.length
      · obtain ⟨ao', c', hvv, -, -, hget⟩ := (HU.out.keep hb).get rfl
        obtain ⟨b1, o1, l, e1, hbl1, hcl, hsl⟩ := hget k hlt
        simp only [Value.slice.injEq] at hvv
        obtain ⟨rfl, -, -⟩ := hvv
        subst e1
        have HSL := Lib.hid (show SB wr l (rowL css k) from hsl)
        obtain ⟨g, cap, hv1, -, hg2, hcm, hfm, hsm⟩ := HVR.out.at_ (k := 0) (by simp)
        simp only [Value.slice.injEq, Option.some.injEq, Addr.mk.injEq, and_true] at hv1
        obtain ⟨rfl, -, -⟩ := hv1
        have hcm' : wr.cell? ⟨w1.heap.size + 1 + 1, 0, none⟩ = some ms := hcm
        clear hget hsl hcm hsm hfm
        have hki : (k : Int) < (css.length : Int) := by omega
        go_wp2_with fail
        refine (i_RootMiss _ _ xs (rowL css k) _ (HV.out.keep hb) HSL.out).mono ?_; rintro e w2 ⟨⟨r, b, rfl, hr, hcr, hbb⟩, hd⟩
        have HVR2 := Lib.hid (HVR.out.keep (hd.below _))
        have HM2 := Lib.hid (HM.out.keep (hd.below _))
        have HO2 := Lib.hid (HO.out.keep (hd.below _))
        have hb2 : Below w.heap.size w w2 := hb.trans (hd.below _)
        have hz2 : wr.heap.size ≤ w2.heap.size := (hd.below wr.heap.size).size
        have hzb : w.heap.size ≤ w2.heap.size := hb2.size
        have hw12 : w1.heap.size ≤ w2.heap.size := by omega
        clear hd HVR HM HO hb hcm'
        cases hok : (rmsQ xs (rowL css k)).2
        · rw [hok] at hbb
          subst hbb
          have HNQ := Lib.hid (HQF.out k hlt hok)
          go_wp2_with fail
          go_ret2
          exact ⟨IB.no _ _ _ HNQ.out, hb2⟩
        · rw [hok] at hbb
          subst hbb
          have HAL2 := Lib.hid (show rkAll xs css (k + 1) = true by rw [rkAll_succ, HAL.out, hok]; rfl)
          have HCR := Lib.hid hcr
          obtain ⟨mo, mc, hms, -⟩ := HM2.out.sb.sl.slice
          subst hms
          obtain ⟨g, cap, hv1, -, hg3, hcm, -, -⟩ := HVR2.out.at_ (k := 0) (by simp)
          simp only [Value.slice.injEq, Option.some.injEq, Addr.mk.injEq, and_true] at hv1
          obtain ⟨rfl, -, -⟩ := hv1
          have hcm' : w2.cell? ⟨w1.heap.size + 1 + 1, 0, none⟩ = some (.slice mo (rkR xs css k).length mc) := hcm
          have HRL := Lib.hid (rkR_length xs css k)
          have HNL := Lib.hid (numsI_length k)
          clear hcm hok hcr
          have HNE0 := Lib.hid (HM2.out.ne_goR HVR2.out (by decide))
          have HNE1 := Lib.hid (own_sym (HM2.out.ne_goR HO2.out (by decide)))
          go_wp2_with (first
            | (at_builtin; refine wpList_app1 f32sRk w1.heap.size _ (rkR xs css k) rfl (OW.alloc HM2.out _) _ _ rfl (by first | (simp; done) | (simp; rfl)) hr (by rw [HRL.out]; omega) (by first | omega | (simp; done) | (simp; omega)) ?_; intro s3 w3 ho3 hg3; have HV3 := Lib.hid (GO.kept (GO.alloc HVR2.out _) hg3 (own_sym HNE0.out)); have HO3 := Lib.hid (GO.kept (GO.alloc HO2.out _) hg3 HNE1.out); have hb3 : Below w.heap.size w w3 := below_of_grown (by (repeat (first | with_reducible exact Below.refl _ _ | with_reducible assumption | with_reducible refine below_drewN ?_ _ | with_reducible refine Below.drew ?_ | with_reducible refine Below.alloc ?_ (by first | omega | (simp; omega) | (simp; done) | (simp at *; omega)) _ | with_reducible refine Below.setCell ?_ (by first | omega | (simp; omega) | (simp; done) | (simp at *; omega)) _ | refine Below.trans ?_ (Below.mono (by with_reducible assumption) (by first | omega | (simp; omega) | (simp; done) | (simp at *; omega)))))) hg3 (by first | omega | (simp; done) | (simp; omega)) (fun g h => by have := HM2.out.own_ge g h; omega); have hz3 := hg3.size; (try simp only [World.size_alloc] at hz3); have HM3 := Lib.hid ho3; clear ho3 hg3)
            | (at_builtin; refine wpList_gapp (inj := Value.int .i64) oneI64R (fun _ => rfl) w1.heap.size _ (numsI k) rfl (GO.alloc HO3.out _) [(k : Int)] _ 1 rfl rfl (by intro i u hu; cases i with | zero => (simp only [List.getElem?_cons_zero, Option.some.injEq] at hu; subst hu; simp) | succ i => simp at hu) (by have := HNL.out; simp only [List.length_cons, List.length_nil]; omega) (by first | omega | (simp; done) | (simp; omega)) ?_; intro s4 w4 ho4 hg4; have HM4 := Lib.hid (OW.kept (OW.alloc HM3.out _) hg4 (HM3.out.ne_goR HO3.out (by decide))); have HV4 := Lib.hid (GO.kept (GO.alloc HV3.out _) hg4 (GO.ne_goR HV3.out HO3.out (by decide))); have hb4 : Below w.heap.size w w4 := below_of_grown (by (repeat (first | with_reducible exact Below.refl _ _ | with_reducible assumption | with_reducible refine below_drewN ?_ _ | with_reducible refine Below.drew ?_ | with_reducible refine Below.alloc ?_ (by first | omega | (simp; omega) | (simp; done) | (simp at *; omega)) _ | with_reducible refine Below.setCell ?_ (by first | omega | (simp; omega) | (simp; done) | (simp at *; omega)) _ | refine Below.trans ?_ (Below.mono (by with_reducible assumption) (by first | omega | (simp; omega) | (simp; done) | (simp at *; omega)))))) hg4 (by first | omega | (simp; done) | (simp; omega)) (fun g h => by have := HO3.out.own_ge g h; omega); have HO4 := Lib.hid ho4; obtain ⟨mo4, mc4, hms4, -⟩ := HM4.out.sb.sl.slice; subst hms4; obtain ⟨g4, cap4, hv4, -, hg5, hcm4, hfm4, hst4⟩ := HV4.out.at_ (k := 0) (by simp); simp only [Value.slice.injEq, Option.some.injEq, Addr.mk.injEq, and_true] at hv4; obtain ⟨rfl, -, -⟩ := hv4; have hcm5 : w4.cell? ⟨w1.heap.size + 1 + 1, 0, none⟩ = some _ := hcm4; have HST := Lib.hid (hst4 (.slice mo4 (rkR xs css k ++ [cn .f32 r]).length mc4)); clear ho4 hg4 hcm4 hst4))
          have HM5 := Lib.hid (OW.kept HM4.out (grown_setCell w4 ⟨w1.heap.size + 1 + 1, 0, none⟩ (.slice mo4 (rkR xs css k ++ [cn .f32 r]).length mc4)) (HM4.out.ne_goR HV4.out (by decide)))
          have HO5 := Lib.hid (GO.kept HO4.out (grown_setCell w4 ⟨w1.heap.size + 1 + 1, 0, none⟩ (.slice mo4 (rkR xs css k ++ [cn .f32 r]).length mc4)) (GO.ne_goR HO4.out HV4.out (by decide)))
          have HB5 := Lib.hid (Below.setCell hb4 (p := ⟨w1.heap.size + 1 + 1, 0, none⟩) (show w.heap.size ≤ w1.heap.size + 1 + 1 by omega) (.slice mo4 (rkR xs css k ++ [cn .f32 r]).length mc4))
          have HST2 := Lib.hid (show GO (fun v : Value => v) 26 w1.heap.size (w4.setCell ⟨w1.heap.size + 1 + 1, 0, none⟩ (.slice mo4 (rkR xs css k ++ [cn .f32 r]).length mc4)) (.slice (some ⟨w1.heap.size + 1 + 1, 0, none⟩) 1 1) [.slice mo4 (rkR xs css k ++ [cn .f32 r]).length mc4] from HST.out.1)
          rw [HCR.out, ← rkR_succ] at HM5 HO5 HB5 HST2
          rw [← numsI_succ] at HO5
          rw [rkR_length] at HM5 HO5 HB5 HST2
          have HL1 := Lib.hid (show (rkR xs css k ++ [cn .f32 r]).length = k + 1 by rw [List.length_append, rkR_length]; rfl)
          rw [HRL.out]
          exact ⟨⟨k + 1, _, by omega, by go_num, HST2, HM5, HO5, HAL2, HB5.out⟩, by simp [intOf]; omega⟩
      · obtain rfl : k = css.length := by omega
        obtain ⟨g, cap, hv1, -, hg2, hcm, hfm, hsm⟩ := HVR.out.at_ (k := 0) (by simp)
        simp only [Value.slice.injEq, Option.some.injEq, Addr.mk.injEq, and_true] at hv1
        obtain ⟨rfl, -, -⟩ := hv1
        have hcm' : wr.cell? ⟨w1.heap.size + 1 + 1, 0, none⟩ = some ms := hcm
        obtain ⟨mo, mc, hms, -⟩ := HM.out.sb.sl.slice
        rw [rkR_length] at hms
        subst hms
        have HNL := Lib.hid (numsI_length css.length)
        have HCM := Lib.hid (i_cmpR (w1.heap.size + 1 + 1) mo css.length mc (rkR xs css css.length) wr u7.ownBlock hg2 (by
            rcases GO.ne_goR HO.out HVR.out (by decide) with h | h
            · rw [h]; simp
            · exact h) hcm' HM.out.sb (rkR_length ..) (by
            intro g o e
            subst e
            rcases own_sym (HM.out.ne_goR HO.out (by decide)) with h | h
            · rw [h]; simp
            · exact h))
        have hsort := f_SortStable 108 (.pointer (some ⟨w1.heap.size + 1 + 1, 0, none⟩)) _ _ (fun _ _ => by kernel_rfl) u7 (numsI css.length) w1.heap.size wr HO.out (by rw [HNL.out]; omega) (by rw [HNL.out]; omega) (by
          intro a ha
          obtain ⟨i, hi, rfl⟩ := List.mem_map.1 ha
          have := List.mem_range.1 hi
          omega) HCM.out
        rw [HNL.out] at hsort
        have HSO := Lib.hid hsort
        have HRQ := Lib.hid (HQT.out HAL.out)
        have HBR := Lib.hid (fun (w' : World) (h : ∀ B, (∀ g, u7.ownBlock = some g → B ≤ g) → ∀ s, Below B s wr → Below B s w') => h w.heap.size (fun g hg => by have := HO.out.own_ge g hg; omega) w hb)
        clear hcm hsm hsort HCM
        go_wp2_with fail
        refine HSO.out.mono ?_; rintro e w5 ⟨rfl, h2, h3, h4⟩
        have HF2 := Lib.hid h2
        have HBF := Lib.hid (HBR.out w5 h4)
        clear h2 h3 h4
        go_wp2_with fail
        go_ret2
        exact ⟨⟨_, _, rfl, by rw [HRQ.out]; exact HF2.out.down (by omega), by rw [HRQ.out]⟩, HBF.out⟩

end Go.Proofs.Ytkkomajokdlkeaa
