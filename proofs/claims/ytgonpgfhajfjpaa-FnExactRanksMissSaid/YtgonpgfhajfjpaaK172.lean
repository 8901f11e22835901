/- Contracts: stable sorting of few integers by a function that compares two. -/
import Derived.Test.YtgonpgfhajfjpaaK164
namespace Go.Proofs.Ytgonpgfhajfjpaa
set_option linter.unusedSimpArgs false
set_option linter.unusedVariables false
set_option maxRecDepth 100000
set_option maxHeartbeats 4000000
open Go.RowKit
attribute [local go_sem] run_store_float run_store_complex alloc_drewN setCell_drewN
/-- Two neighbours changed. -/
def swapI (X : List Int) (j : Nat) : List Int := (X.set (j + 1) (X.getD j 0)).set j (X.getD (j + 1) 0)
def insI (cmp : Int → Int → Int) : List Int → Nat → List Int
  | X, 0 => X
  | X, j + 1 => if cmp (X.getD (j + 1) 0) (X.getD j 0) < 0 then insI cmp (swapI X j) j else X
def isortI (cmp : Int → Int → Int) (X : List Int) : Nat → List Int
  | 0 => X
  | i + 1 => insI cmp (isortI cmp X i) (i + 1)
theorem swapI_length (X : List Int) (j : Nat) : (swapI X j).length = X.length := by simp [swapI]
theorem insI_length (cmp : Int → Int → Int) : ∀ (j : Nat) (X : List Int), (insI cmp X j).length = X.length
  | 0, _ => rfl
  | j + 1, X => by rw [insI]; split; rw [insI_length cmp j, swapI_length]; rfl
theorem isortI_length (cmp : Int → Int → Int) (X : List Int) : ∀ i, (isortI cmp X i).length = X.length
  | 0 => rfl
  | i + 1 => by rw [isortI, insI_length, isortI_length cmp X i]
theorem mem_set {X : List Int} {i : Nat} {x y : Int} (h : y ∈ X.set i x) : y ∈ X ∨ y = x := by
  rcases List.mem_or_eq_of_mem_set h with h | h
  · exact .inl h
  · exact .inr h
theorem getD_mem {X : List Int} {i : Nat} (h : i < X.length) : X.getD i 0 ∈ X := by
  rw [List.getD_eq_getElem?_getD, List.getElem?_eq_getElem h]; exact List.getElem_mem h
theorem swapI_mem {D : Int → Prop} {X : List Int} {j : Nat} (hj : j + 1 < X.length) (h : ∀ a ∈ X, D a) : ∀ a ∈ swapI X j, D a := by
  intro a ha
  unfold swapI at ha
  rcases mem_set ha with h1 | rfl
  · rcases mem_set h1 with h2 | rfl
    · exact h a h2
    · exact h _ (getD_mem (by omega))
  · exact h _ (getD_mem hj)
theorem insI_mem {D : Int → Prop} (cmp : Int → Int → Int) : ∀ (j : Nat) (X : List Int), j < X.length → (∀ a ∈ X, D a) → ∀ a ∈ insI cmp X j, D a
  | 0, _, _, h => h
  | j + 1, X, hj, h => by
    rw [insI]
    split
    · exact insI_mem cmp j _ (by rw [swapI_length]; omega) (swapI_mem hj h)
    · exact h
theorem isortI_mem {D : Int → Prop} (cmp : Int → Int → Int) {X : List Int} (h : ∀ a ∈ X, D a) : ∀ i, i < X.length → ∀ a ∈ isortI cmp X i, D a
  | 0, _ => h
  | i + 1, hi => insI_mem cmp _ _ (by rw [isortI_length]; exact hi) (isortI_mem cmp h i (by omega))
/-- A function value that compares two integers and only reads. -/
def CmpsI (P : Program) (F : Nat) (p : Value) (w : World) (r : Option Nat) (D : Int → Prop) (cmp : Int → Int → Int) : Prop :=
  ∀ a b w', D a → D b → w.grownBy w' r → Calls P F #[.int .i64 a, .int .i64 b, p] w' fun e w'' => e = .returned (.int .i64 (cmp a b)) ∧ Dr w' w''
theorem grown_dN {w w' : World} {r : Option Nat} (h : w.grownBy w' r) (n : Nat) : w.grownBy (w'.drewN n) r := grown_transW h (grown_of_below ((Dr.mk w' n).below _) _)

theorem f_insSort (F : Nat) (p : Value) (D : Int → Prop) (cmp : Int → Int → Int) (hE : ∀ (args : Array Value) (w : World), (callFunc F args).run Try.prog w = .ok (.enter F args) w) (v : Value) (xs : List Int) (lo : Nat) (w : World)
    (hv : GO (Value.int .i64) 2 lo w v xs) (hl : xs.length < 1000) (h1 : 1 ≤ xs.length) (hD : ∀ a ∈ xs, D a) (hF : CmpsI Try.prog F p w v.ownBlock D cmp) :
    Calls Try.prog 45 #[v, .int .i64 0, .int .i64 xs.length, .func (.func F) #[] #[p]] w fun e w' => e = .returned (.tuple #[]) ∧ GO (Value.int .i64) 2 lo w' v (isortI cmp xs (xs.length - 1)) ∧ w.grownBy w' v.ownBlock ∧ (∀ B, (∀ g, v.ownBlock = some g → B ≤ g) → ∀ s, Below B s w → Below B s w') := by
  obtain ⟨ao, c, rfl, -, -⟩ := hv.slice
  have HV := Lib.hid hv
  have HF := Lib.hid hF
  have HD := Lib.hid (isortI_mem cmp hD)
  have HIL := Lib.hid (isortI_length cmp xs)
  clear hv hF hD
  obtain ⟨n, hn⟩ : ∃ n, n = xs.length := ⟨_, rfl⟩
  have HN := Lib.hid hn
  rw [← hn] at h1 hl ⊢
  clear hn
  go_enter Try.func45, Try.ntmps45
  go_wp2_with fail
  go_loopw [8] (fun i wr => ∃ k : Nat, k + 1 ≤ n ∧ i = .int .i64 ((k : Int) + 1) ∧ Hid (GO (Value.int .i64) 2 lo wr (.slice ao n c) (isortI cmp xs k)) ∧ Hid (w.grownBy wr (Value.slice ao n c).ownBlock) ∧ Hid (∀ B, (∀ g, (Value.slice ao n c).ownBlock = some g → B ≤ g) → ∀ s, Below B s w → Below B s wr)) (fun i _ => n - (intOf i).toNat)
  case atStart => exact ⟨0, h1, by go_num, Lib.hid (by rw [HN.out]; exact HV.out), Lib.hid (grown_of_below (Below.refl _ w) _), Lib.hid (fun _ _ _ h => h)⟩
  case round =>
    obtain ⟨k, hk, rfl, HG, HR, HB⟩ := hrel
    by_cases hlt : k + 1 < n
    · have hki : (k : Int) + 1 < (n : Int) := by omega
      obtain ⟨wo, hwo⟩ : ∃ wo, wo = wr := ⟨_, rfl⟩
      subst hwo
      go_wp2_with fail
      go_loopw [9] (fun jv wr => ∃ (j : Nat) (Y : List Int), j ≤ k + 1 ∧ jv = .int .i64 (j : Int) ∧ Hid (Y.length = n) ∧ Hid (∀ a ∈ Y, D a) ∧ Hid (insI cmp Y j = isortI cmp xs (k + 1)) ∧ Hid (GO (Value.int .i64) 2 lo wr (.slice ao n c) Y) ∧ Hid (w.grownBy wr (Value.slice ao n c).ownBlock) ∧ Hid (∀ B, (∀ g, (Value.slice ao n c).ownBlock = some g → B ≤ g) → ∀ s, Below B s w → Below B s wr)) (fun jv _ => (intOf jv).toNat)
      case atStart => exact ⟨k + 1, isortI cmp xs k, Nat.le_refl _, by go_num, Lib.hid (by rw [HIL.out, HN.out]), Lib.hid (HD.out k (by have := HN.out; omega)), Lib.hid rfl, HG, HR, HB⟩
      case round =>
        clear HG HR HB
        obtain ⟨j, Y, hj, rfl, HYL, HYD, HIN, HG, HR, HB⟩ := hrel
        have hgi := HG.out
        obtain ⟨ji, hji⟩ : ∃ ji : Int, ji = (j : Int) := ⟨_, rfl⟩
        rw [← hji]
        have HJI := Lib.hid hji
        rcases j with _ | j
        · have hj0 : ¬ (0 < ji) := by omega
          have hd0 : decide (0 < ji) = false := decide_eq_false hj0
          have HX := Lib.hid (show Y = isortI cmp xs (k + 1) from HIN.out)
          clear hji hgi
          go_wp2_with fail
          go_quiet (fail)
          go_wp2_with fail
          refine ⟨⟨k + 1, by omega, by go_num, ?_, ?_, ?_⟩, by simp [intOf]; omega⟩
          · rw [← HX.out]; exact Lib.hid (GO.drewN HG.out _)
          · exact Lib.hid (grown_dN HR.out _)
          · exact Lib.hid (fun B hB s h => below_drewN (HB.out B hB s h) _)
        · have hj1 : j + 1 < Y.length := by rw [HYL.out]; omega
          obtain ⟨g, cap, hv1, hg1, hg2, hc1, hf1, hs1⟩ := HG.out.at_ hj1
          obtain ⟨g', cap', hv2, -, -, hc2, hf2, -⟩ := HG.out.at_ (k := j) (by omega)
          simp only [Value.slice.injEq] at hv1
          obtain ⟨rfl, -, -⟩ := hv1
          simp only [Value.slice.injEq, Option.some.injEq, Addr.mk.injEq, and_true] at hv2
          obtain ⟨rfl, -, -⟩ := hv2
          have e1 : Y[j + 1] = Y.getD (j + 1) 0 := by rw [List.getD_eq_getElem?_getD, List.getElem?_eq_getElem hj1]; rfl
          have e2 : Y[j]'(by omega) = Y.getD j 0 := by rw [List.getD_eq_getElem?_getD, List.getElem?_eq_getElem (by omega)]; rfl
          rw [e1] at hc1
          rw [e2] at hc2
          have HCM := Lib.hid (fun (w' : World) (h : w.grownBy w' (Value.slice (some ⟨g, 0, none⟩) n c).ownBlock) => HF.out (Y.getD (j + 1) 0) (Y.getD j 0) w' (HYD.out _ (getD_mem hj1)) (HYD.out _ (getD_mem (by omega))) h)
          have HCQ := Lib.hid (fun m => HCM.out (wr.drewN m) (grown_dN HR.out m))
          have HCQ0 := Lib.hid (HCM.out wr HR.out)
          have HE := hE
          have HSW := Lib.hid (show insI cmp Y (j + 1) = if cmp (Y.getD (j + 1) 0) (Y.getD j 0) < 0 then insI cmp (swapI Y j) j else Y from rfl)
          have HSY := Lib.hid (show swapI Y j = (Y.set (j + 1) (Y.getD j 0)).set j (Y.getD (j + 1) 0) from rfl)
          obtain ⟨h3, h4⟩ := hs1 (Y.getD j 0)
          obtain ⟨g'', cap'', hv3, -, -, -, -, hs2⟩ := h3.at_ (k := j) (by rw [List.length_set]; omega)
          simp only [Value.slice.injEq, Option.some.injEq, Addr.mk.injEq, and_true] at hv3
          obtain ⟨rfl, -, -⟩ := hv3
          obtain ⟨h5, h6⟩ := hs2 (Y.getD (j + 1) 0)
          rw [← HSY.out] at h5
          have HG5 := Lib.hid h5
          have HR5 := Lib.hid (grown_transW (grown_transW HR.out h4) h6)
          clear h3 h4 h5 h6 hs1 hs2 e1 e2 hgi
          have m1 : 0 < ji := by omega
          have m2 : 0 ≤ ji := by omega
          have m3 : ji < (n : Int) := by have := HYL.out; omega
          have m4 : ji.toNat = j + 1 := by omega
          have m5 : 0 ≤ ji - 1 := by omega
          have m6 : ji - 1 < (n : Int) := by omega
          have m7 : (ji - 1).toNat = j := by omega
          have m8 : IntKind.i64.wrap (ji - 1) = ji - 1 := by rw [IntKind.wrap_i64]; omega
          have m9 : j ≠ j + 1 := by omega
          have m10 : j + 1 ≠ j := by omega
          clear hji
          by_cases hcmp : cmp (Y.getD (j + 1) 0) (Y.getD j 0) < 0
          · have hcd : decide (cmp (Y.getD (j + 1) 0) (Y.getD j 0) < 0) = true := decide_eq_true hcmp
            have HNX := Lib.hid (show insI cmp (swapI Y j) j = isortI cmp xs (k + 1) by rw [← HIN.out, HSW.out, if_pos hcmp])
            generalize Y.getD (j + 1) 0 = ya at *
            generalize Y.getD j 0 = yb at *
            generalize cmp ya yb = cv at *
            go_wp2_with fail
            go_quiet ((first | exact quiet_dr (HCQ0.out) | exact quiet_dr2 (HCQ.out _) | exact quiet_dr (HCQ.out _)))
            go_wp2_with fail
            have HG6 := Lib.hid (show GO (Value.int .i64) 2 lo (((wr.drewN nq).setCell ⟨g, j + 1, none⟩ (.int .i64 yb)).setCell ⟨g, j, none⟩ (.int .i64 ya)) (.slice (some ⟨g, 0, none⟩) n c) (swapI Y j) from GO.drewN HG5.out nq)
            have HR6 := Lib.hid (show w.grownBy (((wr.drewN nq).setCell ⟨g, j + 1, none⟩ (.int .i64 yb)).setCell ⟨g, j, none⟩ (.int .i64 ya)) (Value.slice (some ⟨g, 0, none⟩) n c).ownBlock from grown_dN HR5.out nq)
            clear HG5 HR5
            have hc1' : (wr.drewN nq).cell? ⟨g, j + 1, none⟩ = some (.int .i64 ya) := hc1
            have hc2' : (wr.drewN nq).cell? ⟨g, j, none⟩ = some (.int .i64 yb) := hc2
            have hf1' : (wr.drewN nq).frozen? ⟨g, j + 1, none⟩ = false := hf1
            have hf2' : (wr.drewN nq).frozen? ⟨g, j, none⟩ = false := hf2
            have HB6 := Lib.hid (fun B hB s h => below_drewN (HB.out B hB s h) nq)
            clear hc1 hc2 hf1 hf2 HCQ HCQ0 HCM HB
            generalize World.drewN wr nq = w6 at *
            go_region
            go_wp2_with fail
            refine ⟨⟨j, swapI Y j, by omega, by (have := HJI.out; congr 1; omega), Lib.hid (by rw [swapI_length, HYL.out]), Lib.hid (swapI_mem hj1 HYD.out), HNX, Lib.hid (GO.drew HG6.out), Lib.hid (grown_transW HR6.out (grown_of_below (Below.drew (Below.refl _ _)) _)), ?_⟩, by simp [intOf]; have := HJI.out; omega⟩
            exact Lib.hid (fun B hB s h => (((HB6.out B hB s h).setCell (p := ⟨g, j + 1, none⟩) (hB g rfl) (.int .i64 yb)).setCell (p := ⟨g, j, none⟩) (hB g rfl) (.int .i64 ya)).drew)
          · have hcd : decide (cmp (Y.getD (j + 1) 0) (Y.getD j 0) < 0) = false := decide_eq_false hcmp
            have HX := Lib.hid (show Y = isortI cmp xs (k + 1) by rw [← HIN.out, HSW.out, if_neg hcmp])
            generalize Y.getD (j + 1) 0 = ya at *
            generalize Y.getD j 0 = yb at *
            generalize cmp ya yb = cv at *
            go_wp2_with fail
            go_quiet ((first | exact quiet_dr (HCQ0.out) | exact quiet_dr2 (HCQ.out _) | exact quiet_dr (HCQ.out _)))
            go_wp2_with fail
            refine ⟨⟨k + 1, by omega, by go_num, ?_, ?_, ?_⟩, by simp [intOf]; omega⟩
            · rw [← HX.out]; exact Lib.hid (GO.drewN HG.out _)
            · exact Lib.hid (grown_dN HR.out _)
            · exact Lib.hid (fun B hB s h => below_drewN (HB.out B hB s h) _)
    · obtain rfl : n = k + 1 := by omega
      have hki : ¬ ((k : Int) + 1 < ((k + 1 : Nat) : Int)) := by omega
      go_wp2_with fail
      (try simp only [Exit.inBlock, Exit.then])
      refine bodyPost_end (v := .tuple #[]) (by simp [results, Try.results45, go_sem]; try rfl) rfl ?_
      exact ⟨rfl, HG.out, HR.out, HB.out⟩

theorem f_stable (F : Nat) (p : Value) (D : Int → Prop) (cmp : Int → Int → Int) (hE : ∀ (args : Array Value) (w : World), (callFunc F args).run Try.prog w = .ok (.enter F args) w) (v : Value) (xs : List Int) (lo : Nat) (w : World)
    (hv : GO (Value.int .i64) 2 lo w v xs) (hl : xs.length < 20) (h1 : 1 ≤ xs.length) (hD : ∀ a ∈ xs, D a) (hF : CmpsI Try.prog F p w v.ownBlock D cmp) :
    Calls Try.prog 38 #[v, .int .i64 xs.length, .func (.func F) #[] #[p]] w fun e w' => e = .returned (.tuple #[]) ∧ GO (Value.int .i64) 2 lo w' v (isortI cmp xs (xs.length - 1)) ∧ w.grownBy w' v.ownBlock ∧ (∀ B, (∀ g, v.ownBlock = some g → B ≤ g) → ∀ s, Below B s w → Below B s w') := by
  have hc := f_insSort F p D cmp hE v xs lo w hv (by omega) h1 hD hF
  have h20 : ¬ ((20 : Int) ≤ (xs.length : Int)) := by omega
  have h21 : ¬ ((20 : Int) < (xs.length : Int)) := by omega
  clear hv hD hF
  go_enter Try.func38, Try.ntmps38
  go_wp2_with fail
  go_loopw [7, 8] (fun a b wr => a = .int .i64 0 ∧ b = .int .i64 20 ∧ wr = w) (fun _ _ _ => 0)
  case atStart => exact ⟨rfl, rfl, rfl⟩
  case round =>
    obtain ⟨rfl, rfl, rfl⟩ := hrel
    go_wp2_with fail
    refine hc.mono ?_; rintro e w1 ⟨rfl, h2, h3, h4⟩
    go_wp2_with fail
    go_loopw [6] (fun a wr => a = .int .i64 20 ∧ wr = w1) (fun _ _ => 0)
    case atStart => exact ⟨rfl, rfl⟩
    case round =>
      obtain ⟨rfl, rfl⟩ := hrel
      go_wp2_with fail
      (try simp only [Exit.inBlock, Exit.then])
      refine bodyPost_end (v := .tuple #[]) (by simp [results, Try.results38, go_sem]; try rfl) rfl ?_
      exact ⟨rfl, h2, h3, h4⟩

theorem f_SortStable (F : Nat) (p : Value) (D : Int → Prop) (cmp : Int → Int → Int) (hE : ∀ (args : Array Value) (w : World), (callFunc F args).run Try.prog w = .ok (.enter F args) w) (v : Value) (xs : List Int) (lo : Nat) (w : World)
    (hv : GO (Value.int .i64) 2 lo w v xs) (hl : xs.length < 20) (h1 : 1 ≤ xs.length) (hD : ∀ a ∈ xs, D a) (hF : CmpsI Try.prog F p w v.ownBlock D cmp) :
    Calls Try.prog 23 #[v, .func (.func F) #[] #[p]] w fun e w' => e = .returned (.tuple #[]) ∧ GO (Value.int .i64) 2 lo w' v (isortI cmp xs (xs.length - 1)) ∧ w.grownBy w' v.ownBlock ∧ (∀ B, (∀ g, v.ownBlock = some g → B ≤ g) → ∀ s, Below B s w → Below B s w') := by
  have hc := f_stable F p D cmp hE v xs lo w hv hl h1 hD hF
  obtain ⟨ao, c, rfl, -, -⟩ := hv.slice
  clear hv hD hF
  go_enter Try.func23, Try.ntmps23
  go_wp2_with fail
  refine hc.mono ?_; rintro e w1 ⟨rfl, h2, h3, h4⟩
  go_wp2_with fail
  (try simp only [Exit.inBlock, Exit.then])
  refine bodyPost_end (v := .tuple #[]) (by simp [results, Try.results23, go_sem]; try rfl) rfl ?_
  exact ⟨rfl, h2, h3, h4⟩

end Go.Proofs.Ytgonpgfhajfjpaa
