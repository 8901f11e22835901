/- Contracts: a part of a slice of float32 numbers is sorted by insertions (slices.insertionSortCmpFunc), by a function value without memory. -/
import Derived.Deep.RegionWith
import Derived.Deep.RegionHeld3
import Derived.Deep.QuietTactic
import Derived.BigQuiet
import Derived.Test.YtkkomajokdlkeaaQ2
import Derived.Test.YtkkomajokdlkeaaQ3
import Derived.Test.YtkkomajokdlkeaaQ15
import Derived.Test.YtkkomajokdlkeaaQ21
import Derived.Test.YtkkomajokdlkeaaQ35
import Derived.Test.YtkkomajokdlkeaaQ36
namespace Go.Proofs.Ytkkomajokdlkeaa
set_option linter.unusedSimpArgs false
set_option linter.unusedVariables false
set_option maxRecDepth 100000
set_option maxHeartbeats 4000000
set_option linter.unusedSimpArgs false
set_option linter.unusedVariables false
open Go.RowKit
attribute [local go_sem] run_store_float run_store_complex alloc_drewN setCell_drewN
theorem grown_transF {w1 w2 w3 : World} {g : Option Nat} (h1 : w1.grownBy w2 g) (h2 : w2.grownBy w3 g) : w1.grownBy w3 g := grown_trans h1 h2
theorem mem_setF {X : List Nat} {i : Nat} {x y : Nat} (h : y ∈ X.set i x) : y ∈ X ∨ y = x := by
  rcases List.mem_or_eq_of_mem_set h with h | h
  · exact .inl h
  · exact .inr h
theorem getD_memF {X : List Nat} {i : Nat} (h : i < X.length) : X.getD i 0 ∈ X := by
  rw [List.getD_eq_getElem?_getD, List.getElem?_eq_getElem h]; exact List.getElem_mem h
theorem swp_mem {D : Nat → Prop} {X : List Nat} {j : Nat} (hj : j + 1 < X.length) (h : ∀ a ∈ X, D a) : ∀ a ∈ swp 0 X j, D a := by
  intro a ha
  unfold swp at ha
  rcases mem_setF ha with h1 | rfl
  · rcases mem_setF h1 with h2 | rfl
    · exact h a h2
    · exact h _ (getD_memF (by omega))
  · exact h _ (getD_memF hj)
theorem insA_mem {D : Nat → Prop} (lt : Nat → Nat → Bool) (a : Nat) : ∀ (t : Nat) (X : List Nat), a + t < X.length → (∀ x ∈ X, D x) → ∀ x ∈ insA lt 0 a X t, D x
  | 0, _, _, h => h
  | t + 1, X, hj, h => by
    rw [insA]
    split
    · exact insA_mem lt a t _ (by rw [swp_length]; omega) (swp_mem (by omega) h)
    · exact h
theorem isortA_mem {D : Nat → Prop} (lt : Nat → Nat → Bool) (a : Nat) {X : List Nat} (h : ∀ x ∈ X, D x) : ∀ c, a + c < X.length → ∀ x ∈ isortA lt 0 a X c, D x
  | 0, _ => h
  | c + 1, hi => insA_mem lt a _ _ (by rw [isortA_length]; exact hi) (isortA_mem lt a h c (by omega))
/-- A function value that compares two numbers and only reads. -/
def CmpsF (P : Program) (F : Nat) (D : Nat → Prop) (cmp : Nat → Nat → Int) : Prop :=
  ∀ a b w', D a → D b → Calls P F #[.float .f32 a, .float .f32 b] w' fun e w'' => e = .returned (.int .i64 (cmp a b)) ∧ Dr w' w''
def ltC (cmp : Nat → Nat → Int) (a b : Nat) : Bool := decide (cmp a b < 0)
theorem grown_dF {w w' : World} {r : Option Nat} (h : w.grownBy w' r) (n : Nat) : w.grownBy (w'.drewN n) r := grown_transF h (grown_of_below ((Dr.mk w' n).below _) _)
/-- Memory below a slice's own block stays. -/
def BlwS (v : Value) (w w' : World) : Prop := ∀ B, (∀ g, v.ownBlock = some g → B ≤ g) → ∀ s, Below B s w → Below B s w'

theorem f_insSortF (F : Nat) (D : Nat → Prop) (cmp : Nat → Nat → Int) (hE : ∀ (args : Array Value) (w : World), (callFunc F args).run Try.prog w = .ok (.enter F args) w) (v : Value) (xs : List Nat) (lo a b : Nat) (w : World)
    (hv : GO (Value.float .f32) 33 lo w v xs) (hl : xs.length < 1000) (hab : a ≤ b) (hbl : b ≤ xs.length) (hD : ∀ c ∈ xs, D c) (hF : CmpsF Try.prog F D cmp) :
    Calls Try.prog 161 #[v, .int .i64 (a : Int), .int .i64 (b : Int), .func (.func F) #[] #[]] w fun e w' => e = .returned (.tuple #[]) ∧ GO (Value.float .f32) 33 lo w' v (isortA (ltC cmp) 0 a xs (b - a - 1)) ∧ w.grownBy w' v.ownBlock ∧ BlwS v w w' := by
  obtain ⟨ao, c, rfl, -, -⟩ := hv.slice
  have HV := Lib.hid hv
  have HF := Lib.hid hF
  have HD := Lib.hid (isortA_mem (ltC cmp) a hD)
  have HIL := Lib.hid (isortA_length (lt := ltC cmp) 0 a xs)
  clear hv hF hD
  obtain ⟨n, hn⟩ : ∃ n, n = xs.length := ⟨_, rfl⟩
  have HN := Lib.hid hn
  rw [← hn] at hbl hl ⊢
  clear hn
  have w1 : IntKind.i64.wrap ((a : Int) + 1) = (a : Int) + 1 := by rw [IntKind.wrap_i64]; omega
  go_enter Try.func161, Try.ntmps161
  go_wp2_with fail
  go_loopw [8] (fun i wr => ∃ k q : Nat, q = a + 1 + k ∧ k ≤ b - a - 1 ∧ i = .int .i64 (q : Int) ∧ Hid (GO (Value.float .f32) 33 lo wr (.slice ao n c) (isortA (ltC cmp) 0 a xs k)) ∧ Hid (w.grownBy wr (Value.slice ao n c).ownBlock) ∧ Hid (BlwS (.slice ao n c) w wr)) (fun i _ => b - (intOf i).toNat)
  case atStart => exact ⟨0, a + 1, by omega, by omega, by go_num, (by rw [HN.out]; exact HV), Lib.hid (grown_of_below (Below.refl _ w) _), Lib.hid (fun _ _ _ h => h)⟩
  case round =>
    obtain ⟨k, q, hq, hk, rfl, HG, HR, HB⟩ := hrel
    by_cases hlt : q < b
    · have hki : (q : Int) < (b : Int) := by omega
      have hkb : a + (k + 1) < n := by omega
      have HKB := Lib.hid hkb
      obtain ⟨wo, hwo⟩ : ∃ wo, wo = wr := ⟨_, rfl⟩
      subst hwo
      have HQ := Lib.hid hq
      clear hq hkb
      go_wp2_with fail
      go_loopw [9] (fun jv wr => ∃ (t r : Nat) (Y : List Nat), r = a + t ∧ t ≤ k + 1 ∧ jv = .int .i64 (r : Int) ∧ Hid (Y.length = n) ∧ Hid (∀ x ∈ Y, D x) ∧ Hid (insA (ltC cmp) 0 a Y t = isortA (ltC cmp) 0 a xs (k + 1)) ∧ Hid (GO (Value.float .f32) 33 lo wr (.slice ao n c) Y) ∧ Hid (w.grownBy wr (Value.slice ao n c).ownBlock) ∧ Hid (BlwS (.slice ao n c) w wr)) (fun jv _ => (intOf jv).toNat)
      case atStart => exact ⟨k + 1, q, isortA (ltC cmp) 0 a xs k, by have := HQ.out; omega, Nat.le_refl _, rfl, Lib.hid (by rw [HIL.out, HN.out]), Lib.hid (HD.out k (by have := HN.out; have := HKB.out; omega)), Lib.hid rfl, HG, HR, HB⟩
      case round =>
        clear HG HR HB
        obtain ⟨t, r, Y, hr, ht, rfl, HYL, HYD, HIN, HG, HR, HB⟩ := hrel
        have hgi := HG.out
        obtain ⟨ji, hji⟩ : ∃ ji : Int, ji = (r : Int) := ⟨_, rfl⟩
        rw [← hji]
        have HJI := Lib.hid hji
        rcases t with _ | t
        · have hj0 : ¬ ((a : Int) < ji) := by omega
          have hd0 : decide ((a : Int) < ji) = false := decide_eq_false hj0
          have HX := Lib.hid (show Y = isortA (ltC cmp) 0 a xs (k + 1) from HIN.out)
          have hq1 : IntKind.i64.wrap ((q : Int) + 1) = (q : Int) + 1 := by rw [IntKind.wrap_i64]; omega
          clear hji hgi hr
          go_wp2_with fail
          go_quiet (fail)
          go_wp2_with fail
          refine ⟨⟨k + 1, q + 1, by have := HQ.out; omega, by have := HQ.out; omega, by go_num, ?_, ?_, ?_⟩, by simp [intOf]; omega⟩
          · rw [← HX.out]; exact Lib.hid (GO.drewN HG.out _)
          · exact Lib.hid (grown_dF HR.out _)
          · exact Lib.hid (fun B hB s h => below_drewN (HB.out B hB s h) _)
        · have hj1 : a + t + 1 < Y.length := by have := HYL.out; have := HKB.out; omega
          obtain ⟨g, cap, hv1, hg1, hg2, hc1, hf1, hs1⟩ := HG.out.at_ hj1
          obtain ⟨g', cap', hv2, -, -, hc2, hf2, -⟩ := HG.out.at_ (k := a + t) (by omega)
          simp only [Value.slice.injEq] at hv1
          obtain ⟨rfl, -, -⟩ := hv1
          simp only [Value.slice.injEq, Option.some.injEq, Addr.mk.injEq, and_true] at hv2
          obtain ⟨rfl, -, -⟩ := hv2
          have e1 : Y[a + t + 1] = Y.getD (a + t + 1) 0 := by rw [List.getD_eq_getElem?_getD, List.getElem?_eq_getElem hj1]; rfl
          have e2 : Y[a + t]'(by omega) = Y.getD (a + t) 0 := by rw [List.getD_eq_getElem?_getD, List.getElem?_eq_getElem (by omega)]; rfl
          rw [e1] at hc1
          rw [e2] at hc2
          have HCM := Lib.hid (fun (w' : World) => HF.out (Y.getD (a + t + 1) 0) (Y.getD (a + t) 0) w' (HYD.out _ (getD_memF hj1)) (HYD.out _ (getD_memF (by omega))))
          have HE := hE
          have HSW := Lib.hid (show insA (ltC cmp) 0 a Y (t + 1) = if decide (cmp (Y.getD (a + t + 1) 0) (Y.getD (a + t) 0) < 0) then insA (ltC cmp) 0 a (swp 0 Y (a + t)) t else Y from rfl)
          have HSY := Lib.hid (show swp 0 Y (a + t) = (Y.set (a + t + 1) (Y.getD (a + t) 0)).set (a + t) (Y.getD (a + t + 1) 0) from rfl)
          obtain ⟨h3, h4⟩ := hs1 (Y.getD (a + t) 0)
          obtain ⟨g'', cap'', hv3, -, -, -, -, hs2⟩ := h3.at_ (k := a + t) (by rw [List.length_set]; omega)
          simp only [Value.slice.injEq, Option.some.injEq, Addr.mk.injEq, and_true] at hv3
          obtain ⟨rfl, -, -⟩ := hv3
          obtain ⟨h5, h6⟩ := hs2 (Y.getD (a + t + 1) 0)
          rw [← HSY.out] at h5
          have HG5 := Lib.hid h5
          have HR5 := Lib.hid (grown_transF (grown_transF HR.out h4) h6)
          clear h3 h4 h5 h6 hs1 hs2 e1 e2 hgi
          have m1 : (a : Int) < ji := by omega
          have m2 : 0 ≤ ji := by omega
          have m3 : ji < (n : Int) := by have := HYL.out; omega
          have m4 : ji.toNat = a + t + 1 := by omega
          have m5 : 0 ≤ ji - 1 := by omega
          have m6 : ji - 1 < (n : Int) := by omega
          have m7 : (ji - 1).toNat = a + t := by omega
          have m8 : IntKind.i64.wrap (ji - 1) = ji - 1 := by rw [IntKind.wrap_i64]; omega
          clear hji
          obtain ⟨p, hp⟩ : ∃ p, p = a + t := ⟨_, rfl⟩
          have HP := Lib.hid hp
          rw [← hp] at m4 m7 hc1 hc2 hf1 hf2 HG5 HR5 HCM
          have HSW' := Lib.hid (hp ▸ HSW.out)
          have HPJ := Lib.hid (show p + 1 < Y.length by omega)
          rw [← hp] at HSW
          clear hp hj1 hr HSW' HSY
          have m9 : p ≠ p + 1 := by omega
          have m10 : p + 1 ≠ p := by omega
          by_cases hcmp : cmp (Y.getD (p + 1) 0) (Y.getD p 0) < 0
          · have hcd : decide (cmp (Y.getD (p + 1) 0) (Y.getD p 0) < 0) = true := decide_eq_true hcmp
            have HNX := Lib.hid (show insA (ltC cmp) 0 a (swp 0 Y p) t = isortA (ltC cmp) 0 a xs (k + 1) by rw [← HIN.out, HSW.out, hcd, if_pos rfl])
            generalize Y.getD (p + 1) 0 = ya at *
            generalize Y.getD p 0 = yb at *
            generalize cmp ya yb = cv at *
            go_wp2_with fail
            go_quiet ((first | exact quiet_dr (HCM.out _) | exact quiet_dr2 (HCM.out _)))
            go_wp2_with fail
            have HG6 := Lib.hid (show GO (Value.float .f32) 33 lo (((wr.drewN nq).setCell ⟨g, p + 1, none⟩ (.float .f32 yb)).setCell ⟨g, p, none⟩ (.float .f32 ya)) (.slice (some ⟨g, 0, none⟩) n c) (swp 0 Y p) from GO.drewN HG5.out nq)
            have HR6 := Lib.hid (show w.grownBy (((wr.drewN nq).setCell ⟨g, p + 1, none⟩ (.float .f32 yb)).setCell ⟨g, p, none⟩ (.float .f32 ya)) (Value.slice (some ⟨g, 0, none⟩) n c).ownBlock from grown_dF HR5.out nq)
            clear HG5 HR5
            have hc1' : (wr.drewN nq).cell? ⟨g, p + 1, none⟩ = some (.float .f32 ya) := hc1
            have hc2' : (wr.drewN nq).cell? ⟨g, p, none⟩ = some (.float .f32 yb) := hc2
            have hf1' : (wr.drewN nq).frozen? ⟨g, p + 1, none⟩ = false := hf1
            have hf2' : (wr.drewN nq).frozen? ⟨g, p, none⟩ = false := hf2
            have HB6 := Lib.hid (fun B hB s h => below_drewN (HB.out B hB s h) nq)
            clear hc1 hc2 hf1 hf2 HCM HB
            generalize World.drewN wr nq = w6 at *
            go_region
            go_wp2_with fail
            refine ⟨⟨t, p, swp 0 Y p, HP.out, by omega, by (have := HJI.out; have := HP.out; congr 1; omega), Lib.hid (by rw [swp_length, HYL.out]), Lib.hid (swp_mem HPJ.out HYD.out), HNX, Lib.hid (GO.drew HG6.out), Lib.hid (grown_transF HR6.out (grown_of_below (Below.drew (Below.refl _ _)) _)), ?_⟩, by simp [intOf]; have := HJI.out; omega⟩
            exact Lib.hid (fun B hB s h => (((HB6.out B hB s h).setCell (p := ⟨g, p + 1, none⟩) (hB g rfl) (.float .f32 yb)).setCell (p := ⟨g, p, none⟩) (hB g rfl) (.float .f32 ya)).drew)
          · have hcd : decide (cmp (Y.getD (p + 1) 0) (Y.getD p 0) < 0) = false := decide_eq_false hcmp
            have HX := Lib.hid (show Y = isortA (ltC cmp) 0 a xs (k + 1) by rw [← HIN.out, HSW.out, hcd]; rfl)
            have hq1 : IntKind.i64.wrap ((q : Int) + 1) = (q : Int) + 1 := by rw [IntKind.wrap_i64]; omega
            generalize Y.getD (p + 1) 0 = ya at *
            generalize Y.getD p 0 = yb at *
            generalize cmp ya yb = cv at *
            go_wp2_with fail
            go_quiet ((first | exact quiet_dr (HCM.out _) | exact quiet_dr2 (HCM.out _)))
            go_wp2_with fail
            refine ⟨⟨k + 1, q + 1, by have := HQ.out; omega, by have := HQ.out; omega, by go_num, ?_, ?_, ?_⟩, by simp [intOf]; omega⟩
            · rw [← HX.out]; exact Lib.hid (GO.drewN HG.out _)
            · exact Lib.hid (grown_dF HR.out _)
            · exact Lib.hid (fun B hB s h => below_drewN (HB.out B hB s h) _)
    · have hki : ¬ ((q : Int) < (b : Int)) := by omega
      have HK := Lib.hid (show k = b - a - 1 by omega)
      go_wp2_with fail
      (try simp only [Exit.inBlock, Exit.then])
      refine bodyPost_end (v := .tuple #[]) (by simp [results, Try.results161, go_sem]; try rfl) rfl ?_
      rw [← HK.out]
      exact ⟨rfl, HG.out, HR.out, HB.out⟩

end Go.Proofs.Ytkkomajokdlkeaa

namespace Go.Proofs.Ytkkomajokdlkeaa
set_option linter.unusedSimpArgs false
set_option linter.unusedVariables false
set_option maxRecDepth 100000
set_option maxHeartbeats 4000000
set_option linter.unusedSimpArgs false
set_option linter.unusedVariables false
open Go.RowKit
attribute [local go_sem] run_store_float run_store_complex alloc_drewN setCell_drewN
theorem OW.raw {T base : Nat} {w : World} {v : Value} {cs : List Nat} (h : OW T base w v cs) (hf : allFin cs = true) : GO (Value.float .f32) T base w v cs ∧ ∀ c ∈ cs, fin c = true ∧ c < 4294967296 := by
  obtain ⟨xs, ho, hc, hx⟩ := h
  have e : xs = cs := by
    have hall : ∀ x ∈ xs, cn .f32 x = x := by
      intro x hm
      have hm2 : cn .f32 x ∈ cs := by rw [← hc]; exact List.mem_map_of_mem hm
      have h2 := (raw_of (x := x) rfl (List.all_eq_true.1 hf _ hm2)).1
      exact h2.symm
    rw [← hc]
    exact ((List.map_congr_left hall).trans (List.map_id' xs)).symm
  subst e
  exact ⟨ho, fun c hm => ⟨List.all_eq_true.1 hf c hm, hx c hm⟩⟩
theorem OW.of_raw {T base : Nat} {w : World} {v : Value} {cs : List Nat} (h : GO (Value.float .f32) T base w v cs) (hd : ∀ c ∈ cs, fin c = true ∧ c < 4294967296) : OW T base w v cs := by
  refine ⟨cs, h, ?_, fun x hx => (hd x hx).2⟩
  exact (List.map_congr_left fun x hx => cn_of_not (k := .f32) (fin_notNaN (hd x hx).1)).trans (List.map_id' cs)
def finW (c : Nat) : Prop := fin c = true ∧ c < 4294967296
def sgnW (a b : Nat) : Int := if fc .lss .f32 a b then -1 else if fc .gtr .f32 a b then 1 else 0

theorem i_sorted1 : CmpsF Try.prog 152 finW sgnW := by
  intro a b w _ _
  cases h1 : fc .lss .f32 a b
  · cases h2 : fc .gtr .f32 a b
    all_goals
      have o1 : (FloatKind.f32.format.order a b == some .lt) = false := h1
      have HS := Lib.hid (show sgnW a b = if fc .gtr .f32 a b then 1 else 0 by rw [sgnW, h1]; rfl)
      rw [h2] at HS
      first | (have o2 : (FloatKind.f32.format.order a b == some .gt) = false := h2) | (have o2 : (FloatKind.f32.format.order a b == some .gt) = true := h2)
      rw [HS.out]
      clear h1 h2
      go_enter Try.func152, Try.ntmps152
      go_wp2_with fail
      go_ret
      exact ⟨rfl, Dr.refl _⟩
  · have o1 : (FloatKind.f32.format.order a b == some .lt) = true := h1
    have HS := Lib.hid (show sgnW a b = -1 by rw [sgnW, h1]; rfl)
    rw [HS.out]
    clear h1
    go_enter Try.func152, Try.ntmps152
    go_wp2_with fail
    go_ret
    exact ⟨rfl, Dr.refl _⟩

theorem f_stableF19 (F : Nat) (D : Nat → Prop) (cmp : Nat → Nat → Int) (hE : ∀ (args : Array Value) (w : World), (callFunc F args).run Try.prog w = .ok (.enter F args) w) (v : Value) (xs : List Nat) (lo : Nat) (w : World)
    (hv : GO (Value.float .f32) 33 lo w v xs) (hl : xs.length < 20) (hD : ∀ a ∈ xs, D a) (hF : CmpsF Try.prog F D cmp) :
    Calls Try.prog 159 #[v, .int .i64 xs.length, .func (.func F) #[] #[]] w fun e w' => e = .returned (.tuple #[]) ∧ GO (Value.float .f32) 33 lo w' v (isortA (ltC cmp) 0 0 xs (xs.length - 1)) ∧ w.grownBy w' v.ownBlock ∧ BlwS v w w' := by
  have hc := f_insSortF F D cmp hE v xs lo 0 xs.length w hv (by omega) (by omega) (Nat.le_refl _) hD hF
  rw [Nat.sub_zero] at hc
  have h20 : ¬ ((20 : Int) ≤ (xs.length : Int)) := by omega
  have h21 : ¬ ((20 : Int) < (xs.length : Int)) := by omega
  clear hv hD hF
  go_enter Try.func159, Try.ntmps159
  go_wp2_with fail
  go_loopw [7, 8] (fun a b wr => a = .int .i64 0 ∧ b = .int .i64 20 ∧ wr = w) (fun _ _ _ => 0)
  case atStart => exact ⟨rfl, rfl, rfl⟩
  case round =>
    obtain ⟨rfl, rfl, rfl⟩ := hrel
    go_wp2_with fail
    refine hc.mono ?_; rintro e w1 ⟨rfl, h2, h3, h4⟩
    go_wp2_with fail
    go_loopw [6] (fun a wr => a = .int .i64 20 ∧ wr = w1) (fun _ _ => 0)
    case atStart => exact ⟨rfl, rfl⟩
    case round =>
      obtain ⟨rfl, rfl⟩ := hrel
      go_wp2_with fail
      (try simp only [Exit.inBlock, Exit.then])
      refine bodyPost_end (v := .tuple #[]) (by simp [results, Try.results159, go_sem]; try rfl) rfl ?_
      exact ⟨rfl, h2, h3, h4⟩

theorem f_SortStableF19 (F : Nat) (D : Nat → Prop) (cmp : Nat → Nat → Int) (hE : ∀ (args : Array Value) (w : World), (callFunc F args).run Try.prog w = .ok (.enter F args) w) (v : Value) (xs : List Nat) (lo : Nat) (w : World)
    (hv : GO (Value.float .f32) 33 lo w v xs) (hl : xs.length < 20) (hD : ∀ a ∈ xs, D a) (hF : CmpsF Try.prog F D cmp) :
    Calls Try.prog 151 #[v, .func (.func F) #[] #[]] w fun e w' => e = .returned (.tuple #[]) ∧ GO (Value.float .f32) 33 lo w' v (isortA (ltC cmp) 0 0 xs (xs.length - 1)) ∧ w.grownBy w' v.ownBlock ∧ BlwS v w w' := by
  have hc := f_stableF19 F D cmp hE v xs lo w hv hl hD hF
  obtain ⟨ao, c, rfl, -, -⟩ := hv.slice
  clear hv hD hF
  go_enter Try.func151, Try.ntmps151
  go_wp2_with fail
  refine hc.mono ?_; rintro e w1 ⟨rfl, h2, h3, h4⟩
  go_wp2_with fail
  (try simp only [Exit.inBlock, Exit.then])
  refine bodyPost_end (v := .tuple #[]) (by simp [results, Try.results151, go_sem]; try rfl) rfl ?_
  exact ⟨rfl, h2, h3, h4⟩

def sort19 (cs : List Nat) : List Nat := isortA (ltC sgnW) 0 0 cs (cs.length - 1)
theorem i_sorted19 (v : Value) (cs : List Nat) (w : World) (hv : SB w v cs) (hf : allFin cs = true) (h1 : 1 ≤ cs.length) (hl : cs.length < 20) :
    Calls Try.prog 137 #[v] w fun e w' => (∃ u, e = .returned u ∧ OW 33 w.heap.size w' u (sort19 cs)) ∧ Below w.heap.size w w' := by
  have HV := Lib.hid hv
  have HF := Lib.hid hf
  clear hv hf
  go_enter Try.func137, Try.ntmps137
  go_wp2_with fail
  refine (f_Clone v cs w HV.out h1 (by omega)).mono ?_; rintro z w1 ⟨⟨u, rfl, ho⟩, hb⟩
  obtain ⟨hg, hd⟩ := ho.raw HF.out
  have HG := Lib.hid hg
  have HD := Lib.hid hd
  have HB := Lib.hid hb
  clear ho hg hd hb
  go_wp2_with fail
  refine (f_SortStableF19 152 finW sgnW (fun _ _ => by kernel_rfl) u cs w.heap.size w1 HG.out hl HD.out i_sorted1).mono ?_; rintro z w2 ⟨rfl, h2, h3, h4⟩
  have H2 := Lib.hid h2
  have H4 := Lib.hid h4
  clear h2 h3 h4
  go_wp2_with fail
  go_ret
  refine ⟨⟨_, rfl, OW.of_raw H2.out (isortA_mem (ltC sgnW) 0 HD.out (cs.length - 1) (by omega))⟩, ?_⟩
  exact H4.out _ (fun g e => HG.out.own_ge g e) _ HB.out

end Go.Proofs.Ytkkomajokdlkeaa
