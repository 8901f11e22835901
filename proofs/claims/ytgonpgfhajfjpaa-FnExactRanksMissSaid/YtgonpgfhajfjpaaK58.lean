/- Contracts: slices of slices of numbers marked and held. -/
import Derived.Test.YtgonpgfhajfjpaaK57
namespace Go.Proofs.Ytgonpgfhajfjpaa
set_option linter.unusedSimpArgs false
set_option linter.unusedVariables false
set_option maxRecDepth 100000
set_option maxHeartbeats 4000000
set_option linter.unusedSimpArgs false
set_option linter.unusedVariables false
open Go.RowKit
attribute [local go_sem] run_store_float run_store_complex alloc_drewN setCell_drewN

/-- The mark ahead of row n. -/
def mkAt (css : List (List Nat)) (k : Int) : Nat → Int
  | 0 => k
  | n + 1 => mkAt css k n + (rowL css n).length
def mkL (css : List (List Nat)) (k : Int) : List (List Nat) := (List.range css.length).map fun i => markL (mkAt css k i) (rowL css i).length
theorem mkL_length (css : List (List Nat)) (k : Int) : (mkL css k).length = css.length := by simp [mkL]
theorem mkL_get {css : List (List Nat)} {k : Int} {i : Nat} (hi : i < css.length) : (mkL css k)[i]? = some (markL (mkAt css k i) (rowL css i).length) := by simp [mkL, hi]
theorem mkAt_le {css : List (List Nat)} {k : Int} {i j : Nat} (h : i ≤ j) : mkAt css k i ≤ mkAt css k j := by
  induction h with
  | refl => exact Int.le_refl _
  | step _ ih => refine Int.le_trans ih ?_; show _ ≤ _ + _; omega
/-- A row is turned by a call. -/
theorem SD.row_call {T1 T2 lo hi : Nat} {w : World} {v : Value} {css : List (List Nat)} (hne : T1 ≠ T2) (h : SD T1 T2 lo hi w v css) {c : Nat} (hc : c < css.length) :
    ∃ g cap u, v = .slice (some ⟨g, 0, none⟩) css.length cap ∧ g < w.heap.size ∧ w.cell? ⟨g, c, none⟩ = some u ∧ OW T2 lo w u (rowL css c) ∧ (∀ b, u.ownBlock = some b → lo ≤ b ∧ b < hi) ∧
      ∀ w' cs', OW T2 lo w' u cs' → w.grownBy w' u.ownBlock → SD T1 T2 lo hi w' v (css.set c cs') := by
  obtain ⟨vs, hgo, hlen, hrows, hhi, hds⟩ := h
  have hcv : c < vs.length := by omega
  obtain ⟨g, cap, hv, h1, h2, h3, -, -⟩ := hgo.at_ (k := c) hcv
  have hr := hrows c hcv hc
  refine ⟨g, cap, vs[c], by rw [hv, hlen], h2, h3, by rw [rowL_eq hc]; exact hr, fun b hb => ⟨(hr.block b hb).1, hhi c hcv b hb⟩, fun w' cs' ho hg => ?_⟩
  refine ⟨vs, hgo.kept hg ?_, by simp [hlen], fun i hi1 hi2 => ?_, hhi, hds⟩
  · rcases hr.ne_go hgo (Ne.symm hne) with h4 | h4
    · rw [h4]; cases v.ownBlock <;> simp
    · exact .inr (Ne.symm h4)
  · by_cases hic : i = c
    · subst hic
      simp only [List.getElem_set_self]
      exact ho
    · rw [List.getElem_set_ne (Ne.symm hic)]
      exact (hrows i hi1 (by simpa using hi2)).kept hg (hds i c hi1 hcv hic)
/-- Slices of integers are as they were. -/
def KI (T : Nat) (w w' : World) : Prop := ∀ b v (xs : List Int), GO (Value.int .i64) T b w v xs → GO (Value.int .i64) T b w' v xs
theorem KI.refl (T : Nat) (w : World) : KI T w w := fun _ _ _ h => h
theorem KI.trans {T : Nat} {w w1 w2 : World} (h : KI T w w1) (h' : KI T w1 w2) : KI T w w2 := fun b v xs x => h' b v xs (h b v xs x)

theorem l_markFloat32SS (lo hi : Nat) (v : Value) (css : List (List Nat)) (k : Int) (w : World) (hv : SD 23 37 lo hi w v css) (h0 : 0 ≤ k) (h1 : mkAt css k css.length ≤ 1000000000000) (hlh : hi ≤ w.heap.size) :
    Calls Try.prog 12 #[v, .int .i64 k] w fun e w' => e = .returned (.int .i64 (mkAt css k css.length)) ∧ SD 23 37 lo hi w' v (mkL css k) ∧ Wi lo hi w w' ∧ KI 2 w w' := by
  obtain ⟨ao, cap, rfl, hc1, hc2⟩ := hv.so.ss.slice
  have HV := Lib.hid hv
  clear hv
  go_enter Try.func12, Try.ntmps12
  go_wp2_with fail
  go_loopw [1, 5] (fun m i wr => ∃ j : Nat, j ≤ css.length ∧ i = .int .i64 (j : Int) ∧ (∃ q : Int, m = .int .i64 q ∧ 0 ≤ q ∧ Hid (q = mkAt css k j)) ∧ Hid (SD 23 37 lo hi wr (.slice ao css.length cap) (mixL (mkL css k) css j)) ∧ Wi lo hi w wr ∧ Hid (KI 2 w wr)) (fun _ i _ => css.length - (intOf i).toNat)
  case atStart => exact ⟨0, Nat.zero_le _, rfl, ⟨k, rfl, h0, rfl⟩, (by show SD _ _ _ _ _ _ _; rw [mixL_zero]; exact HV.out), Wi.refl _ _ _, KI.refl _ _⟩
  case round =>
    obtain ⟨j, hj, rfl, ⟨q, rfl, hq0, HQ⟩, HS, hw, HKI⟩ := hrel
    have hml : (mixL (mkL css k) css j).length = css.length := mixL_length (mkL_length ..) j
    by_cases hlt : j < css.length
    · have hjl : (j : Int) < (css.length : Int) := by omega
      obtain ⟨g, cap2, u, e1, hg, hcu, hu, hub, hst⟩ := HS.out.row_call (by decide) (c := j) (by omega)
      simp only [Value.slice.injEq] at e1
      obtain ⟨rfl, -, rfl⟩ := e1
      rw [mixL_row (mkL_length ..) hlt] at hu
      have HU := Lib.hid hu
      have HST := Lib.hid hst
      have HUB := Lib.hid hub
      have hb1 : mkAt css k (j + 1) ≤ mkAt css k css.length := mkAt_le (by omega)
      have hb2 : mkAt css k (j + 1) = mkAt css k j + (rowL css j).length := rfl
      have hb3 : q + (rowL css j).length ≤ 1000000000000 := by have := HQ.out; omega
      have HB2 := Lib.hid hb2
      clear hu hst hub hb1 hb2
      go_wp2_with fail
      refine (l_markFloat32S lo u (rowL css j) q _ HU.out hq0 (by omega) (by omega)).mono ?_; rintro e w1 ⟨rfl, ho, hgr⟩
      have HO := Lib.hid (HST.out _ _ ho hgr)
      have hwi := hw.trans (Wi.of_grown hgr (fun b hb => HUB.out b hb))
      have HKI2 := Lib.hid (HKI.out.trans (fun b v xs h => GO.kept_f h HU.out (by decide) hgr))
      clear ho hgr
      go_wp2_with fail
      refine ⟨⟨j + 1, by omega, by go_num, ⟨_, rfl, by omega, ?_⟩, ?_, hwi, HKI2.out⟩, by simp [intOf]; omega⟩
      · show _ = _
        rw [HB2.out, HQ.out]
      · show SD _ _ _ _ _ _ _
        have h3 := HO.out
        rw [HQ.out, mixL_set (mkL_length ..) hlt (mkL_get hlt)] at h3
        exact h3
    · obtain rfl : j = css.length := by omega
      have hjl : ¬ ((css.length : Int) < (css.length : Int)) := by omega
      go_wp2_with fail
      go_ret
      refine ⟨ret_int HQ.out, ?_, hw, HKI.out⟩
      have h3 := HS.out
      rw [mixL_all (mkL_length ..) (Nat.le_refl _)] at h3
      exact h3

theorem SD.blank {T1 T2 lo hi n : Nat} {w : World} {v : Value} (h : GO id T1 lo w v (List.replicate n (Value.slice none 0 0))) : SD T1 T2 lo hi w v (List.replicate n []) :=
  ⟨List.replicate n (Value.slice none 0 0), h, by simp, (fun i h1 h2 => by simp only [List.getElem_replicate]; exact OW.nil ..), (fun i h1 g hg => by simp [Value.ownBlock] at hg), (fun i j h1 h2 _ => .inl (by simp [Value.ownBlock]))⟩
theorem l_toFloat32SD (v : Value) (css : List (List Nat)) (w : World) (hv : SS w v css) (hn : css.length < 1099511627776) (hn2 : ∀ i, i < css.length → ((css.getD i []).length : Int) ≤ 1048576) :
    Calls Try.prog 6 #[v] w fun e w' => ∃ u, e = .returned u ∧ SD 23 37 w.heap.size w'.heap.size w' u css ∧ Below w.heap.size w w' := by
  obtain ⟨ao, c, rfl, hc1, hc2, hget⟩ := hv.get rfl
  have HG := Lib.hid hget
  have HN2 := Lib.hid hn2
  clear hget hv hn2
  go_enter Try.func6, Try.ntmps6
  go_wp2_with (refine wpList_gmake (inj := (id : Value → Value)) oneF32S (.slice none 0 0) rfl css.length rfl rfl hn ?_; intro w1 ho hg; have HO := Lib.hid ho; clear ho)
  have hb1 : Below w.heap.size w w1 := (Below.refl _ w).grown hg (Nat.le_refl _) (by simp)
  clear hg
  go_loopw [4] (fun i wr => ∃ k : Nat, k ≤ css.length ∧ i = .int .i64 k ∧ Hid (SD 23 37 w.heap.size wr.heap.size wr (.slice (some ⟨w.heap.size, 0, none⟩) css.length css.length) (mixL css (List.replicate css.length []) k)) ∧ Below w.heap.size w wr) (fun i _ => css.length - (intOf i).toNat)
  case atStart => exact ⟨0, Nat.zero_le _, rfl, (by show SD _ _ _ _ _ _ _; rw [mixL_zero]; exact SD.blank HO.out), hb1⟩
  case round =>
    obtain ⟨k, hk, rfl, HR, hb⟩ := hrel
    have hrl : (List.replicate css.length ([] : List Nat)).length = css.length := List.length_replicate
    have hml : (mixL css (List.replicate css.length []) k).length = css.length := by rw [mixL_length (by rw [hrl]), hrl]
    by_cases hlt : k < css.length
    · obtain ⟨b, off, u, rfl, hbl, hc, hsb⟩ := HG.out k hlt
      have hc' := (hb.cell (p := ⟨b, off + k, none⟩) hbl).trans hc
      have HS := Lib.hid (hsb.below hb (Nat.le_refl _))
      have hz := hb.size
      have hn3 : (css.getD k []).length < 1099511627776 := by have := HN2.out k hlt; omega
      have HN3 := Lib.hid hn3
      have HRL := Lib.hid hrl
      have HML := Lib.hid hml
      clear hc hsb hn3 hrl hml
      go_wp2_with fail
      refine (l_toFloat32S _ (css.getD k []) _ HS.out HN3.out).mono ?_; rintro e w2 ⟨u2, rfl, ho2, hb2⟩
      obtain ⟨bo2, c2, n2, rfl⟩ : ∃ bo2 c2 n2, u2 = .slice bo2 n2 c2 := by obtain ⟨a1, a2, a3, a4, -⟩ := ho2.sb.sl; exact ⟨a1, a2, _, a4⟩
      obtain ⟨g, cap, hv1, hg1, hg2, ⟨u0, hu0⟩, hfz, hst⟩ := (HR.out.keep hb2).at_ (by decide) hz (k := k) (by rw [HML.out]; exact hlt)
      simp only [Value.slice.injEq, Option.some.injEq, Addr.mk.injEq, and_true] at hv1
      obtain ⟨rfl, hA, hB⟩ := hv1
      have HST := Lib.hid (hst _ _ ho2)
      have hz2 := hb2.size
      have hbb := hb.trans (hb2.mono hz)
      clear hA hB hst ho2 hb2
      go_wp2_with fail
      refine ⟨⟨k + 1, by omega, by go_num, ?_, ?_⟩, by simp [intOf]; omega⟩
      · show SD _ _ _ _ _ _ _
        have h1 := HST.out.1
        rw [mixL_set (by rw [HRL.out]) (by rw [HRL.out]; exact hlt) (show css[k]? = some (css.getD k []) by rw [List.getD_eq_getElem?_getD, List.getElem?_eq_getElem hlt]; rfl)] at h1
        exact h1
      · exact hbb.trans (show Below w.heap.size w2 _ from (Below.refl w.heap.size w2).setCell (Nat.le_refl w.heap.size) _)
    · go_wp2_with fail
      go_ret
      obtain rfl : k = css.length := by omega
      have h1 := HR.out
      rw [mixL_all (by rw [hrl]) (by rw [hrl]; exact Nat.le_refl _)] at h1
      exact ⟨_, rfl, h1, hb⟩

end Go.Proofs.Ytgonpgfhajfjpaa
