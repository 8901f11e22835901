/- Contracts: decimals, lines, journals by the program. -/
import Derived.Test.YtebahccjaieajaaDoorK94
import Derived.Test.YtebahccjaieajaaDoorShelf
import Derived.Lib.SmallJoins
namespace Go.Proofs.YtebahccjaieajaaDoor
set_option linter.unusedSimpArgs false
set_option linter.unusedVariables false
set_option maxRecDepth 100000
set_option maxHeartbeats 4000000
open Go.RowKit
attribute [local go_sem] run_store_float run_store_complex alloc_drewN setCell_drewN

/-- A block of one-cell elements is read as a slice. -/
theorem GL.block {α : Type} (inj : α → Value) (T : Nat) (w : World) (xs : List α) (hl : xs.length ≤ 9223372036854775807) : GL inj (w.alloc (.cells (xs.map inj).toArray T)) (.slice (some ⟨w.heap.size, 0, none⟩) xs.length xs.length) xs := by
  refine ⟨_, _, rfl, ⟨Nat.le_refl _, hl⟩, fun i hi => ⟨_, _, rfl, by simp, ?_⟩⟩
  rw [World.cell?_alloc_new]
  simp [hi]

theorem f_Split (t : ByteArray) (m : Int) (w : World) (hs : t.size ≤ 1000000000) (hm : w.cell? ⟨0, 0, none⟩ = some (.int .i64 m)) (c : UInt8) :
    Calls Tryd.prog 59 #[.string t, .string ⟨#[c]⟩] w fun e w' => ∃ b N, e = .returned (.slice (some ⟨b, 0, none⟩) N N) ∧ N = (cutC c t.data.toList).length ∧ GL Value.string w' (.slice (some ⟨b, 0, none⟩) N N) (cutB c t) ∧ Below w.heap.size w w' := by
  refine (Tryd.strings_Split t ⟨#[c]⟩ m w (by omega) hm (by simp [ByteArray.size])).mono fun e w' ⟨he, hw⟩ => ?_
  rw [splitB_cut] at hw
  rw [countB_cut] at he
  subst he hw
  have h1 := cutB_length c t
  have h2 := cutC_le c t.data.toList
  rw [data_len] at h2
  refine ⟨_, _, rfl, rfl, ?_, (Below.refl _ _).alloc (Nat.le_refl _) _⟩
  have h3 := GL.block Value.string 9 w (cutB c t) (by omega)
  rw [h1] at h3
  exact h3

theorem i_Decimal (n : Int) (h0 : -9223372036854775808 ≤ n) (h1 : n ≤ 9223372036854775807) (w : World) (htab : Lib.TabIs Tryd.prog w "internal/strconv.uint64pow10" .u64 Lib.pow10Tab) :
    Calls Tryd.prog 37 #[.int .i64 n] w fun e w' => e = .returned (.string (tx (Lib.itoa n))) ∧ Below w.heap.size w w' := by
  go_enter Tryd.func37, Tryd.ntmps37
  go_wp2_with fail
  refine (Tryd.strconv_FormatInt_10 n h0 h1 _ htab).mono ?_; rintro e w1 ⟨rfl, k, os, rfl⟩
  have hb : Below w.heap.size w (Go.Sort.grow (w.drewN k) os) := below_regrown w (w.drawn + k) os
  generalize Go.Sort.grow (w.drewN k) os = w1 at *
  go_wp2_with fail
  go_ret
  exact ⟨rfl, hb⟩

theorem i_linesOf (t : ByteArray) (m : Int) (w : World) (hs : t.size ≤ 1000000000) (hm : w.cell? ⟨0, 0, none⟩ = some (.int .i64 m)) :
    Calls Tryd.prog 32 #[.string t] w fun e w' => ∃ b K c, Hid (K = (cutC 10 t.data.toList).dropLast.length) ∧ e = .returned (.tuple #[.slice (some ⟨b, 0, none⟩) K c, .bool (decide (t.size ≤ 16000 ∧ (cutC 10 t.data.toList).getLast (cutC_ne 10 t.data.toList) = []))]) ∧ GL Value.string w' (.slice (some ⟨b, 0, none⟩) K c) ((cutC 10 t.data.toList).dropLast.map tx) ∧ Below w.heap.size w w' := by
  obtain ⟨ok, hok⟩ : ∃ ok, ok = decide (t.size ≤ 16000 ∧ (cutC 10 t.data.toList).getLast (cutC_ne 10 t.data.toList) = []) := ⟨_, rfl⟩
  rw [← hok]
  obtain ⟨ls, hls⟩ : ∃ ls, ls = (cutC 10 t.data.toList).dropLast := ⟨_, rfl⟩
  rw [← hls]
  go_enter Tryd.func32, Tryd.ntmps32
  go_wp2_with fail
  refine (f_Split t m _ hs hm 10).mono ?_; rintro e w1 ⟨g, N, rfl, hN, ho, hb⟩
  obtain ⟨K, hK⟩ : ∃ K, N = K + 1 := ⟨N - 1, by have := cutC_len 10 t.data.toList; omega⟩
  have hKs : K ≤ 1000000000 := by have := cutC_le 10 t.data.toList; rw [data_len] at this; omega
  subst hK
  have hD : (cutC 10 t.data.toList).dropLast.length = K := by rw [List.length_dropLast, ← hN]; rfl
  have hlast : (cutB 10 t)[K]? = some (tx ((cutC 10 t.data.toList).getLast (cutC_ne 10 t.data.toList))) := by
    rw [cutB, List.getElem?_map, List.getLast_eq_getElem, List.getElem?_eq_getElem (by omega)]
    simp only [← hN, Option.map_some, Nat.add_sub_cancel]
  have hcell := ho.cells K _ hlast
  rw [Nat.zero_add] at hcell
  have HO := Lib.hid ho
  have HD := Lib.hid (show ls.length = K by rw [hls, hD])
  clear ho hlast hN
  have HG := Lib.hid (show ∀ w', Below w1.heap.size w1 w' → GL Value.string w' (.slice (some ⟨g, 0, none⟩) K (K + 1)) (ls.map tx) from fun w' h => by
    refine GL.pre (HO.out.keep h) ⟨K, ?_⟩ (by rw [List.length_map, HD.out])
    rw [hls, cutB, ← List.map_take, List.dropLast_eq_take]
    congr 2
    rw [List.length_dropLast] at hD
    omega)
  clear hls
  by_cases hl : (cutC 10 t.data.toList).getLast (cutC_ne 10 t.data.toList) = []
  · have HL := Lib.hid hl
    rw [hl, show tx [] = ⟨#[]⟩ from rfl] at hcell
    clear hl hD
    go_wp2_with fail
    by_cases hbig : t.size ≤ 16000
    · have HB := Lib.hid (show ok = true from hok.trans (decide_eq_true ⟨hbig, HL.out⟩))
      try clear hok
      have hbi : (t.size : Int) ≤ 16000 := by omega
      have hkk : (K : Int) ≤ (K : Int) + 1 := by omega
      go_region
      go_wp2_with fail
      go_ret2
      rw [HB.out]
      first | exact ⟨g, K, K + 1, HD.out.symm, rfl, HG.out _ ((Below.refl _ _).drew), hb.drew⟩ | exact ⟨g, K, HD.out.symm, K + 1, rfl, HG.out _ ((Below.refl _ _).drew), hb.drew⟩
    · have HB := Lib.hid (show ok = false from hok.trans (decide_eq_false (fun h => hbig h.1)))
      try clear hok
      have hbi : ¬ (t.size : Int) ≤ 16000 := by omega
      have hkk : (K : Int) ≤ (K : Int) + 1 := by omega
      go_region
      go_wp2_with fail
      go_ret2
      rw [HB.out]
      first | exact ⟨g, K, K + 1, HD.out.symm, rfl, HG.out _ ((Below.refl _ _).drew), hb.drew⟩ | exact ⟨g, K, HD.out.symm, K + 1, rfl, HG.out _ ((Below.refl _ _).drew), hb.drew⟩
  · have HB := Lib.hid (show ok = false from hok.trans (decide_eq_false (fun h => hl h.2)))
    have hne := str_full (x := tx ((cutC 10 t.data.toList).getLast (cutC_ne 10 t.data.toList))) (fun e => hl (tx_inj e))
    generalize tx ((cutC 10 t.data.toList).getLast (cutC_ne 10 t.data.toList)) = LL at *
    have hkk : (K : Int) ≤ (K : Int) + 1 := by omega
    clear hl hD hok
    go_wp2_with fail
    by_cases hbig : t.size ≤ 16000
    · have hbi : (t.size : Int) ≤ 16000 := by omega
      go_region
      go_wp2_with fail
      go_ret2
      rw [HB.out]
      first | exact ⟨g, K, K + 1, HD.out.symm, rfl, HG.out _ ((Below.refl _ _).drew), hb.drew⟩ | exact ⟨g, K, HD.out.symm, K + 1, rfl, HG.out _ ((Below.refl _ _).drew), hb.drew⟩
    · have hbi : ¬ (t.size : Int) ≤ 16000 := by omega
      go_region
      go_wp2_with fail
      go_ret2
      rw [HB.out]
      first | exact ⟨g, K, K + 1, HD.out.symm, rfl, HG.out _ ((Below.refl _ _).drew), hb.drew⟩ | exact ⟨g, K, HD.out.symm, K + 1, rfl, HG.out _ ((Below.refl _ _).drew), hb.drew⟩

set_option maxRecDepth 100000 in
theorem i_CountOutputs (t : ByteArray) (m : Int) (w : World) (hs : t.size ≤ 1000000000) (hm : w.cell? ⟨0, 0, none⟩ = some (.int .i64 m)) :
    Calls Tryd.prog 10 #[.string t] w fun e w' => e = .returned (.tuple #[.int .i64 (coQ t.data.toList).1, .int .i64 (coQ t.data.toList).2.1, .bool (coQ t.data.toList).2.2]) ∧ Below w.heap.size w w' := by
  obtain ⟨Q, hQ⟩ : ∃ Q, Q = coQ t.data.toList := ⟨_, rfl⟩
  rw [← hQ]
  go_enter Tryd.func10, Tryd.ntmps10
  go_wp2_with fail
  refine (i_linesOf t m _ hs hm).mono ?_; rintro e w1 ⟨b, K, c, hK, rfl, hv, hb⟩
  by_cases hok : t.size ≤ 16000 ∧ (cutC 10 t.data.toList).getLast (cutC_ne 10 t.data.toList) = []
  · have HF := Lib.hid (show Q = _ from hQ.trans (if_pos (by rw [data_len]; exact hok)))
    rw [decide_eq_true hok]
    clear hok hQ
    obtain ⟨ls, hls⟩ : ∃ ls, ls = (cutC 10 t.data.toList).dropLast := ⟨_, rfl⟩
    have hK := hK.out
    rw [← hls] at hK hv HF
    clear hls
    obtain ⟨ao, c', e1, hc12, hcell⟩ := hv
    injection e1 with e1 e2 e3
    subst e1 e3
    have HC := Lib.hid hcell
    have HK := Lib.hid hK
    have hKs : K ≤ 9223372036854775807 := by rw [List.length_map] at hc12; omega
    clear hcell hK e2
    go_wp2_with fail
    go_loopw [7, 19] (fun q i wr => ∃ k : Nat, k ≤ K ∧ i = .int .i64 k ∧ q = .int .i64 (badTo ls k : Nat) ∧ wr = w1) (fun _ i _ => K - (intOf i).toNat)
    case atStart => exact ⟨0, Nat.zero_le _, rfl, rfl, rfl⟩
    case round =>
      obtain ⟨k, hk, rfl, rfl, rfl⟩ := hrel
      have hbl := badTo_le ls k
      by_cases hlt : k < K
      · obtain ⟨b', off, e4, hbl', hc⟩ := HC.out k (by rw [List.length_map, ← HK.out]; exact hlt)
        injection e4 with e4
        injection e4 with e4 e5
        subst e4 e5
        rw [Nat.zero_add, List.getElem_map] at hc
        have HX1 := Lib.hid (fun h => (bad_no (ls := ls) (k := k) h))
        have HX2 := Lib.hid (fun h => (bad_what (ls := ls) (k := k) h))
        have HX3 := Lib.hid (fun h h' => (bad_good (ls := ls) (k := k) h h'))
        have hx : ∃ x, x = tx (ls.getD k []) := ⟨_, rfl⟩
        obtain ⟨x, hx⟩ := hx
        rw [show ls[k]'(by rw [← HK.out]; exact hlt) = ls.getD k [] by rw [List.getD_eq_getElem?_getD, List.getElem?_eq_getElem (by rw [← HK.out]; exact hlt)]; rfl, ← hx] at hc
        by_cases h1 : ls.getD k [] = [110, 111]
        · have HB := Lib.hid (HX1.out h1)
          have e1 : x = ⟨#[110, 111]⟩ := by rw [hx, h1]; rfl
          clear HX1 HX2 HX3 h1 hx
          subst e1
          go_wp2_with fail
          exact ⟨⟨k + 1, by omega, by go_num, by rw [HB.out]; rfl, trivial⟩, by simp [intOf]; omega⟩
        · have e1 : x ≠ ⟨#[110, 111]⟩ := fun e => h1 (tx_inj (hx.symm.trans e))
          have e2 : ¬ x.toList = [110, 111] := str_ne3 e1
          have e2b : (x.toList == [110, 111]) = false := str_ne4 e1
          by_cases h2 : ls.getD k [] = [119, 104, 97, 116]
          · have HB := Lib.hid (HX2.out h2)
            have e3 : x = ⟨#[119, 104, 97, 116]⟩ := by rw [hx, h2]; rfl
            clear HX1 HX2 HX3 h1 hx h2 e1
            subst e3
            go_wp2_with fail
            exact ⟨⟨k + 1, by omega, by go_num, by rw [HB.out]; rfl, trivial⟩, by simp [intOf]; omega⟩
          · have HB := Lib.hid (HX3.out h1 h2)
            have e3 : x ≠ ⟨#[119, 104, 97, 116]⟩ := fun e => h2 (tx_inj (hx.symm.trans e))
            have e4 : ¬ x.toList = [119, 104, 97, 116] := str_ne3 e3
            have e4b : (x.toList == [119, 104, 97, 116]) = false := str_ne4 e3
            clear HX1 HX2 HX3 h1 hx h2 e1 e3
            go_wp2_with fail
            exact ⟨⟨k + 1, by omega, by go_num, by rw [HB.out], trivial⟩, by simp [intOf]; omega⟩
      · obtain rfl : k = K := by omega
        go_wp2_with fail
        go_ret3
        rw [HF.out]
        have h2 := HK.out
        subst h2
        exact ⟨rfl, hb⟩
  · have HF := Lib.hid (show Q = (0, 0, false) from hQ.trans (if_neg (by rw [data_len]; exact hok)))
    rw [decide_eq_false hok]
    clear hok hQ
    go_wp2_with fail
    go_ret3
    rw [HF.out]
    exact ⟨rfl, hb⟩

end Go.Proofs.YtebahccjaieajaaDoor
