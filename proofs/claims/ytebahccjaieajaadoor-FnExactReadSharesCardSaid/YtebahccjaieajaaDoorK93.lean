/- Contracts: JournalOf, CountOutputs by the reference. -/
import Derived.Test.YtebahccjaieajaaDoorK92
namespace Go.Proofs.YtebahccjaieajaaDoor
set_option linter.unusedSimpArgs false
set_option linter.unusedVariables false
set_option maxRecDepth 100000
set_option maxHeartbeats 4000000
open Go.RowKit
attribute [local go_sem] run_store_float run_store_complex alloc_drewN setCell_drewN

theorem noNl_of {l : List UInt8} (h : (10 : UInt8) ∉ l) : noNl l = true := by
  simp only [noNl, Bool.not_eq_true', List.contains_eq_mem, decide_eq_false_iff_not]
  exact h
theorem noNl_no {l : List UInt8} (h : (10 : UInt8) ∈ l) : noNl l = false := by
  simp only [noNl, Bool.not_eq_false', List.contains_eq_mem, decide_eq_true_eq]
  exact h
theorem take_mem {s : ByteArray} {k : Nat} {c : UInt8} (hk : k < s.size) (h : c ∉ s.data.toList.take k) (hne : s[k] ≠ c) : c ∉ s.data.toList.take (k + 1) := by
  rw [bytes_take_snoc s k hk, List.mem_append, not_or]
  exact ⟨h, by simpa using Ne.symm hne⟩
theorem at_mem {s : ByteArray} {k : Nat} (hk : k < s.size) : s[k] ∈ s.data.toList := by
  rw [← data_at s hk]; exact List.getElem_mem _
theorem byte_ne {s : ByteArray} {k : Nat} (hk : k < s.size) {c : UInt8} (h : s[k] ≠ c) : (((s[k].toNat : Nat) : Int) == ((c.toNat : Nat) : Int)) = false := by
  rw [beq_eq_false_iff_ne]
  intro e
  exact h (UInt8.toNat_inj.1 (by omega))

set_option maxRecDepth 100000 in
theorem s_JournalOf (v : Value) (ss : List ByteArray) (w : World) (hv : GL Value.string w v ss) (hs : ∀ s ∈ ss, s.size ≤ 1048576) :
    Calls Tryd.prog 12 #[v] w fun e w' => e = .returned (.tuple #[.string (tx (joQ (ln ss)).1), .bool (joQ (ln ss)).2]) ∧ Below w.heap.size w w' := by
  have HV := Lib.hid hv
  obtain ⟨ao, c, rfl, hlen, hcell⟩ := hv
  have HC := Lib.hid hcell
  have HS := Lib.hid hs
  clear hcell hs
  have HLN := Lib.hid (ln_length ss)
  go_enter Tryd.func12, Tryd.ntmps12
  go_wp2_with fail
  go_loopw [4, 5] (fun t i wr => ∃ k : Nat, k ≤ ss.length ∧ i = .int .i64 k ∧ t = .int .i64 (sumTo3 (ln ss) k : Nat) ∧ sumTo3 (ln ss) k ≤ 16000 ∧ Hid (∀ j, j < k → noNl ((ln ss).getD j []) = true) ∧ wr = w) (fun _ i _ => ss.length - (intOf i).toNat)
  case atStart => exact ⟨0, Nat.zero_le _, rfl, rfl, Nat.zero_le _, fun j hj => absurd hj (Nat.not_lt_zero _), rfl⟩
  case round =>
    obtain ⟨k, hk, rfl, rfl, hsum, HN, rfl⟩ := hrel
    obtain ⟨w, hw⟩ : ∃ x, x = wr := ⟨wr, rfl⟩
    subst hw
    by_cases hlt : k < ss.length
    · obtain ⟨b, off, rfl, hbl, hc⟩ := HC.out k hlt
      have hsz := HS.out ss[k] (List.getElem_mem hlt)
      have HG := Lib.hid (ln_get hlt)
      have hstep : sumTo3 (ln ss) (k + 1) = sumTo3 (ln ss) k + (ss[k].size + 3) := by rw [sumTo3, HG.out, data_len]
      have HQ := Lib.hid (fun h => joQ_sum (ls := ln ss) (k := k + 1) (by rw [HLN.out]; exact hlt) h)
      have HQ2 := Lib.hid (fun h => joQ_nl (ls := ln ss) (k := k) (by rw [HLN.out]; exact hlt) h)
      obtain ⟨s, hs⟩ : ∃ s, s = ss[k] := ⟨_, rfl⟩
      rw [← hs] at hc hsz hstep HG
      clear hs
      by_cases hbig : 16000 < sumTo3 (ln ss) (k + 1)
      · have HF := Lib.hid (HQ.out hbig)
        rw [hstep] at hbig
        clear hstep HQ HQ2
        go_wp2_with fail
        go_ret2
        rw [HF.out]
        exact ⟨rfl, Below.refl _ _⟩
      · have HB := Lib.hid hstep
        have hb2 : sumTo3 (ln ss) k + (s.size + 3) ≤ 16000 := by omega
        clear hstep hbig HQ
        go_wp2_with fail
        go_loopw [6] (fun q wr => ∃ m : Nat, m ≤ s.size ∧ q = .int .i64 m ∧ Hid ((10 : UInt8) ∉ s.data.toList.take m) ∧ wr = w) (fun q _ => s.size - (intOf q).toNat)
        case atStart => exact ⟨0, Nat.zero_le _, rfl, by simp [Hid], rfl⟩
        case round =>
          obtain ⟨m, hm, rfl, HM, rfl⟩ := hrel
          by_cases hlm : m < s.size
          · by_cases he : s[m] = 10
            · have HF := Lib.hid (HQ2.out (by rw [HG.out]; exact noNl_no (he ▸ at_mem hlm)))
              have he2 : ((s[m].toNat : Nat) : Int) = 10 := by rw [he]; rfl
              clear he
              go_wp2_with fail
              go_ret2
              rw [HF.out]
              exact ⟨rfl, Below.refl _ _⟩
            · have HM2 := Lib.hid (take_mem hlm HM.out he)
              have he2 : ¬ ((s[m].toNat : Nat) : Int) = 10 := fun e => he (UInt8.toNat_inj.1 (by show _ = 10; omega))
              clear he
              go_wp2_with fail
              exact ⟨⟨m + 1, by omega, by go_num, HM2.out, trivial⟩, by simp [intOf]; omega⟩
          · go_wp2_with fail
            have hms : m = s.size := by omega
            have HM3 := Lib.hid (show noNl s.data.toList = true from noNl_of (by have h := HM.out; rwa [hms, List.take_of_length_le (by rw [data_len]; exact Nat.le_refl _)] at h))
            refine ⟨⟨k + 1, by omega, by go_num, (by rw [HB.out]; show Value.int .i64 _ = Value.int .i64 _; congr 1), by rw [HB.out]; exact hb2, (fun j hj => ?_), trivial⟩, by simp [intOf]; omega⟩
            rcases Nat.lt_or_ge j k with h | h
            · exact HN.out j h
            · obtain rfl : j = k := by omega
              rw [HG.out]; exact HM3.out
    · obtain rfl : k = ss.length := by omega
      go_wp2_with fail
      refine (s_l08Journal _ ss _ HV.out (by have := jrTo_le (ln ss) ss.length; omega)).mono ?_; rintro e w1 ⟨rfl, hb⟩
      by_cases hbig : 16000 < (jrTo (ln ss) ss.length).length
      · have HF := Lib.hid (joQ_long (ls := ln ss) (k := ss.length) (by rw [HLN.out]; exact Nat.le_refl _) hbig)
        have hbig2 : (16000 : Int) < ((tx (jrTo (ln ss) ss.length)).size : Int) := by rw [tx_size]; omega
        go_wp2_with fail
        go_ret2
        rw [HF.out]
        exact ⟨rfl, hb⟩
      · have HF := Lib.hid ((joQ_yes (ls := ln ss) (by rw [HLN.out]; exact HN.out) (by rw [HLN.out]; omega)).trans (by rw [HLN.out]))
        have hbig2 : ¬ (16000 : Int) < ((tx (jrTo (ln ss) ss.length)).size : Int) := by rw [tx_size]; omega
        go_wp2_with fail
        go_ret2
        rw [HF.out]
        exact ⟨rfl, hb⟩
theorem bad_no {ls : List (List UInt8)} {k : Nat} (h : ls.getD k [] = [110, 111]) : badTo ls (k + 1) = badTo ls k + 1 := by rw [badTo, if_pos (.inl h)]
theorem bad_what {ls : List (List UInt8)} {k : Nat} (h : ls.getD k [] = [119, 104, 97, 116]) : badTo ls (k + 1) = badTo ls k + 1 := by rw [badTo, if_pos (.inr h)]
theorem bad_good {ls : List (List UInt8)} {k : Nat} (h : ls.getD k [] ≠ [110, 111]) (h2 : ls.getD k [] ≠ [119, 104, 97, 116]) : badTo ls (k + 1) = badTo ls k := by
  rw [badTo, if_neg (by rintro (e | e); exact h e; exact h2 e)]; rfl
theorem str_ne2 {s s' : ByteArray} (h : s ≠ s') : (s.toList == s'.toList) = false := by
  rw [beq_eq_false_iff_ne]
  intro e
  rw [ByteArray.toList_eq, ByteArray.toList_eq] at e
  exact h (ByteArray.ext (Array.toList_inj.1 e))
theorem str_ne3 {x : ByteArray} {l : List UInt8} (h : x ≠ tx l) : ¬ x.toList = l := by
  intro e
  rw [ByteArray.toList_eq] at e
  exact h (by rw [← e, data_tx])
theorem str_ne4 {x : ByteArray} {l : List UInt8} (h : x ≠ tx l) : (x.toList == l) = false := beq_eq_false_iff_ne.2 (str_ne3 h)
theorem str_full {x : ByteArray} (h : x ≠ ⟨#[]⟩) : x.toList.isEmpty = false := by
  rw [ByteArray.toList_eq]
  cases hx : x.data.toList with
  | nil => exact absurd (show x = ⟨#[]⟩ by rw [← data_tx x, hx]; rfl) h
  | cons a l => rfl
theorem str_beq {a b : ByteArray} : (a.toList == b.toList) = decide (a = b) := by
  by_cases h : a = b
  · subst h; simp
  · rw [str_ne2 h, decide_eq_false h]

set_option maxRecDepth 100000 in
theorem s_CountOutputs (t : ByteArray) (hs : t.size ≤ 1000000000) (w : World) :
    Calls Tryd.prog 9 #[.string t] w fun e w' => e = .returned (.tuple #[.int .i64 (coQ t.data.toList).1, .int .i64 (coQ t.data.toList).2.1, .bool (coQ t.data.toList).2.2]) ∧ Below w.heap.size w w' := by
  by_cases hbig : 16000 < t.size
  · have HF := Lib.hid (show coQ t.data.toList = (0, 0, false) from if_neg (fun h => by have := h.1; rw [data_len] at this; omega))
    go_enter Tryd.func9, Tryd.ntmps9
    go_wp2_with fail
    go_ret3
    rw [HF.out]
    exact ⟨rfl, Below.refl _ _⟩
  · go_enter Tryd.func9, Tryd.ntmps9
    go_wp2_with fail
    refine (s_l08Lines t hs _).mono ?_; rintro e w1 ⟨b, c, K, LL, hK, hLL, rfl, hv, hb⟩
    by_cases he : (cutC 10 t.data.toList).getLast (cutC_ne 10 t.data.toList) = []
    · have hLL2 : LL = ⟨#[]⟩ := by rw [hLL, he]; rfl
      subst hLL2
      have HF := Lib.hid (show coQ t.data.toList = _ from if_pos ⟨by rw [data_len]; omega, he⟩)
      clear hLL he
      obtain ⟨ls, hls⟩ : ∃ ls, ls = (cutC 10 t.data.toList).dropLast := ⟨_, rfl⟩
      rw [← hls] at hK hv HF
      clear hls
      obtain ⟨ao, c', e1, hc12, hcell⟩ := hv
      injection e1 with e1 e2 e3
      subst e1 e3
      have HC := Lib.hid hcell
      have HK := Lib.hid hK
      have hKs : K ≤ 9223372036854775807 := by rw [List.length_map] at hc12; omega
      clear hcell hK e2
      go_wp2_with fail
      go_loopw [7, 8] (fun q i wr => ∃ k : Nat, k ≤ K ∧ i = .int .i64 k ∧ q = .int .i64 (badTo ls k : Nat) ∧ wr = w1) (fun _ i _ => K - (intOf i).toNat)
      case atStart => exact ⟨0, Nat.zero_le _, rfl, rfl, rfl⟩
      case round =>
        obtain ⟨k, hk, rfl, rfl, rfl⟩ := hrel
        have hbl := badTo_le ls k
        by_cases hlt : k < K
        · obtain ⟨b', off, e4, hbl', hc⟩ := HC.out k (by rw [List.length_map, ← HK.out]; exact hlt)
          injection e4 with e4
          injection e4 with e4 e5
          subst e4 e5
          have HG := Lib.hid (show tx (ls.getD k []) = (ls.map tx)[k]'(by rw [List.length_map, ← HK.out]; exact hlt) by rw [List.getElem_map, List.getD_eq_getElem?_getD, List.getElem?_eq_getElem (by rw [← HK.out]; exact hlt)]; rfl)
          rw [← HG.out] at hc
          clear HG
          rw [Nat.zero_add] at hc
          have HX1 := Lib.hid (fun h => (bad_no (ls := ls) (k := k) h))
          have HX2 := Lib.hid (fun h => (bad_what (ls := ls) (k := k) h))
          have HX3 := Lib.hid (fun h h' => (bad_good (ls := ls) (k := k) h h'))
          have hx : ∃ x, x = tx (ls.getD k []) := ⟨_, rfl⟩
          obtain ⟨x, hx⟩ := hx
          rw [← hx] at hc
          by_cases h1 : ls.getD k [] = [110, 111]
          · have HB := Lib.hid (HX1.out h1)
            have e1 : x = ⟨#[110, 111]⟩ := by rw [hx, h1]; rfl
            clear HX1 HX2 HX3 h1 hx
            subst e1
            go_wp2_with fail
            exact ⟨⟨k + 1, by omega, by go_num, by rw [HB.out]; rfl, trivial⟩, by simp [intOf]; omega⟩
          · have e1 : x ≠ ⟨#[110, 111]⟩ := fun e => h1 (tx_inj (hx.symm.trans e))
            have e2 : ¬ x.toList = [110, 111] := str_ne3 e1
            have e2b : (x.toList == [110, 111]) = false := str_ne4 e1
            by_cases h2 : ls.getD k [] = [119, 104, 97, 116]
            · have HB := Lib.hid (HX2.out h2)
              have e3 : x = ⟨#[119, 104, 97, 116]⟩ := by rw [hx, h2]; rfl
              clear HX1 HX2 HX3 h1 hx h2 e1
              subst e3
              go_wp2_with fail
              exact ⟨⟨k + 1, by omega, by go_num, by rw [HB.out]; rfl, trivial⟩, by simp [intOf]; omega⟩
            · have HB := Lib.hid (HX3.out h1 h2)
              have e3 : x ≠ ⟨#[119, 104, 97, 116]⟩ := fun e => h2 (tx_inj (hx.symm.trans e))
              have e4 : ¬ x.toList = [119, 104, 97, 116] := str_ne3 e3
              have e4b : (x.toList == [119, 104, 97, 116]) = false := str_ne4 e3
              clear HX1 HX2 HX3 h1 hx h2 e1 e3
              go_wp2_with fail
              exact ⟨⟨k + 1, by omega, by go_num, by rw [HB.out], trivial⟩, by simp [intOf]; omega⟩
        · obtain rfl : k = K := by omega
          go_wp2_with fail
          go_ret3
          rw [HF.out]
          have h2 := HK.out
          subst h2
          exact ⟨rfl, hb⟩
    · have hne : LL ≠ ⟨#[]⟩ := fun e => he (tx_inj (hLL.symm.trans e))
      have hne2 := str_full hne
      have HF := Lib.hid (show coQ t.data.toList = (0, 0, false) from if_neg (fun h => he h.2))
      clear he hne hLL
      go_wp2_with fail
      go_ret3
      rw [HF.out]
      exact ⟨rfl, hb⟩

end Go.Proofs.YtebahccjaieajaaDoor
