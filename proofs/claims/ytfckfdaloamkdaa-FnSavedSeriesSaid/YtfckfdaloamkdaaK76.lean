/- Contracts: all that is saved, stored. -/
import Derived.Test.YtfckfdaloamkdaaK75
import Derived.Test.YtfckfdaloamkdaaK70
namespace Go.Proofs.Ytfckfdaloamkdaa
set_option linter.unusedSimpArgs false
set_option linter.unusedVariables false
set_option maxRecDepth 100000
set_option maxHeartbeats 4000000
open Go.RowKit
attribute [local go_sem] run_store_float run_store_complex alloc_drewN setCell_drewN

/-- All are valid; the bytes of the first k. -/
def svOk (L : List Sd) : Nat → Bool
  | 0 => true
  | k + 1 => svOk L k && savedOk (L.getD k d0).1 (L.getD k d0).2.1 (L.getD k d0).2.2
def svAcc (L : List Sd) : Nat → ByteArray
  | 0 => ⟨#[]⟩
  | k + 1 => svAcc L k ++ ⟨(storeB (L.getD k d0).1 (L.getD k d0).2.1 (L.getD k d0).2.2).toArray⟩
def svAllQ (L : List Sd) : ByteArray × Bool := if decide (L.length ≤ 8) && svOk L L.length then (svAcc L L.length, true) else (⟨#[]⟩, false)
theorem svOk_no {L : List Sd} {k n : Nat} (h : savedOk (L.getD k d0).1 (L.getD k d0).2.1 (L.getD k d0).2.2 = false) (hk : k < n) : svOk L n = false := by
  induction n with
  | zero => omega
  | succ n ih =>
    rw [svOk]
    rcases Nat.lt_or_ge k n with h1 | h1
    · rw [ih h1]; rfl
    · obtain rfl : k = n := by omega
      rw [h, Bool.and_false]
theorem svAcc_size {L : List Sd} (k : Nat) (h : svOk L k = true) : (svAcc L k).size ≤ k * 404 := by
  induction k with
  | zero => exact Nat.le_refl _
  | succ k ih =>
    simp only [svOk, Bool.and_eq_true] at h
    have h1 := ih h.1
    have h2 := savedOk_facts h.2
    have h3 : (ByteArray.mk (storeB (L.getD k d0).1 (L.getD k d0).2.1 (L.getD k d0).2.2).toArray).size = 12 + (L.getD k d0).1.size + 4 * (L.getD k d0).2.2.length := by
      show Array.size _ = _
      rw [List.size_toArray, storeB_length]
    rw [svAcc, ByteArray.size_append, h3]
    omega
theorem svAllQ_len {L : List Sd} (h : ¬ L.length ≤ 8) : svAllQ L = (⟨#[]⟩, false) := by rw [svAllQ, decide_eq_false h]; rfl
theorem svAllQ_no {L : List Sd} {k : Nat} (h : savedOk (L.getD k d0).1 (L.getD k d0).2.1 (L.getD k d0).2.2 = false) (hk : k < L.length) : svAllQ L = (⟨#[]⟩, false) := by rw [svAllQ, svOk_no h hk, Bool.and_false]; rfl
theorem svAllQ_yes {L : List Sd} (h : L.length ≤ 8) (h2 : svOk L L.length = true) : svAllQ L = (svAcc L L.length, true) := by rw [svAllQ, decide_eq_true h, h2]; rfl

theorem s_l07SavedAt (p o : Nat) (s : ByteArray) (hs : s.size ≤ 9223372036854775807) (d : Int) (v : Value) (cs : List Nat) (w : World) (h0 : w.cell? ⟨p, o, none⟩ = some (.string s)) (h1 : w.cell? ⟨p, o + 1, none⟩ = some (.int .i64 d)) (h2 : w.cell? ⟨p, o + 2, none⟩ = some v) (hv : SL w v cs) :
    Calls Try.prog 56 #[.pointer (some ⟨p, o, none⟩)] w fun e w' => e = .returned (.bool (savedOk s d cs)) ∧ Dr w w' := by
  obtain ⟨ao, c, rfl, hlen⟩ := hv.slice
  have HV := Lib.hid hv
  clear hv
  go_enter Try.func56, Try.ntmps56
  go_wp2_with (first | (go_at_call 93; refine (s_l07Name s hs _).mono ?_; rintro z w1 ⟨rfl, n1, rfl⟩) | (go_at_call 94; refine (s_l00In _ _ _ _).mono ?_; rintro z w2 ⟨rfl, n2, rfl⟩) | (go_at_call 95; refine (s_l02Series _ cs _ (by first | exact SL.drewN HV.out _ | exact HV.out)).mono ?_; rintro z w3 ⟨rfl, n3, rfl⟩))
  all_goals
    go_ret
    refine ⟨ret_bool ?_, Dr.mk _ _⟩
    simp [savedOk, *]

set_option maxRecDepth 100000 in
theorem s_StoreAll (v : Value) (L : List Sd) (w : World) (hv : SVL w v L) :
    Calls Try.prog 24 #[v] w fun e w' => e = .returned (.tuple #[.string (svAllQ L).1, .bool (svAllQ L).2]) ∧ Below w.heap.size w w' := by
  obtain ⟨ao, c, rfl, hc1, hc2⟩ := hv.slice
  have HC := Lib.hid (hv.get rfl)
  clear hv
  by_cases hl : L.length ≤ 8
  · have hl2 : (L.length : Int) ≤ 8 := by omega
    go_enter Try.func24, Try.ntmps24
    go_wp2_with fail
    go_loopw [4, 11] (fun b i wr => ∃ k : Nat, k ≤ L.length ∧ i = .int .i64 k ∧ b = .string (svAcc L k) ∧ Hid (svOk L k = true) ∧ Below w.heap.size w wr) (fun _ i _ => L.length - (intOf i).toNat)
    case atStart => exact ⟨0, Nat.zero_le _, rfl, rfl, rfl, Below.refl _ _⟩
    case round =>
      obtain ⟨k, hk, rfl, rfl, HK, hbw⟩ := hrel
      by_cases hlt : k < L.length
      · obtain ⟨b, off, u, rfl, hbl, g0, g1, g2, g3, g4⟩ := HC.out k hlt
        have q0 := Lib.hid ((hbw.cell (p := ⟨b, off + k * 3, none⟩) hbl).trans g0)
        have q1 := Lib.hid ((hbw.cell (p := ⟨b, off + k * 3 + 1, none⟩) hbl).trans g1)
        have q2 := Lib.hid ((hbw.cell (p := ⟨b, off + k * 3 + 2, none⟩) hbl).trans g2)
        have G3 := Lib.hid (g3.keep hbw)
        have HNO := Lib.hid (fun (h : savedOk (L.getD k d0).1 (L.getD k d0).2.1 (L.getD k d0).2.2 = false) => svAllQ_no h hlt)
        have HNX := Lib.hid (show svAcc L (k + 1) = svAcc L k ++ ⟨(storeB (L.getD k d0).1 (L.getD k d0).2.1 (L.getD k d0).2.2).toArray⟩ from rfl)
        have HNK := Lib.hid (show svOk L (k + 1) = (svOk L k && savedOk (L.getD k d0).1 (L.getD k d0).2.1 (L.getD k d0).2.2) from rfl)
        have hsz := svAcc_size k HK.out
        have hbz : b < wr.heap.size := Nat.lt_of_lt_of_le hbl hbw.size
        generalize svAcc L k = acc at *
        obtain ⟨x, hx⟩ : ∃ x, x = L.getD k d0 := ⟨_, rfl⟩
        rw [← hx] at q0 q1 G3 HNO HNX HNK g4
        obtain ⟨s, d, cs⟩ := x
        clear g0 g1 g2 g3 hx
        have g4' : s.size ≤ 9223372036854775807 := g4
        cases hok : savedOk s d cs
        · have HE := Lib.hid hok
          clear hok
          go_wp2_with fail
          refine (s_l07SavedAt b (off + k * 3) s g4' d u cs _ q0.out q1.out q2.out G3.out.sl).mono ?_
          rintro z w1 ⟨rfl, n1, rfl⟩
          rw [HE.out]
          go_wp2_with fail
          go_ret2
          exact ⟨by rw [HNO.out HE.out]; rfl, by first | exact hbw | exact below_drewN hbw _⟩
        · have hf := savedOk_facts hok
          have HE := Lib.hid hok
          clear hok
          go_wp2_with fail
          refine (s_l07SavedAt b (off + k * 3) s g4' d u cs _ q0.out q1.out q2.out G3.out.sl).mono ?_
          rintro z w1 ⟨rfl, n1, rfl⟩
          rw [HE.out]
          go_wp2_with fail
          refine (s_l07Store b (off + k * 3) s g4' d u cs (wr.drewN n1) (by simpa using hbz) q0.out q1.out q2.out (G3.out.drewN _) HE.out).mono ?_
          rintro z w2 ⟨rfl, hb2⟩
          have hbw2 := (below_drewN hbw n1).trans (hb2.mono (by have := hbw.size; simpa using this))
          clear hb2
          have hst : (ByteArray.mk (storeB s d cs).toArray).size = 12 + s.size + 4 * cs.length := by
            show Array.size _ = _
            rw [List.size_toArray, storeB_length]
          have HB := Lib.hid hst
          generalize ByteArray.mk (storeB s d cs).toArray = bs at *
          have hbs : bs.size ≤ 404 := by rw [HB.out]; omega
          clear hst
          go_wp2_with fail
          exact ⟨⟨k + 1, by omega, by go_num, by rw [HNX.out], by show svOk L (k + 1) = true; rw [HNK.out, HK.out, HE.out]; rfl, hbw2⟩, by simp [intOf]; omega⟩
      · have hkn : k = L.length := by omega
        subst hkn
        go_wp2_with fail
        go_ret2
        exact ⟨by rw [svAllQ_yes hl HK.out]; rfl, hbw⟩
  · have hl2 : ¬ (L.length : Int) ≤ 8 := by omega
    have HL := Lib.hid hl
    clear hl
    go_enter Try.func24, Try.ntmps24
    go_wp2_with fail
    go_ret2
    exact ⟨by rw [svAllQ_len HL.out]; rfl, Below.refl _ _⟩

set_option maxRecDepth 100000 in
theorem i_StoreAll (v : Value) (L : List Sd) (w : World) (hv : SVL w v L) :
    Calls Try.prog 25 #[v] w fun e w' => e = .returned (.tuple #[.string (svAllQ L).1, .bool (svAllQ L).2]) ∧ Below w.heap.size w w' := by
  obtain ⟨ao, c, rfl, hc1, hc2⟩ := hv.slice
  have HC := Lib.hid (hv.get rfl)
  clear hv
  by_cases hl : L.length ≤ 8
  · have hl2 : (L.length : Int) ≤ 8 := by omega
    go_enter Try.func25, Try.ntmps25
    go_wp2_with fail
    go_loopw [4, 14] (fun b i wr => ∃ k : Nat, k ≤ L.length ∧ i = .int .i64 k ∧ b = .string (svAcc L k) ∧ Hid (svOk L k = true) ∧ Below w.heap.size w wr) (fun _ i _ => L.length - (intOf i).toNat)
    case atStart => exact ⟨0, Nat.zero_le _, rfl, rfl, rfl, Below.refl _ _⟩
    case round =>
      obtain ⟨k, hk, rfl, rfl, HK, hbw⟩ := hrel
      by_cases hlt : k < L.length
      · obtain ⟨b, off, u, rfl, hbl, g0, g1, g2, g3, g4⟩ := HC.out k hlt
        have q0 := (hbw.cell (p := ⟨b, off + k * 3, none⟩) hbl).trans g0
        have q1 := (hbw.cell (p := ⟨b, off + k * 3 + 1, none⟩) hbl).trans g1
        have q2 := (hbw.cell (p := ⟨b, off + k * 3 + 2, none⟩) hbl).trans g2
        have G3 := Lib.hid (g3.keep hbw)
        have HNO := Lib.hid (fun (h : savedOk (L.getD k d0).1 (L.getD k d0).2.1 (L.getD k d0).2.2 = false) => svAllQ_no h hlt)
        have HNX := Lib.hid (show svAcc L (k + 1) = svAcc L k ++ ⟨(storeB (L.getD k d0).1 (L.getD k d0).2.1 (L.getD k d0).2.2).toArray⟩ from rfl)
        have HNK := Lib.hid (show svOk L (k + 1) = (svOk L k && savedOk (L.getD k d0).1 (L.getD k d0).2.1 (L.getD k d0).2.2) from rfl)
        have hsz := svAcc_size k HK.out
        have hbz : b < wr.heap.size := Nat.lt_of_lt_of_le hbl hbw.size
        generalize svAcc L k = acc at *
        obtain ⟨x, hx⟩ : ∃ x, x = L.getD k d0 := ⟨_, rfl⟩
        rw [← hx] at q0 q1 G3 HNO HNX HNK g4
        obtain ⟨s, d, cs⟩ := x
        clear g0 g1 g2 g3 hx
        have g4' : s.size ≤ 9223372036854775807 := g4
        obtain ⟨uo, uc, rfl, hul⟩ := G3.out.slice
        have hbz2 := hbw.size
        cases hok : savedOk s d cs
        · have HE := Lib.hid (show storeQ s d cs (savedOk s d cs) = (⟨#[]⟩, false) by rw [hok]; rfl)
          have HE2 := Lib.hid hok
          clear hok
          go_wp2_with fail
          refine (i_StoreSaved s g4' d _ cs _ (G3.out.keep (by (repeat (first | with_reducible exact Below.refl _ _ | with_reducible assumption | with_reducible refine below_drewN ?_ _ | with_reducible refine Below.drew ?_ | with_reducible refine Below.alloc ?_ (by first | omega | (simp; omega) | (simp; done) | (simp at *; omega)) _ | with_reducible refine Below.setCell ?_ (by first | omega | (simp; omega) | (simp; done) | (simp at *; omega)) _ | refine Below.trans ?_ (Below.mono (by with_reducible assumption) (by first | omega | (simp; omega) | (simp; done) | (simp at *; omega)))))))).mono ?_
          rintro z w2 ⟨rfl, hb2⟩
          have hbw2 := Below.trans (show Below w.heap.size w _ from by (repeat (first | with_reducible exact Below.refl _ _ | with_reducible assumption | with_reducible refine below_drewN ?_ _ | with_reducible refine Below.drew ?_ | with_reducible refine Below.alloc ?_ (by first | omega | (simp; omega) | (simp; done) | (simp at *; omega)) _ | with_reducible refine Below.setCell ?_ (by first | omega | (simp; omega) | (simp; done) | (simp at *; omega)) _ | refine Below.trans ?_ (Below.mono (by with_reducible assumption) (by first | omega | (simp; omega) | (simp; done) | (simp at *; omega)))))) (hb2.mono (by first | omega | (simp; omega)))
          clear hb2
          rw [HE.out]
          go_wp2_with fail
          go_ret2
          exact ⟨by rw [HNO.out HE2.out]; rfl, hbw2⟩
        · have hf := savedOk_facts hok
          have HE := Lib.hid (show storeQ s d cs (savedOk s d cs) = (⟨(storeB s d cs).toArray⟩, true) by rw [hok]; rfl)
          have HE2 := Lib.hid hok
          clear hok
          have hst : (ByteArray.mk (storeB s d cs).toArray).size = 12 + s.size + 4 * cs.length := by
            show Array.size _ = _
            rw [List.size_toArray, storeB_length]
          have HB := Lib.hid hst
          clear hst
          generalize ByteArray.mk (storeB s d cs).toArray = bs at *
          have hbs : bs.size ≤ 404 := by rw [HB.out]; omega
          go_wp2_with fail
          refine (i_StoreSaved s g4' d _ cs _ (G3.out.keep (by (repeat (first | with_reducible exact Below.refl _ _ | with_reducible assumption | with_reducible refine below_drewN ?_ _ | with_reducible refine Below.drew ?_ | with_reducible refine Below.alloc ?_ (by first | omega | (simp; omega) | (simp; done) | (simp at *; omega)) _ | with_reducible refine Below.setCell ?_ (by first | omega | (simp; omega) | (simp; done) | (simp at *; omega)) _ | refine Below.trans ?_ (Below.mono (by with_reducible assumption) (by first | omega | (simp; omega) | (simp; done) | (simp at *; omega)))))))).mono ?_
          rintro z w2 ⟨rfl, hb2⟩
          have hbw2 := Below.trans (show Below w.heap.size w _ from by (repeat (first | with_reducible exact Below.refl _ _ | with_reducible assumption | with_reducible refine below_drewN ?_ _ | with_reducible refine Below.drew ?_ | with_reducible refine Below.alloc ?_ (by first | omega | (simp; omega) | (simp; done) | (simp at *; omega)) _ | with_reducible refine Below.setCell ?_ (by first | omega | (simp; omega) | (simp; done) | (simp at *; omega)) _ | refine Below.trans ?_ (Below.mono (by with_reducible assumption) (by first | omega | (simp; omega) | (simp; done) | (simp at *; omega)))))) (hb2.mono (by first | omega | (simp; omega)))
          clear hb2
          rw [HE.out]
          go_wp2_with fail
          exact ⟨⟨k + 1, by omega, by go_num, by rw [HNX.out], by show svOk L (k + 1) = true; rw [HNK.out, HK.out, HE2.out]; rfl, hbw2⟩, by simp [intOf]; omega⟩
      · have hkn : k = L.length := by omega
        subst hkn
        go_wp2_with fail
        go_ret2
        exact ⟨by rw [svAllQ_yes hl HK.out]; rfl, hbw⟩
  · have hl2 : ¬ (L.length : Int) ≤ 8 := by omega
    have HL := Lib.hid hl
    clear hl
    go_enter Try.func25, Try.ntmps25
    go_wp2_with fail
    go_ret2
    exact ⟨by rw [svAllQ_len HL.out]; rfl, Below.refl _ _⟩

end Go.Proofs.Ytfckfdaloamkdaa
