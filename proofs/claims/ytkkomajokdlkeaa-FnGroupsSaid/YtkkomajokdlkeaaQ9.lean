/- The square root of a float32, by way of float64. Plain: no program. -/
import Derived.Test.YtkkomajokdlkeaaQ6
import Derived.Test.YtkkomajokdlkeaaQ8
namespace Go.Proofs.Ytkkomajokdlkeaa
set_option linter.unusedSimpArgs false
set_option linter.unusedVariables false
set_option maxRecDepth 100000
set_option maxHeartbeats 4000000
open Go.RowKit

abbrev D := Ieee.double
theorem cut_le (s : Bool) (n drop : Nat) : Ieee.Toward.even.cut s n drop ≤ n / 2 ^ drop + 1 := by
  unfold Ieee.Toward.cut
  have hb : ∀ b : Bool, b.toNat ≤ 1 := fun b => by cases b <;> decide
  dsimp only
  refine Nat.add_le_add ?_ (hb _)
  rw [Nat.one_shiftLeft]
  rcases Nat.lt_or_ge (n.log2 + 2) drop with h | h
  · rw [Nat.min_eq_right (by omega)]
    have h1 : n < 2 ^ (n.log2 + 2) := Nat.lt_of_lt_of_le Nat.lt_log2_self (Nat.pow_le_pow_right (by omega) (by omega))
    rw [Nat.div_eq_of_lt h1]; exact Nat.zero_le _
  · rw [Nat.min_eq_left (by omega)]; exact Nat.le_refl _
theorem shl_div_lt (m a b k : Nat) (hm : m ≠ 0) (hab : a = 0 ∨ b = 0) (h : m.log2 + a ≤ k + b) : (m <<< a) / 2 ^ b < 2 ^ (k + 1) := by
  rw [Nat.shiftLeft_eq]
  have h1 : m < 2 ^ (m.log2 + 1) := Nat.lt_log2_self
  rw [Nat.div_lt_iff_lt_mul (Nat.two_pow_pos _), ← Nat.pow_add]
  rcases hab with rfl | rfl
  · rw [Nat.pow_zero, Nat.mul_one]
    exact Nat.lt_of_lt_of_le h1 (Nat.pow_le_pow_right (by omega) (by omega))
  · refine Nat.lt_of_lt_of_le (Nat.mul_lt_mul_of_pos_right h1 (Nat.two_pow_pos _)) ?_
    rw [← Nat.pow_add]
    exact Nat.pow_le_pow_right (by omega) (by omega)
/-- How great the nearest word is at most. -/
theorem nearest_le (f : Ieee.Format) (s : Bool) (m : Nat) (p L : Int) (h1 : p + (m.log2 : Int) - (f.fractionBits : Int) ≤ L) (h2 : f.leastPlace ≤ L) :
    ∃ r, r ≤ ((L - f.leastPlace).toNat + 2) * f.binade ∧ r ≤ f.infRung ∧ f.nearest s m p = f.word s r := by
  unfold Ieee.Format.nearest
  by_cases h0 : m = 0
  · rw [if_pos h0]; exact ⟨0, Nat.zero_le _, Nat.zero_le _, rfl⟩
  · rw [if_neg h0]
    dsimp only
    refine ⟨_, ?_, Nat.min_le_right _ _, rfl⟩
    refine Nat.le_trans (Nat.min_le_left _ _) ?_
    generalize hl : max (p + (m.log2 : Int) - (f.fractionBits : Int)) f.leastPlace = last
    have h3 : last ≤ L := by omega
    have h4 : f.leastPlace ≤ last := by omega
    have h5 : p + (m.log2 : Int) - (f.fractionBits : Int) ≤ last := by omega
    have hk : Ieee.Toward.even.cut s (m <<< (p - last).toNat) (last - p).toNat ≤ 2 * f.binade := by
      refine Nat.le_trans (cut_le _ _ _) ?_
      have := shl_div_lt m (p - last).toNat (last - p).toNat f.fractionBits h0 (by omega) (by omega)
      unfold Ieee.Format.binade
      rw [Nat.pow_succ] at this
      omega
    have h6 : (last - f.leastPlace).toNat * f.binade ≤ (L - f.leastPlace).toNat * f.binade := Nat.mul_le_mul_right _ (by omega)
    rw [Nat.add_mul]
    omega
theorem read_word (f : Ieee.Format) (s : Bool) (r : Nat) (h : r < f.infRung) {t : Bool} {m : Nat} {e : Int} (hb : f.binade ≤ f.infRung) (hd : f.read (f.word s r) = .number t m e) :
    m < 2 * f.binade ∧ e ≤ f.leastPlace + ((r / f.binade - 1 : Nat) : Int) ∧ f.leastPlace ≤ e := by
  have hbp : 0 < f.binade := Nat.two_pow_pos _
  unfold Ieee.Format.read at hd
  dsimp only at hd
  rw [word_mod f s (Nat.lt_trans h f.infRung_lt)] at hd
  by_cases h1 : r < f.binade
  · rw [if_pos h1] at hd
    injection hd with _ h3 h4
    omega
  · rw [if_neg h1, if_pos h] at hd
    injection hd with _ h3 h4
    have := Nat.mod_lt r hbp
    omega
theorem rootFrom_sq (n todo root : Nat) (h : root * root ≤ n) : Ieee.Datum.rootFrom n todo root * Ieee.Datum.rootFrom n todo root ≤ n := by
  induction todo generalizing root with
  | zero => exact h
  | succ k ih =>
    unfold Ieee.Datum.rootFrom
    dsimp only
    split
    · rename_i h1; exact ih _ h1
    · exact ih _ h

/-- The root of a float64. -/
def sqD (c : Nat) : Nat := (D.sqrt c).getD (qnan .f64)
/-- A float64 made narrow. -/
def nwD (c : Nat) : Nat := if (D.read c).isNaN then qnan .f32 else S.write (D.read c)
/-- The root of a float32. -/
def rootF (c : Nat) : Nat := nwD (sqD (wd c))
/-- What is not too great to be made narrow. -/
def nwOk (c : Nat) : Prop := (D.read c).isNaN = true ∨ (D.read c).isInfinity = true ∨ (S.read (S.write (D.read c))).isInfinity = false

theorem d_binade_le : D.binade ≤ D.infRung := by decide +kernel
theorem s_binade_le : S.binade ≤ S.infRung := by decide +kernel
/-- A number below 2 to the power of 65 can be made narrow. -/
theorem nwOk_of {s : Bool} {r : Nat} (h : r ≤ 1088 * 4503599627370496) : nwOk (D.word s r) := by
  have hr : r < D.infRung := by rw [d_inf]; omega
  cases hd : D.read (D.word s r) with
  | nan a b => exact .inl (by rw [hd]; rfl)
  | infinity a => exact .inr (.inl (by rw [hd]; rfl))
  | number t m e =>
    refine .inr (.inr ?_)
    rw [hd]
    obtain ⟨h1, h2, h3⟩ := read_word D s r hr d_binade_le hd
    rw [d_binade] at h1 h2
    rw [d_least] at h2 h3
    have h4 : r / 4503599627370496 ≤ 1088 := by omega
    have hml : m.log2 ≤ 52 := by
      by_cases hm : m = 0
      · subst hm; decide
      · have := (Nat.log2_lt hm).2 (show m < 2 ^ 53 by omega); omega
    have hf : (S.fractionBits : Int) = 23 := by decide +kernel
    obtain ⟨q, hq1, hq2, hq3⟩ := nearest_le S t m e 42 (by rw [hf]; omega) (by rw [s_least]; omega)
    show (S.read (S.nearest t m e)).isInfinity = false
    rw [hq3]
    refine read_word_inf S s_binade_le t ?_
    rw [s_least, s_binade] at hq1
    rw [s_inf]
    have h5 : ((42 : Int) - -149).toNat = 191 := by decide
    rw [h5] at hq1
    omega
theorem word_zero_ok (s : Bool) : nwOk (D.word s 0) := nwOk_of (by omega)
theorem root_ok (c : Nat) : nwOk (sqD (wd c)) := by
  unfold sqD
  cases hn : (S.read c).isNaN with
  | true =>
    have e : wd c = qnan .f64 := by unfold wd; rw [if_pos hn]
    rw [e]
    exact .inl (by decide +kernel)
  | false =>
    have e : wd c = D.write (S.read c) := by unfold wd; rw [if_neg (by simp [hn])]
    rw [e]
    unfold Ieee.Format.sqrt
    have key : ∀ s m i, D.read (D.write (S.read c)) = .number s m i → m < 9007199254740992 ∧ i ≤ 76 := by
      intro s m i hd
      cases hc : S.read c with
      | nan a b => rw [hc] at hn; simp [Ieee.Datum.isNaN] at hn
      | infinity a =>
        rw [hc] at hd
        have : D.read (D.write (.infinity a)) = .infinity a := by cases a <;> decide +kernel
        rw [this] at hd; cases hd
      | number s' m' e' =>
        rw [hc] at hd
        obtain ⟨h1, h2, h3⟩ := single_range c hc
        have hml : m'.log2 ≤ 23 := by
          by_cases hm : m' = 0
          · subst hm; decide
          · have := (Nat.log2_lt hm).2 (show m' < 2 ^ 24 by omega); omega
        have hf : (D.fractionBits : Int) = 52 := by decide +kernel
        obtain ⟨r, hr1, hr2, hr3⟩ := nearest_le D s' m' e' 75 (by rw [hf]; omega) (by rw [d_least]; omega)
        have hd' : D.read (D.nearest s' m' e') = .number s m i := hd
        rw [hr3] at hd'
        rw [d_least, d_binade] at hr1
        have h5 : ((75 : Int) - -1074).toNat = 1149 := by decide
        rw [h5] at hr1
        have hri : r < D.infRung := by rw [d_inf]; omega
        obtain ⟨g1, g2, g3⟩ := read_word D s' r hri d_binade_le hd'
        rw [d_binade] at g1 g2
        rw [d_least] at g2
        omega
    cases hd : D.read (D.write (S.read c)) with
    | nan a b => exact .inl (by show (D.read (qnan .f64)).isNaN = true; decide +kernel)
    | infinity a =>
      cases a
      · exact .inr (.inl (by show (D.read (D.write (.infinity false))).isInfinity = true; decide +kernel))
      · exact .inl (by show (D.read (qnan .f64)).isNaN = true; decide +kernel)
    | number s m i =>
      obtain ⟨h1, h2⟩ := key s m i hd
      unfold Ieee.Datum.root
      dsimp only
      by_cases hm : m = 0
      · rw [if_pos hm]
        subst hm
        show nwOk (D.nearest s 0 i)
        have : D.nearest s 0 i = D.word s 0 := by simp [Ieee.Format.nearest]
        rw [this]; exact word_zero_ok s
      · rw [if_neg hm]
        cases s
        · simp only [Bool.false_eq_true, if_false, Option.map_some, Option.getD_some]
          show nwOk (D.nearest _ _ _)
          have hml : m.log2 ≤ 52 := by have := (Nat.log2_lt hm).2 (show m < 2 ^ 53 by omega); omega
          have hdig : 2 * (D.fractionBits + 2) - m.log2 = 108 - m.log2 := by rfl
          rw [hdig]
          generalize hmore : 108 - m.log2 + ((i - ((108 - m.log2 : Nat) : Int)) % 2).toNat = more
          have hb1 : 56 ≤ more := by omega
          have hb2 : more + m.log2 ≤ 109 := by omega
          generalize hn' : m <<< more = n
          have hnlt : n < 2 ^ 110 := by
            rw [← hn', Nat.shiftLeft_eq]
            have h3 : m < 2 ^ (m.log2 + 1) := Nat.lt_log2_self
            refine Nat.lt_of_lt_of_le (Nat.mul_lt_mul_of_pos_right h3 (Nat.two_pow_pos _)) ?_
            rw [← Nat.pow_add]
            exact Nat.pow_le_pow_right (by omega) (by omega)
          have hsq := rootFrom_sq n (n.log2 / 2 + 1) 0 (Nat.zero_le _)
          generalize Ieee.Datum.rootFrom n (n.log2 / 2 + 1) 0 = whole at hsq ⊢
          have hw : whole < 2 ^ 55 := by
            rcases Nat.lt_or_ge whole (2 ^ 55) with h | h
            · exact h
            · exfalso
              have := Nat.mul_le_mul h h
              rw [← Nat.pow_add] at this
              omega
          have hbb : (whole * whole != n).toNat ≤ 1 := by cases (whole * whole != n) <;> decide
          generalize (whole * whole != n).toNat = bit at hbb ⊢
          have hmag : (2 * whole + bit).log2 ≤ 55 := by
            by_cases h0 : 2 * whole + bit = 0
            · rw [h0]; decide
            · have := (Nat.log2_lt h0).2 (show 2 * whole + bit < 2 ^ 56 by omega); omega
          have hf : (D.fractionBits : Int) = 52 := by decide +kernel
          obtain ⟨r, hr1, hr2, hr3⟩ := nearest_le D false (2 * whole + bit) ((i - (more : Int)) / 2 - 1) 12 (by rw [hf]; omega) (by rw [d_least]; omega)
          rw [hr3]
          rw [d_least, d_binade] at hr1
          have h5 : ((12 : Int) - -1074).toNat = 1086 := by decide
          rw [h5] at hr1
          exact nwOk_of (by omega)
        · exact .inl (by show (D.read (qnan .f64)).isNaN = true; decide +kernel)

end Go.Proofs.Ytkkomajokdlkeaa

namespace Go.Proofs.Ytkkomajokdlkeaa
set_option linter.unusedSimpArgs false
set_option linter.unusedVariables false
set_option maxRecDepth 100000
set_option maxHeartbeats 4000000
open Go.RowKit
attribute [local go_sem] run_store_float run_store_complex alloc_drewN setCell_drewN

/-- A series: 1 to 96 finite numbers. -/
def series (cs : List Nat) : Bool := decide (1 ≤ cs.length) && decide (cs.length ≤ 96) && allFin cs
def meanL (cs : List Nat) : Nat := divF (sumL cs) (fI cs.length)
theorem SL.slice {w : World} {v : Value} {cs : List Nat} (h : SL w v cs) : ∃ ao c, v = .slice ao cs.length c ∧ cs.length ≤ 9223372036854775807 := by
  obtain ⟨ao, c, xs, rfl, rfl, h3, _⟩ := h
  exact ⟨ao, c, by simp, by simp; omega⟩
theorem allFin_take {cs : List Nat} {k : Nat} (hk : k < cs.length) (h1 : allFin (cs.take k) = true) (h2 : fin cs[k] = true) : allFin (cs.take (k + 1)) = true := by
  unfold allFin at *
  rw [take_snoc cs k hk, List.all_append, h1]; simp [h2]
theorem allFin_no {cs : List Nat} {k : Nat} (hk : k < cs.length) (h2 : fin cs[k] = false) : allFin cs = false := by
  unfold allFin
  rw [List.all_eq_false]
  exact ⟨cs[k], List.getElem_mem hk, by simp [h2]⟩


theorem s_l02Finite (v : Value) (cs : List Nat) (w : World) (hv : SL w v cs) :
    Calls Try.prog 64 #[v] w fun e w' => e = .returned (.bool (allFin cs)) ∧ Dr w w' := by
  obtain ⟨ao, c, xs, rfl, hcs, hlen, hcell⟩ := hv
  have hl : xs.length = cs.length := by rw [← hcs]; simp
  have HL := Lib.hid hl
  have HCS := Lib.hid hcs
  have HC := Lib.hid hcell
  clear hcell hcs hl
  go_enter Try.func64, Try.ntmps64
  go_wp2_with fail
  go_loopw [3] (fun i wr => ∃ k : Nat, k ≤ xs.length ∧ i = .int .i64 k ∧ Hid (allFin (cs.take k) = true) ∧ ∃ d, wr = w.drewN d) (fun i _ => xs.length - (intOf i).toNat)
  case atStart => exact ⟨0, Nat.zero_le _, rfl, by simp [Hid, allFin], 0, rfl⟩
  case round =>
    obtain ⟨k, hk, rfl, H1, d, rfl⟩ := hrel
    by_cases hlt : k < xs.length
    · obtain ⟨b, off, rfl, hb, hc⟩ := HC.out k hlt
      have hlt2 : k < cs.length := by have := HL.out; omega
      have hk2 : cn .f32 xs[k] = cs[k] := by simp [← HCS.out]
      cases hp : fin (cn .f32 xs[k])
      all_goals
        have HP := Lib.hid hp
        have HK := Lib.hid hk2
        clear hp hk2
        go_wp2_with (go_at_call 69; refine (s_l01Finite _ _).mono ?_; rintro e w1 ⟨rfl, n, rfl⟩; rw [HP.out])
      · go_ret
        refine ⟨ret_bool ?_, _, rfl⟩
        rw [allFin_no hlt2 (by rw [← HK.out]; exact HP.out)]
      · refine ⟨⟨k + 1, by omega, by go_num, ?_, _, rfl⟩, by simp [intOf]; omega⟩
        exact allFin_take hlt2 H1.out (by rw [← HK.out]; exact HP.out)
    · go_wp2_with fail
      go_ret
      refine ⟨ret_bool ?_, _, rfl⟩
      have h1 := H1.out
      rw [List.take_of_length_le (by have := HL.out; omega)] at h1
      exact h1.symm


theorem s_l02Series (v : Value) (cs : List Nat) (w : World) (hv : SL w v cs) :
    Calls Try.prog 65 #[v] w fun e w' => e = .returned (.bool (series cs)) ∧ Dr w w' := by
  obtain ⟨ao, c, rfl, hlen⟩ := hv.slice
  by_cases h1 : 1 ≤ cs.length
  all_goals
    by_cases h2 : cs.length ≤ 96
    all_goals
      have a1 : (1 : Int) ≤ (cs.length : Int) ↔ 1 ≤ cs.length := by omega
      go_enter Try.func65, Try.ntmps65
      go_wp2_with (go_at_call 64; refine (s_l02Finite _ cs _ hv).mono ?_; rintro e w1 ⟨rfl, n, rfl⟩)
      all_goals
        go_ret
        refine ⟨ret_bool ?_, by first | exact Dr.refl _ | exact Dr.mk _ _⟩
        simp [series, h1, h2]

theorem i_IsSeries (v : Value) (cs : List Nat) (w : World) (hv : SL w v cs) :
    Calls Try.prog 60 #[v] w fun e w' => e = .returned (.bool (series cs)) ∧ Dr w w' := by
  obtain ⟨ao, c, rfl, hlen⟩ := hv.slice
  by_cases h1 : 1 ≤ cs.length
  all_goals
    by_cases h2 : cs.length ≤ 96
    all_goals
      have a1 : (1 : Int) ≤ (cs.length : Int) ↔ 1 ≤ cs.length := by omega
      go_enter Try.func60, Try.ntmps60
      go_wp2_with (go_at_call 81; refine (i_areFinite _ cs _ hv).mono ?_; rintro e w1 ⟨rfl, n, rfl⟩)
      all_goals
        go_ret
        refine ⟨ret_bool ?_, by first | exact Dr.refl _ | exact Dr.mk _ _⟩
        simp [series, h1, h2]

theorem i_addUp (v : Value) (cs : List Nat) (w : World) (hv : SL w v cs) :
    Calls Try.prog 116 #[v] w fun e w' => (∃ r, e = .returned (.float .f32 r) ∧ r < 4294967296 ∧ cn .f32 r = sumL cs) ∧ ∃ n, w.drewN n = w' := by
  obtain ⟨ao, c, xs, rfl, rfl, hlen, hcell⟩ := hv
  have HC := Lib.hid hcell
  clear hcell
  go_enter Try.func116, Try.ntmps116
  go_wp2_with fail
  go_loopw [3, 8] (fun s i wr => ∃ k : Nat, k ≤ xs.length ∧ i = .int .i64 k ∧ (∃ r, s = .float .f32 r ∧ r < 4294967296 ∧ Hid (cn .f32 r = sumL ((xs.map (cn .f32)).take k))) ∧ ∃ d, wr = w.drewN d) (fun _ i _ => xs.length - (intOf i).toNat)
  case atStart => exact ⟨0, Nat.zero_le _, rfl, ⟨0, rfl, by omega, by rw [List.take_zero]; exact cn0⟩, 0, rfl⟩
  case round =>
    obtain ⟨k, hk, rfl, ⟨r, rfl, hr0, hr⟩, d, rfl⟩ := hrel
    by_cases hlt : k < xs.length
    · obtain ⟨b, off, rfl, hb, hc⟩ := HC.out k hlt
      go_wp2_with (refine wpList_ar .f32 _ _ rfl rfl rfl ?_; intro r1 n1 hr1 hlt1)
      refine ⟨⟨k + 1, by omega, by go_num, ⟨r1, rfl, hlt1, ?_⟩, _, rfl⟩, by simp [intOf]; omega⟩
      show _ = _
      rw [take_map_snoc _ _ _ hlt, sumL_snoc, hr1, hr.out]; rfl
    · go_wp2_with fail
      go_ret
      refine ⟨⟨r, rfl, hr0, ?_⟩, _, rfl⟩
      rw [hr.out, List.take_of_length_le (by simp; omega)]

theorem s_l07Sum (v : Value) (cs : List Nat) (w : World) (hv : SL w v cs) :
    Calls Try.prog 134 #[v] w fun e w' => (∃ r, e = .returned (.float .f32 r) ∧ r < 4294967296 ∧ cn .f32 r = sumL cs) ∧ ∃ n, w.drewN n = w' := by
  obtain ⟨ao, c, xs, rfl, rfl, hlen, hcell⟩ := hv
  have HC := Lib.hid hcell
  clear hcell
  go_enter Try.func134, Try.ntmps134
  go_wp2_with fail
  go_loopw [3, 7] (fun s i wr => ∃ k : Nat, k ≤ xs.length ∧ i = .int .i64 k ∧ (∃ r, s = .float .f32 r ∧ r < 4294967296 ∧ Hid (cn .f32 r = sumL ((xs.map (cn .f32)).take k))) ∧ ∃ d, wr = w.drewN d) (fun _ i _ => xs.length - (intOf i).toNat)
  case atStart => exact ⟨0, Nat.zero_le _, rfl, ⟨0, rfl, by omega, by rw [List.take_zero]; exact cn0⟩, 0, rfl⟩
  case round =>
    obtain ⟨k, hk, rfl, ⟨r, rfl, hr0, hr⟩, d, rfl⟩ := hrel
    by_cases hlt : k < xs.length
    · obtain ⟨b, off, rfl, hb, hc⟩ := HC.out k hlt
      go_wp2_with (refine wpList_ar .f32 _ _ rfl rfl rfl ?_; intro r1 n1 hr1 hlt1)
      refine ⟨⟨k + 1, by omega, by go_num, ⟨r1, rfl, hlt1, ?_⟩, _, rfl⟩, by simp [intOf]; omega⟩
      show _ = _
      rw [take_map_snoc _ _ _ hlt, sumL_snoc, hr1, hr.out]; rfl
    · go_wp2_with fail
      go_ret
      refine ⟨⟨r, rfl, hr0, ?_⟩, _, rfl⟩
      rw [hr.out, List.take_of_length_le (by simp; omega)]

theorem i_mean (v : Value) (cs : List Nat) (w : World) (hv : SL w v cs) :
    Calls Try.prog 75 #[v] w fun e w' => (∃ r, e = .returned (.float .f32 r) ∧ r < 4294967296 ∧ cn .f32 r = meanL cs) ∧ ∃ n, w.drewN n = w' := by
  obtain ⟨ao, c, rfl, hlen⟩ := hv.slice
  go_enter Try.func75, Try.ntmps75
  go_wp2_with (first | (go_at_call 116; refine (i_addUp _ cs _ hv).mono ?_; rintro e w1 ⟨⟨r, rfl, hr, hs⟩, n, rfl⟩; have HS := Lib.hid hs; clear hs) | (refine wpList_ar .f32 _ _ rfl rfl rfl ?_; intro r1 n1 hr1 hlt1; have HR := Lib.hid hr1; clear hr1))
  go_ret
  refine ⟨⟨_, rfl, by assumption, ?_⟩, _, rfl⟩
  rw [HR.out, HS.out]
  show divF _ (cn .f32 (floatOfInt .f32 _)) = _
  rw [show cn .f32 (floatOfInt .f32 (cs.length : Int)) = fI cs.length from cn_fI _]; rfl

theorem i_ifAll (v : Value) (cs : List Nat) (w : World) (hv : SL w v cs) :
    Calls Try.prog 76 #[v] w fun e w' => GV v cs e ∧ Dr w w' := by
  cases hp : allFin cs
  all_goals
    have HP := Lib.hid hp
    clear hp
    go_enter Try.func76, Try.ntmps76
    go_wp2_with (go_at_call 81; refine (i_areFinite _ cs _ hv).mono ?_; rintro e w1 ⟨rfl, n, rfl⟩; rw [HP.out])
    go_ret2
    exact ⟨⟨_, _, rfl, by rw [HP.out]; rfl, HP.out.symm⟩, Dr.mk _ _⟩

theorem i_isForth (n : Int) (w : World) : Calls Try.prog 78 #[.int .i64 n] w fun e w' => e = .returned (.bool (inB n 0 32)) ∧ Dr w w' := by
  go_enter Try.func78, Try.ntmps78
  go_wp2_with (go_at_call 56; refine (i_within _ _ _ _).mono ?_; rintro e w1 ⟨rfl, n, rfl⟩)
  go_ret
  exact ⟨rfl, _, rfl⟩

theorem i_isPeriodOf (v : Value) (cs : List Nat) (p : Int) (w : World) (hv : SL w v cs) :
    Calls Try.prog 74 #[v, .int .i64 p] w fun e w' => e = .returned (.bool (series cs && inB p 1 cs.length)) ∧ Dr w w' := by
  obtain ⟨ao, c, rfl, hlen⟩ := hv.slice
  cases hp : series cs
  all_goals
    have HP := Lib.hid hp
    clear hp
    go_enter Try.func74, Try.ntmps74
    go_wp2_with (first | (go_at_call 60; refine (i_IsSeries _ cs _ hv).mono ?_; rintro e w1 ⟨rfl, n, rfl⟩; rw [HP.out]) | (go_at_call 56; refine (i_within _ _ _ _).mono ?_; rintro e w1 ⟨rfl, n, rfl⟩))
    go_ret
    exact ⟨rfl, _, rfl⟩

end Go.Proofs.Ytkkomajokdlkeaa

namespace Go.Proofs.Ytkkomajokdlkeaa
set_option linter.unusedSimpArgs false
set_option linter.unusedVariables false
set_option maxRecDepth 100000
set_option maxHeartbeats 4000000
open Go.RowKit
attribute [local go_sem] run_store_float run_store_complex alloc_drewN setCell_drewN

theorem run_nw {P : Program} (w : World) (src dst : TypeId) (b : Nat) (hs : (P.underlying src).isSome = true) (hd : P.underlying dst = some (.float .f32)) (hok : nwOk (cn .f64 b)) :
    ∃ r n, (convert src dst (.float .f64 b)).run P w = .ok (.float .f32 r) (w.drewN n) ∧ cn .f32 r = nwD (cn .f64 b) ∧ r < 4294967296 := by
  obtain ⟨u, hs'⟩ := Option.isSome_iff_exists.1 hs
  cases hn : (D.read b).isNaN with
  | true =>
    obtain ⟨s, t, hr⟩ := isNaN_cases hn
    have hr' : FloatKind.f64.decode b = .nan s t := hr
    refine ⟨Question.cut (.nanConv .f32 b) (w.tape w.drawn (.nanConv .f32 b)), 1, ?_, ?_, nanConv_lt .f32 ..⟩
    · cases u <;> simp [convert, run_underlying hs', run_underlying hd, Conv.floatToFloat, hr', choose, Sem.run, Question.forced, World.drewN]
    · rw [cn_of_nan (nanConv_isNaN ..), cn_of_nan (k := .f64) hn]
      decide +kernel
  | false =>
    have hc : cn .f64 b = b := cn_of_not hn
    rw [hc] at hok ⊢
    refine ⟨S.write (D.read b), 0, ?_, ?_, Ieee.Format.write_lt S _⟩
    · refine run_convert_float_float (P := P) w src dst .f64 .f32 b _ hs hd ?_
      unfold floatToFloatBits
      rw [if_neg (by decide)]
      show (match D.read b with | .nan _ _ => none | .infinity s => some (FloatKind.f32.encode (.infinity s)) | .number s m e => if (FloatKind.f32.decode (FloatKind.f32.encode (.number s m e))).isInfinity = true then none else some (FloatKind.f32.encode (.number s m e))) = _
      rcases hok with h | h | h
      · rw [hn] at h; cases h
      · cases hd : D.read b with
        | nan s t => rw [hd] at hn; simp [Ieee.Datum.isNaN] at hn
        | infinity s => rfl
        | number s m e => rw [hd] at h; simp [Ieee.Datum.isInfinity] at h
      · cases hd : D.read b with
        | nan s t => rw [hd] at hn; simp [Ieee.Datum.isNaN] at hn
        | infinity s => rfl
        | number s m e =>
          rw [hd] at h
          have h2 : (FloatKind.f32.decode (FloatKind.f32.encode (.number s m e))).isInfinity = false := h
          dsimp only
          rw [h2]; rfl
    · rw [cn_of_not (show (FloatKind.f32.format.read (S.write (D.read b))).isNaN = false from write_not_nan S _ hn)]
      unfold nwD; rw [if_neg (by simp [hn])]
theorem wpList_nw {P : Program} {ops : Array Oper} {Q : Exit → Act → World → Prop} {a : Act} {w : World} {rest : List Oper} {dst : Option Tmp} {src to type : TypeId} {x : Operand} {pos : String} {after : Array Edge}
    (hs : (P.underlying src).isSome = true) (hd : P.underlying to = some (.float .f32)) (b : Nat) (hok : nwOk (cn .f64 b)) (hx : a.eval x = .float .f64 b)
    (hK : ∀ r n, cn .f32 r = nwD (cn .f64 b) → r < 4294967296 → wpList P ops Q rest (a.put dst (.float .f32 r)) (w.drewN n)) :
    wpList P ops Q ({ dst := dst, op := .convert src to x, type := type, pos := pos, after := after, guard := none } :: rest) a w := by
  refine wpList_plain rfl fun K hK' => ?_
  obtain ⟨r, n, hrun, hr, hlt⟩ := run_nw (P := P) w src to b hs hd hok
  unfold Oper.wp
  simp [execOp, hx, hrun, Result.andThen]
  exact hK' _ _ (hK r n hr hlt)
theorem sqrt_cn (x : Nat) : D.sqrt (cn .f64 x) = D.sqrt x := by
  cases hn : (D.read x).isNaN with
  | true =>
    rw [cn_of_nan (k := .f64) hn]
    obtain ⟨s, t, hr⟩ := isNaN_cases hn
    obtain ⟨s', t', hr'⟩ := isNaN_cases (qnan_isNaN .f64)
    have hr2 : D.read (qnan .f64) = .nan s' t' := hr'
    unfold Ieee.Format.sqrt
    rw [hr, hr2]; rfl
  | false => rw [cn_of_not (k := .f64) hn]
theorem root_not_nan {n : Nat} {x z : Ieee.Datum} (h : x.root n = some z) : z.isNaN = false := by
  cases x with
  | nan s t => cases h
  | infinity s =>
    cases s
    · simp [Ieee.Datum.root] at h; subst h; rfl
    · simp [Ieee.Datum.root] at h
  | number s m i =>
    unfold Ieee.Datum.root at h
    dsimp only at h
    by_cases h0 : m = 0
    · rw [if_pos h0] at h; cases h; rfl
    · rw [if_neg h0] at h
      cases s
      · rw [if_neg (by decide)] at h; cases h; rfl
      · rw [if_pos rfl] at h; cases h


theorem run_sqrt (x : Nat) (w : World) : ∃ r n, (callFunc 145 #[.float .f64 x]).run Try.prog w = .ok (.value (.float .f64 r)) (w.drewN n) ∧ cn .f64 r = sqD (cn .f64 x) ∧ r < 18446744073709551616 := by
  have e : (callFunc 145 #[.float .f64 x]).run Try.prog w = ((match FloatKind.f64.format.sqrt x with | some r => (pure (.float .f64 r) : Sem Value) | none => do pure (.float .f64 (← choose (.nanBits .f64 x x)))) >>= fun v => pure (Next.value v)).run Try.prog w := by kernel_rfl
  rw [e]
  have hq : sqD (cn .f64 x) = (D.sqrt x).getD (qnan .f64) := by unfold sqD; rw [sqrt_cn]
  cases h : D.sqrt x with
  | some r =>
    have h' : FloatKind.f64.format.sqrt x = some r := h
    refine ⟨r, 0, ?_, ?_, ?_⟩
    · rw [h']; rfl
    · rw [hq, h]
      obtain ⟨z, hz, rfl⟩ := Option.map_eq_some_iff.1 h
      exact cn_of_not (write_not_nan _ _ (root_not_nan hz))
    · obtain ⟨z, hz, rfl⟩ := Option.map_eq_some_iff.1 h
      exact Ieee.Format.write_lt D _
  | none =>
    have h' : FloatKind.f64.format.sqrt x = none := h
    refine ⟨Question.cut (.nanBits .f64 x x) (w.tape w.drawn (.nanBits .f64 x x)), 1, ?_, ?_, nanBits_lt .f64 ..⟩
    · rw [h']; simp [choose, Sem.run, Question.forced, World.drewN]
    · rw [hq, h, cn_of_nan (nanBits_isNaN ..)]; rfl

theorem f_Sqrt (x : Nat) (w : World) : Calls Try.prog 124 #[.float .f64 x] w fun e w' => (∃ r, e = .returned (.float .f64 r) ∧ r < 18446744073709551616 ∧ cn .f64 r = sqD (cn .f64 x)) ∧ Dr w w' := by
  obtain ⟨R, N, hR⟩ : ∃ (R : Nat → World → Nat) (N : Nat → World → Nat), ∀ x wx, (callFunc 145 #[.float .f64 x]).run Try.prog wx = .ok (.value (.float .f64 (R x wx))) (wx.drewN (N x wx)) ∧ cn .f64 (R x wx) = sqD (cn .f64 x) ∧ R x wx < 18446744073709551616 :=
    ⟨fun x wx => Classical.choose (run_sqrt x wx), fun x wx => Classical.choose (Classical.choose_spec (run_sqrt x wx)), fun x wx => Classical.choose_spec (Classical.choose_spec (run_sqrt x wx))⟩
  have hrun := fun x wx => (hR x wx).1
  have HR := Lib.hid (fun x wx => (hR x wx).2)
  clear hR
  go_enter Try.func124, Try.ntmps124
  go_wp2_with fail
  go_ret
  exact ⟨⟨_, rfl, (HR.out _ _).2, (HR.out _ _).1⟩, _, rfl⟩

theorem i_RootNumber (x : Nat) (w : World) : Calls Try.prog 73 #[.float .f32 x] w fun e w' => (∃ r, e = .returned (.float .f32 r) ∧ r < 4294967296 ∧ cn .f32 r = rootF (cn .f32 x)) ∧ Dr w w' := by
  go_enter Try.func73, Try.ntmps73
  go_wp2_with (first
    | (refine wpList_wd (by kernel_rfl) (by kernel_rfl) _ rfl ?_; intro r n hr hlt; have HR := Lib.hid hr; clear hr)
    | (go_at_call 124; refine (f_Sqrt _ _).mono ?_; rintro e w1 ⟨⟨r1, rfl, hr1, hr2⟩, n1, rfl⟩; have HR1 := Lib.hid hr2; clear hr2)
    | (refine wpList_nw (by kernel_rfl) (by kernel_rfl) _ (by rw [HR1.out, HR.out]; exact root_ok _) rfl ?_; intro r2 n2 hr2 hlt2; have HR2 := Lib.hid hr2; clear hr2))
  go_ret
  refine ⟨⟨_, rfl, hlt2, ?_⟩, _, rfl⟩
  rw [HR2.out, HR1.out, HR.out]; rfl

theorem s_l01Narrow (x : Nat) (hok : nwOk (cn .f64 x)) (w : World) : Calls Try.prog 140 #[.float .f64 x] w fun e w' => (∃ r, e = .returned (.float .f32 r) ∧ r < 4294967296 ∧ cn .f32 r = nwD (cn .f64 x)) ∧ Dr w w' := by
  go_enter Try.func140, Try.ntmps140
  go_wp2_with (refine wpList_nw (by kernel_rfl) (by kernel_rfl) _ hok rfl ?_; intro r2 n2 hr2 hlt2; have HR2 := Lib.hid hr2; clear hr2)
  go_ret
  exact ⟨⟨_, rfl, hlt2, HR2.out⟩, _, rfl⟩

theorem s_l01Sqrt (x : Nat) (w : World) : Calls Try.prog 120 #[.float .f32 x] w fun e w' => (∃ r, e = .returned (.float .f32 r) ∧ r < 4294967296 ∧ cn .f32 r = rootF (cn .f32 x)) ∧ Dr w w' := by
  go_enter Try.func120, Try.ntmps120
  go_wp2_with (first
    | (refine wpList_wd (by kernel_rfl) (by kernel_rfl) _ rfl ?_; intro r n hr hlt; have HR := Lib.hid hr; clear hr)
    | (go_at_call 124; refine (f_Sqrt _ _).mono ?_; rintro e w1 ⟨⟨r1, rfl, hr1, hr2⟩, n1, rfl⟩; have HR1 := Lib.hid hr2; clear hr2)
    | (go_at_call 140; refine (s_l01Narrow _ (by rw [HR1.out, HR.out]; exact root_ok _) _).mono ?_; rintro e w1 ⟨⟨r2, rfl, hlt2, hr2⟩, n2, rfl⟩; have HR2 := Lib.hid hr2; clear hr2))
  go_ret
  refine ⟨⟨_, rfl, hlt2, ?_⟩, _, rfl⟩
  rw [HR2.out, HR1.out, HR.out]; rfl

end Go.Proofs.Ytkkomajokdlkeaa
