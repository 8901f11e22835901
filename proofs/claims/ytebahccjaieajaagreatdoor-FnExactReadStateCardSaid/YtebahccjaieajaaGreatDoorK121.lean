/- Contracts: decimals read, by both. -/
import Derived.Test.YtebahccjaieajaaGreatDoorRdc
import Derived.Test.YtebahccjaieajaaGreatDoorK119
namespace Go.Proofs.YtebahccjaieajaaGreatDoor
set_option linter.unusedSimpArgs false
set_option linter.unusedVariables false
set_option maxRecDepth 100000
set_option maxHeartbeats 4000000
open Go.RowKit
attribute [local go_sem] run_store_float run_store_complex alloc_drewN setCell_drewN
theorem isVal_inB (n : Int) : inB n (-1000000000000000) 1000000000000000 = decide (isVal n) := by
  by_cases h : isVal n
  · rw [decide_eq_true h, inB, decide_eq_true h.1, decide_eq_true h.2]; rfl
  · rw [decide_eq_false h, Bool.eq_false_iff]; exact fun e => h ((inB_iff _ _ _).1 e)
theorem dgV_step {l : List UInt8} {k : Nat} (h : k < l.length) : dgV 0 (l.take (k + 1)) = if 48 ≤ l[k].toNat ∧ l[k].toNat ≤ 57 then 10 * dgV 0 (l.take k) + (l[k].toNat - 48) else dgV 0 (l.take k) := by
  rw [List.take_succ_eq_append_getElem h, dgV_append]
  rfl
theorem dgV_lt : ∀ (l : List UInt8) (a k : Nat), a < 10 ^ k → dgV a l < 10 ^ (k + l.length)
  | [], a, k, h => h
  | b :: l, a, k, h => by
    rw [dgV, List.length_cons, show k + (l.length + 1) = k + 1 + l.length by omega]
    refine dgV_lt l _ (k + 1) ?_
    rw [Nat.pow_succ]
    split <;> omega
theorem dgV_small {l : List UInt8} {k : Nat} (h : l.length ≤ 17) : dgV 0 (l.take k) < 100000000000000000 := by
  have h1 := dgV_lt (l.take k) 0 0 (by decide)
  have h2 : (l.take k).length ≤ 17 := by rw [List.length_take]; omega
  have h3 : 10 ^ (0 + (l.take k).length) ≤ 10 ^ 17 := Nat.pow_le_pow_right (by decide) (by omega)
  have h4 : (10 : Nat) ^ 17 = 100000000000000000 := by decide
  omega

theorem s_l01Value (t : ByteArray) (w : World) :
    Calls Tryz.prog 20 #[.string t] w fun e w' => e = .returned (.tuple #[.int .i64 ((rdD t.data.toList).getD 0), .bool (rdD t.data.toList).isSome]) ∧ Below w.heap.size w w' := by
  have HQ := Lib.hid (rdD_ref t.data.toList)
  generalize rdD t.data.toList = Q at HQ ⊢
  have hl := data_len t
  have HX := Lib.hid (fun k (hk : k < t.size) (h2 : k < t.data.toList.length) => show t.data.toList[k]'h2 = t[k]'hk from data_at t hk)
  have HT := Lib.hid (data_tx t)
  generalize t.data.toList = l at HQ hl HX HT
  by_cases hlen : 1 ≤ t.size ∧ t.size ≤ 17
  · obtain ⟨h1, h17⟩ := hlen
    have i1 : ¬ (t.size : Int) < 1 := by omega
    have i2 : ¬ (17 : Int) < (t.size : Int) := by omega
    have HST := Lib.hid (fun k (hk : k < l.length) => dgV_step (l := l) (k := k) hk)
    have HSM := Lib.hid (fun k => dgV_small (l := l) (k := k) (by omega))
    have HQ2 := Lib.hid (show Q = if isVal (sgV l) ∧ Lib.itoa (sgV l) = l then some (sgV l) else none by
      rw [HQ.out]
      by_cases hx : isVal (sgV l) ∧ Lib.itoa (sgV l) = l
      · rw [if_pos hx, if_pos ⟨⟨by omega, by omega⟩, hx⟩]
      · rw [if_neg hx, if_neg (fun hh => hx hh.2)])
    have HL := Lib.hid hl
    clear HQ hl
    go_enter Tryz.func20, Tryz.ntmps20
    go_wp2_with fail
    go_loop [4, 5] (fun n i => ∃ (k : Nat) (a : Int), n = .int .i64 a ∧ i = .int .i64 (k : Int) ∧ k ≤ t.size ∧ 0 ≤ a ∧ a < 100000000000000000 ∧ Hid (a = (dgV 0 (l.take k) : Int))) (fun _ i => t.size - (intOf i).toNat)
    case atStart => exact ⟨0, 0, rfl, rfl, Nat.zero_le _, by decide, by decide, rfl⟩
    case round =>
      obtain ⟨k, a, rfl, rfl, hk, ha0, ha1, HA⟩ := hrel
      by_cases hlt : k < t.size
      · have hkl : k < l.length := by have := HL.out; omega
        have HS := Lib.hid (HST.out k hkl)
        have HB := Lib.hid (HSM.out (k + 1))
        rw [HX.out k hlt hkl] at HS
        have hki : (k : Int) < (t.size : Int) := by omega
        have hc256 := t[k].toNat_lt
        by_cases hd : 48 ≤ t[k].toNat ∧ t[k].toNat ≤ 57
        · have HN := Lib.hid (show 10 * a + ((t[k].toNat : Int) - 48) = (dgV 0 (l.take (k + 1)) : Int) by rw [HS.out, if_pos hd, HA.out]; omega)
          have hb1 : 10 * a + ((t[k].toNat : Int) - 48) < 100000000000000000 := by have := HB.out; have := HN.out; omega
          obtain ⟨hd0, hd1⟩ := hd
          have j0 : (48 : Int) ≤ (t[k].toNat : Int) := by omega
          have j1 : (t[k].toNat : Int) ≤ 57 := by omega
          go_wp2_with fail
          exact ⟨⟨k + 1, 10 * a + ((t[k].toNat : Int) - 48), rfl, by go_num, by omega, by omega, by omega, HN.out⟩, by simp [intOf]; omega⟩
        · have HN := Lib.hid (show a = (dgV 0 (l.take (k + 1)) : Int) by rw [HS.out, if_neg hd, HA.out])
          have hd2 : ¬ ((48 : Int) ≤ (t[k].toNat : Int) ∧ (t[k].toNat : Int) ≤ 57) := by omega
          go_wp2_with fail
          all_goals exact ⟨⟨k + 1, a, rfl, by go_num, by omega, ha0, ha1, HN.out⟩, by simp [intOf]; omega⟩
      · have hke : k = t.size := by omega
        have HN := Lib.hid (show a = (dgV 0 l : Int) by rw [HA.out, List.take_of_length_le (by have := HL.out; omega)])
        have h0 : 0 < t.size := by omega
        have hl0 : 0 < l.length := by have := HL.out; omega
        have HH := Lib.hid (show l.head? = some t[0] by rw [List.head?_eq_getElem?, List.getElem?_eq_getElem hl0, HX.out 0 h0 hl0])
        have hng : ¬ (k : Int) < (t.size : Int) := by omega
        clear hlt hke hl0
        by_cases h45 : t[0] = 45
        · have i45 : t[0].toNat = 45 := by rw [h45]; rfl
          have e45 : ((t[0].toNat : Int) == 45) = true := by rw [i45]; rfl
          have i45 : (t[0].toNat : Int) = 45 := by omega
          have HSG := Lib.hid (show sgV l = -a by rw [sgV, if_pos (by rw [HH.out, h45]), HN.out])
          have HIN := Lib.hid (s_l00In (-a) (-1000000000000000) 1000000000000000)
          rw [isVal_inB] at HIN
          have HDC := Lib.hid (s_l01Dec (-a) (by omega) (by omega))
          rw [HSG.out] at HQ2
          clear HSG
          by_cases hv : isVal (-a)
          · have e1 : decide (isVal (-a)) = true := decide_eq_true hv
            rw [e1] at HIN
            by_cases hx : Lib.itoa (-a) = l
            · have HF := Lib.hid (show Q = some (-a) by rw [HQ2.out, if_pos ⟨hv, hx⟩])
              have ht : tx (Lib.itoa (-a)) = t := by rw [hx]; exact HT.out
              rw [ht] at HDC
              clear hv hx ht e1 HST HSM HX HA HN HQ2
              go_wp2_with fail
              refine (HIN.out _).mono ?_; rintro e w1 ⟨rfl, hd⟩
              have hb1 := hd.below w.heap.size
              clear hd
              go_wp2_with fail
              refine (HDC.out _).mono ?_; rintro e w2 ⟨rfl, hb2⟩
              go_wp2_with fail
              go_ret2
              exact ⟨by rw [HF.out]; rfl, hb1.trans (hb2.mono hb1.size)⟩
            · have HF := Lib.hid (show Q = none by rw [HQ2.out, if_neg (fun hh => hx hh.2)])
              have ht : tx (Lib.itoa (-a)) ≠ t := fun e => hx (by have h2 : tx (Lib.itoa (-a)) = tx l := e.trans HT.out.symm; exact tx_inj h2)
              have e2 := str_ne2 ht
              generalize tx (Lib.itoa (-a)) = T at *
              clear hv hx ht e1 HST HSM HX HA HN HQ2
              go_wp2_with fail
              refine (HIN.out _).mono ?_; rintro e w1 ⟨rfl, hd⟩
              have hb1 := hd.below w.heap.size
              clear hd
              go_wp2_with fail
              refine (HDC.out _).mono ?_; rintro e w2 ⟨rfl, hb2⟩
              go_wp2_with fail
              go_ret2
              exact ⟨by rw [HF.out]; rfl, hb1.trans (hb2.mono hb1.size)⟩
          · have HF := Lib.hid (show Q = none by rw [HQ2.out, if_neg (fun hh => hv hh.1)])
            have e1 : decide (isVal (-a)) = false := decide_eq_false hv
            rw [e1] at HIN
            clear hv e1 HST HSM HX HA HN HQ2 HDC
            go_wp2_with fail
            refine (HIN.out _).mono ?_; rintro e w1 ⟨rfl, hd⟩
            have hb1 := hd.below w.heap.size
            clear hd
            go_wp2_with fail
            go_ret2
            exact ⟨by rw [HF.out]; rfl, hb1⟩
        · have i45 : t[0].toNat ≠ 45 := fun e => h45 (UInt8.toNat_inj.1 e)
          have e45 : ((t[0].toNat : Int) == 45) = false := by rw [beq_eq_false_iff_ne]; omega
          have i45 : ¬ (t[0].toNat : Int) = 45 := by omega
          have HSG := Lib.hid (show sgV l = a by rw [sgV, if_neg (by rw [HH.out]; exact fun e => h45 (Option.some.inj e)), HN.out])
          have HIN := Lib.hid (s_l00In a (-1000000000000000) 1000000000000000)
          rw [isVal_inB] at HIN
          have HDC := Lib.hid (s_l01Dec a (by omega) (by omega))
          rw [HSG.out] at HQ2
          clear HSG
          by_cases hv : isVal (a)
          · have e1 : decide (isVal (a)) = true := decide_eq_true hv
            rw [e1] at HIN
            by_cases hx : Lib.itoa (a) = l
            · have HF := Lib.hid (show Q = some (a) by rw [HQ2.out, if_pos ⟨hv, hx⟩])
              have ht : tx (Lib.itoa (a)) = t := by rw [hx]; exact HT.out
              rw [ht] at HDC
              clear hv hx ht e1 HST HSM HX HA HN HQ2
              go_wp2_with fail
              refine (HIN.out _).mono ?_; rintro e w1 ⟨rfl, hd⟩
              have hb1 := hd.below w.heap.size
              clear hd
              go_wp2_with fail
              refine (HDC.out _).mono ?_; rintro e w2 ⟨rfl, hb2⟩
              go_wp2_with fail
              go_ret2
              exact ⟨by rw [HF.out]; rfl, hb1.trans (hb2.mono hb1.size)⟩
            · have HF := Lib.hid (show Q = none by rw [HQ2.out, if_neg (fun hh => hx hh.2)])
              have ht : tx (Lib.itoa (a)) ≠ t := fun e => hx (by have h2 : tx (Lib.itoa (a)) = tx l := e.trans HT.out.symm; exact tx_inj h2)
              have e2 := str_ne2 ht
              generalize tx (Lib.itoa (a)) = T at *
              clear hv hx ht e1 HST HSM HX HA HN HQ2
              go_wp2_with fail
              refine (HIN.out _).mono ?_; rintro e w1 ⟨rfl, hd⟩
              have hb1 := hd.below w.heap.size
              clear hd
              go_wp2_with fail
              refine (HDC.out _).mono ?_; rintro e w2 ⟨rfl, hb2⟩
              go_wp2_with fail
              go_ret2
              exact ⟨by rw [HF.out]; rfl, hb1.trans (hb2.mono hb1.size)⟩
          · have HF := Lib.hid (show Q = none by rw [HQ2.out, if_neg (fun hh => hv hh.1)])
            have e1 : decide (isVal (a)) = false := decide_eq_false hv
            rw [e1] at HIN
            clear hv e1 HST HSM HX HA HN HQ2 HDC
            go_wp2_with fail
            refine (HIN.out _).mono ?_; rintro e w1 ⟨rfl, hd⟩
            have hb1 := hd.below w.heap.size
            clear hd
            go_wp2_with fail
            go_ret2
            exact ⟨by rw [HF.out]; rfl, hb1⟩
  · have HF := Lib.hid (show Q = none by rw [HQ.out, if_neg]; exact fun hh => hlen (by rw [← hl]; exact hh.1))
    rcases (show t.size < 1 ∨ 17 < t.size by omega) with h | h
    · have i1 : (t.size : Int) < 1 := by omega
      go_enter Tryz.func20, Tryz.ntmps20
      go_wp2_with fail
      go_ret2
      exact ⟨by rw [HF.out]; rfl, Below.refl _ _⟩
    · have i1 : ¬ (t.size : Int) < 1 := by omega
      have i2 : (17 : Int) < (t.size : Int) := by omega
      go_enter Tryz.func20, Tryz.ntmps20
      go_wp2_with fail
      go_ret2
      exact ⟨by rw [HF.out]; rfl, Below.refl _ _⟩

theorem i_isValue (n : Int) (w : World) : Calls Tryz.prog 27 #[.int .i64 n] w fun e w' => e = .returned (.bool (decide (isVal n))) ∧ Dr w w' := by
  have HW := Lib.hid (i_within n (-1000000000000000) 1000000000000000)
  rw [isVal_inB] at HW
  generalize decide (isVal n) = B at *
  go_enter Tryz.func27, Tryz.ntmps27
  go_wp2_with fail
  refine (HW.out _).mono ?_; rintro e w1 ⟨rfl, hd⟩
  go_wp2_with fail
  go_ret
  exact ⟨rfl, hd⟩

/-- What ParseInt gives at base 10 and 64 bits. -/
theorem f_ParseInt (t : ByteArray) (hs : t.size ≤ 100000000) (ev ev2 : Value) (hev : ev = .nilIface ∨ ∃ te pe, ev = .iface te pe) (hev2 : ev2 = .nilIface ∨ ∃ te pe, ev2 = .iface te pe) (w : World)
    (hv : w.cell? ⟨2, 0, none⟩ = some ev) (hv2 : w.cell? ⟨3, 0, none⟩ = some ev2) :
    Calls Tryz.prog 26 #[.string t, .int .i64 10, .int .i64 64] w fun e w' => (∃ x er, e = .returned (.tuple #[.int .i64 x, er]) ∧ ((er = .nilIface ∧ Lib.parseIntB 64 t.data.toList = .ok x) ∨ ((∃ T p, er = .iface T p) ∧ ∀ v, Lib.parseIntB 64 t.data.toList ≠ .ok v))) ∧ Below w.heap.size w w' := by
  rcases h : Lib.parseIntB 64 t.data.toList with v | _ | _
  · refine (Tryz.strconv_ParseInt_10_at64_ok t (by omega) v h w).mono ?_
    rintro e w' ⟨rfl, hw⟩
    refine ⟨⟨v, _, rfl, .inl ⟨rfl, rfl⟩⟩, ?_⟩
    rcases hw with rfl | ⟨t, rfl⟩
    · exact Below.refl _ _
    · exact Lib.bytesWorld_below _ _ _
  · refine (Tryz.strconv_ParseInt_10_at64_syntax t (by omega) h ev w hv hev).mono ?_
    rintro e w' ⟨N, rfl, -, -, hb⟩
    exact ⟨⟨_, _, rfl, .inr ⟨⟨_, _, rfl⟩, fun v e => by cases e⟩⟩, hb⟩
  · refine (Tryz.strconv_ParseInt_10_at64_range t (by omega) h ev2 w hv2 hev2).mono ?_
    rintro e w' ⟨N, rfl, -, -, hb⟩
    exact ⟨⟨_, _, rfl, .inr ⟨⟨_, _, rfl⟩, fun v e => by cases e⟩⟩, hb⟩

theorem i_ReadDecimal (t : ByteArray) (hs : t.size ≤ 100000000) (ev ev2 : Value) (hev : ev = .nilIface ∨ ∃ te pe, ev = .iface te pe) (hev2 : ev2 = .nilIface ∨ ∃ te pe, ev2 = .iface te pe) (w : World)
    (hv : w.cell? ⟨2, 0, none⟩ = some ev) (hv2 : w.cell? ⟨3, 0, none⟩ = some ev2) (htab : Lib.TabIs Tryz.prog w "internal/strconv.uint64pow10" .u64 Lib.pow10Tab) :
    Calls Tryz.prog 12 #[.string t] w fun e w' => e = .returned (.tuple #[.int .i64 ((rdD t.data.toList).getD 0), .bool (rdD t.data.toList).isSome]) ∧ Below w.heap.size w w' := by
  have HP := Lib.hid (f_ParseInt t hs ev ev2 hev hev2 w hv hv2)
  have HT := Lib.hid htab
  have HQ := Lib.hid (rdD.eq_1 t.data.toList)
  have HTX := Lib.hid (data_tx t)
  generalize rdD t.data.toList = Q at HQ ⊢
  generalize t.data.toList = l at HQ HP HTX
  clear hev hev2 hv hv2 htab
  go_enter Tryz.func12, Tryz.ntmps12
  go_wp2_with fail
  refine HP.out.mono ?_; rintro e w1 ⟨⟨x, er, rfl, h⟩, hb1⟩
  rcases h with ⟨rfl, h⟩ | ⟨⟨T, p, rfl⟩, h⟩
  · have hr := Lib.parseIntB_bounds h
    have hr0 : -9223372036854775808 ≤ x := hr.1
    have hr1 : x ≤ 9223372036854775807 := by have := hr.2; have e : ((2 ^ (64 - 1) : Nat) : Int) = 9223372036854775808 := by decide
                                             omega
    have HQ2 := Lib.hid (show Q = if isVal x ∧ Lib.itoa x = l then some x else none by rw [HQ.out, h])
    have HI := Lib.hid (i_isValue x)
    have HD := Lib.hid (fun w h => i_Decimal x hr0 hr1 w h)
    have HT1 := Lib.hid (Go.Joins.tab_stays (g := 6) (by kernel_rfl) HT.out hb1 (Nat.le_refl _))
    clear hr h HQ HP
    by_cases hv : isVal x
    · have e1 : decide (isVal x) = true := decide_eq_true hv
      rw [e1] at HI
      by_cases hx : Lib.itoa x = l
      · have HF := Lib.hid (show Q = some x by rw [HQ2.out, if_pos ⟨hv, hx⟩])
        have ht : tx (Lib.itoa x) = t := by rw [hx]; exact HTX.out
        rw [ht] at HD
        clear hv hx ht e1 HQ2 hr0 hr1
        go_wp2_with fail
        refine (HI.out _).mono ?_; rintro e w2 ⟨rfl, hd⟩
        have hbd := hd.below w1.heap.size
        have hb2 := hb1.trans (hbd.mono hb1.size)
        have HT2 := Lib.hid (Go.Joins.tab_stays (g := 6) (by kernel_rfl) HT1.out hbd (Nat.le_refl _))
        clear hd hbd
        go_wp2_with fail
        refine (HD.out _ HT2.out).mono ?_; rintro e w3 ⟨rfl, hb3⟩
        have hb4 := hb2.trans (hb3.mono hb2.size)
        go_wp2_with fail
        go_ret2
        exact ⟨by rw [HF.out]; rfl, hb4⟩
      · have HF := Lib.hid (show Q = none by rw [HQ2.out, if_neg (fun hh => hx hh.2)])
        have ht : tx (Lib.itoa x) ≠ t := fun e => hx (by have h2 : tx (Lib.itoa x) = tx l := e.trans HTX.out.symm; exact tx_inj h2)
        have e2 := str_ne2 ht
        generalize tx (Lib.itoa x) = S at *
        clear hv hx ht e1 HQ2 hr0 hr1
        go_wp2_with fail
        refine (HI.out _).mono ?_; rintro e w2 ⟨rfl, hd⟩
        have hbd := hd.below w1.heap.size
        have hb2 := hb1.trans (hbd.mono hb1.size)
        have HT2 := Lib.hid (Go.Joins.tab_stays (g := 6) (by kernel_rfl) HT1.out hbd (Nat.le_refl _))
        clear hd hbd
        go_wp2_with fail
        refine (HD.out _ HT2.out).mono ?_; rintro e w3 ⟨rfl, hb3⟩
        have hb4 := hb2.trans (hb3.mono hb2.size)
        go_wp2_with fail
        go_ret2
        exact ⟨by rw [HF.out]; rfl, hb4⟩
    · have HF := Lib.hid (show Q = none by rw [HQ2.out, if_neg (fun hh => hv hh.1)])
      have e1 : decide (isVal x) = false := decide_eq_false hv
      rw [e1] at HI
      clear hv e1 HQ2 hr0 hr1
      go_wp2_with fail
      refine (HI.out _).mono ?_; rintro e w2 ⟨rfl, hd⟩
      have hb2 := hb1.trans ((hd.below w1.heap.size).mono hb1.size)
      clear hd
      go_wp2_with fail
      go_ret2
      exact ⟨by rw [HF.out]; rfl, hb2⟩
  · have HF := Lib.hid (show Q = none by rw [HQ.out]; rcases hp : Lib.parseIntB 64 l with v | _ | _ <;> first | rfl | exact absurd hp (h v))
    clear h HQ HP
    go_wp2_with fail
    go_ret2
    exact ⟨by rw [HF.out]; rfl, hb1⟩

end Go.Proofs.YtebahccjaieajaaGreatDoor
