/- THE LAW FnWalks: walks that go up alone take as many steps as their bar, others more, nearly, and end with chances that do not fall; for every input. No condition. -/
import Derived.Test.YtaplnfdlcihhpaaLawKit
import Derived.Test.YtaplnfdlcihhpaaK43
namespace Go.Proofs.Ytaplnfdlcihhpaa
set_option maxRecDepth 100000
set_option maxHeartbeats 4000000
open Go.ChangeShapes Go.WideShapes Go.ChangeAt Go.RowKit
set_option linter.unusedVariables false
set_option linter.unusedSimpArgs false
attribute [local go_sem] run_store_float run_store_complex alloc_drewN setCell_drewN


theorem wk_chance' {A k : Nat} {u d : Nat} (hw : walkOk u d ((A : Int) + 1) = true) (hk : k < 12) (hf : fin (rcAt false u d (A + 1) k).2 = true) (z : Bool) : rcQ z u d ((A : Int) + 1) (k : Int) = ((rcAt false u d (A + 1) k).2, true) := by
  have e : (A : Int) + 1 = ((A + 1 : Nat) : Int) := by omega
  rw [e] at hw ⊢
  exact wk_chance hw hk hf z
set_option maxRecDepth 100000 in
set_option maxHeartbeats 4000000 in
theorem FnWalks_walk (w : World) (u : Value) (cs : List Int) (hu : GL (Value.int .u8) w u cs) (hwu : allU8 cs) (v : Value) (ds : List Int) (hv : GL (Value.int .u8) w v ds) (hwv : allU8 ds) :
    Calls Try.prog 3 #[u, v] w fun z w' => z = .returned (.bool true) ∧ Below w.heap.size w w' := by
  have HU := Lib.hid hu
  have HV := Lib.hid hv
  have HW := Lib.hid hwv
  clear hu hv hwu hwv
  cases hbig : (decide (1048576 < cs.length) || decide (1048576 < ds.length))
  case true =>
    have HBIG := Lib.hid hbig
    clear hbig
    go_enter Try.func3, Try.ntmps3
    go_wp2_with (go_at_call 11; refine (l_b10Long _ _ cs ds _ HU.out HV.out).mono ?_; rintro z w1 ⟨rfl, n1, rfl⟩; rw [HBIG.out])
    go_ret
    exact ⟨rfl, by (repeat (first | with_reducible exact Below.refl _ _ | with_reducible assumption | with_reducible refine below_drewN ?_ _ | with_reducible refine Below.drew ?_ | with_reducible refine Below.alloc ?_ (by first | omega | (simp; omega) | (simp; done) | (simp at *; omega)) _ | with_reducible refine Below.setCell ?_ (by first | omega | (simp; omega) | (simp; done) | (simp at *; omega)) _ | refine Below.trans ?_ (Below.mono (by with_reducible assumption) (by first | omega | (simp; omega) | (simp; done) | (simp at *; omega)))))⟩
  case false =>
    have HBIG := Lib.hid hbig
    clear hbig
    have hA8 := b8_lt ds 0
    have hB8 := b8_lt ds 1
    have hC8 := b8_lt ds 2
    obtain ⟨A, hA⟩ : ∃ A, b8 ds 0 = A := ⟨_, rfl⟩
    obtain ⟨B, hB⟩ : ∃ B, b8 ds 1 = B := ⟨_, rfl⟩
    obtain ⟨C, hC⟩ : ∃ C, b8 ds 2 = C := ⟨_, rfl⟩
    have HA := Lib.hid hA
    have HB := Lib.hid hB
    have HC := Lib.hid hC
    rw [hA] at hA8
    rw [hB] at hB8
    rw [hC] at hC8
    clear hA hB hC
    have HF := Lib.hid (wkf hA8 hB8 hC8)
    have W1 : IntKind.i64.wrap (1 + (A : Int)) = (A : Int) + 1 := by rw [IntKind.wrap_i64]; omega
    have W2 : IntKind.i64.wrap (1 + (B : Int)) = (B : Int) + 1 := by rw [IntKind.wrap_i64]; omega
    have W3 : IntKind.i64.wrap ((A : Int) + 1 + 1) = (A : Int) + 2 := by rw [IntKind.wrap_i64]; omega
    go_enter Try.func3, Try.ntmps3
    go_wp2_with (first
      | (go_at_call 11; refine (l_b10Long _ _ cs ds _ HU.out HV.out).mono ?_; rintro z w1 ⟨rfl, n1, rfl⟩; rw [HBIG.out])
      | (go_at_call_of 12 (Value.int .i64 0); refine (l_b10At _ ds 0 (by omega) _ (HV.out.drewN _) HW.out).mono ?_; rintro z w2 ⟨rfl, n2, rfl⟩; rw [HA.out])
      | (go_at_call_of 12 (Value.int .i64 1); refine (l_b10At _ ds 1 (by omega) _ (HV.out.drewN _) HW.out).mono ?_; rintro z w3 ⟨rfl, n3, rfl⟩; rw [HB.out])
      | (go_at_call_of 12 (Value.int .i64 2); refine (l_b10At _ ds 2 (by omega) _ (HV.out.drewN _) HW.out).mono ?_; rintro z w4 ⟨rfl, n4, rfl⟩; rw [HC.out])
      | (refine wpList_ar .f32 _ _ rfl rfl rfl ?_; intro ru m1 hru hlu; (have hru2 : cn .f32 ru = wkU B := by rw [hru]; with_reducible exact wkU_eq B); have HRU := Lib.hid hru2; clear hru hru2)
      | (refine wpList_ar .f32 _ _ rfl rfl rfl ?_; intro rd m2 hrd hld; (have hrd2 : cn .f32 rd = wkD C := by rw [hrd]; with_reducible exact wkD_eq C); have HRD := Lib.hid hrd2; clear hrd hrd2)
      | (go_at_call_of 13 (Value.float .f32 1065353216); refine (i_RunLong 1065353216 0 ((A : Int) + 1) _).mono ?_; rintro z w5 ⟨⟨rs, bs, rfl, hs1, hs2, hs3⟩, hb5⟩; rw [cn_one, cn0] at hs2 hs3; rw [HF.out.s] at hs3; subst hs3; have HRS := Lib.hid hs2; clear hs2; have hbw : Below w.heap.size w w5 := (by (repeat (first | with_reducible exact Below.refl _ _ | with_reducible assumption | with_reducible refine below_drewN ?_ _ | with_reducible refine Below.drew ?_ | with_reducible refine Below.alloc ?_ (by first | omega | (simp; omega) | (simp; done) | (simp at *; omega)) _ | with_reducible refine Below.setCell ?_ (by first | omega | (simp; omega) | (simp; done) | (simp at *; omega)) _ | refine Below.trans ?_ (Below.mono (by with_reducible assumption) (by first | omega | (simp; omega) | (simp; done) | (simp at *; omega)))))); have hzw := hbw.size; clear hb5)
      | (go_at_call_of 13 (Value.float .f32 ru); refine (i_RunLong ru rd _ _).mono ?_; rintro z w6 ⟨⟨rl, bl, rfl, hl1, hl2, hl3⟩, hb6⟩; rw [HRU.out, HRD.out] at hl2 hl3; rw [HF.out.l] at hl3; subst hl3; have HRL := Lib.hid hl2; clear hl2; replace hbw := Below.trans hbw (Below.mono hb6 hzw); replace hzw := hbw.size; clear hb6)
      | (go_at_call_of 13 (Value.float .f32 ru); refine (i_RunLong ru rd _ _).mono ?_; rintro z w7 ⟨⟨rm, bm, rfl, hm1, hm2, hm3⟩, hb7⟩; rw [HRU.out, HRD.out] at hm2 hm3; rw [HF.out.m] at hm3; subst hm3; have HRM := Lib.hid hm2; clear hm2; replace hbw := Below.trans hbw (Below.mono hb7 hzw); replace hzw := hbw.size; clear hb7)
      | (go_at_call 14; refine (s_RunLong ru rd _ _).mono ?_; rintro z w8 ⟨⟨rk, bk, rfl, hk1, hk2, hk3⟩, n8, rfl⟩; rw [HRU.out, HRD.out] at hk2 hk3; rw [HF.out.l] at hk3; subst hk3; have HRK := Lib.hid hk2; clear hk2)
      | (refine wpList_wd_g rfl (by kernel_rfl) (by kernel_rfl) _ rfl ?_; intro rw_ m3 hrw hlw; rw [HRS.out] at hrw; have HRW := Lib.hid hrw; clear hrw)
      | (go_at_call 15; refine (l_b10Gap _ _ _).mono ?_; rintro z w9 ⟨⟨rg, rfl, hg⟩, n9, rfl⟩; rw [HRW.out] at hg; have HRG := Lib.hid hg; clear hg)
      | (go_at_call 16; refine (s_SameNumber _ _ hl1 hk1 _).mono ?_; rintro z w10 ⟨rfl, n10, rfl⟩; rw [HRL.out, HRK.out, show ∀ x, same x x = true from fun x => by simp [same]])
      | (refine wpList_fc_g rfl .f64 _ _ rfl rfl rfl ?_; rw [HRG.out, HF.out.gap])
      | (refine wpList_fc_g rfl .f32 _ _ rfl rfl rfl ?_; rw [HRL.out, HRS.out, HF.out.ls])
      | (refine wpList_fc_g rfl .f32 _ _ rfl rfl rfl ?_; rw [HRM.out, HRL.out, HF.out.ml]))
    go_loopw [16, 17] (fun b i wr => ∃ k : Nat, k ≤ 12 ∧ i = .int .i64 k ∧ (∃ r, b = .float .f32 r ∧ r < 4294967296 ∧ Hid (cn .f32 r = if k = 0 then 0 else (rcAt false (wkU B) (wkD C) (A + 1) (k - 1)).2)) ∧ Below w.heap.size w wr) (fun _ i _ => 12 - (intOf i).toNat)
    case atStart => exact ⟨0, Nat.zero_le _, rfl, ⟨_, rfl, by omega, by show _ = _; rw [cn0, if_pos rfl]⟩, by first | exact hbw | exact below_drewN hbw _⟩
    case round =>
      obtain ⟨k, hk, rfl, ⟨r, rfl, hr, HR⟩, hb⟩ := hrel
      by_cases hlt : k < 12
      · have hT := HF.out.run k hlt
        simp only [wkTest, Bool.and_eq_true, Bool.or_eq_true, Bool.not_eq_true', decide_eq_true_eq] at hT
        obtain ⟨⟨⟨t1, t2⟩, t3⟩, t4⟩ := hT
        have Q1 := Lib.hid (wk_chance' HF.out.ok hlt t1 false)
        have Q2 := Lib.hid (wk_chance' HF.out.ok hlt t1 true)
        have T2 := Lib.hid t2
        have T3 := Lib.hid t3
        clear t1 t2 t3
        have hz := hb.size
        by_cases hka : k < A + 1
        · have t5 : fc .neq .f32 (rcAt false (wkU B) (wkD C) (A + 1) k).2 (cn .f32 0) = false := by rcases t4 with h | h; omega; exact h
          have T5 := Lib.hid t5
          clear t4 t5
          have hki : (k : Int) < (A : Int) + 1 := by omega
          go_wp2_with (first
            | (go_at_call 17; refine (i_RunChance ru rd _ _ _).mono ?_; rintro z v1 ⟨⟨rx, bx, rfl, hx1, hx2, hx3⟩, hb1⟩; rw [HRU.out, HRD.out, Q1.out] at hx2 hx3; subst hx3; have HRX := Lib.hid hx2; clear hx2; replace hb := Below.trans hb (Below.mono hb1 hz); replace hz := hb.size; clear hb1)
            | (go_at_call 18; refine (s_RunChance ru rd _ _ _).mono ?_; rintro z v2 ⟨⟨ry, by_, rfl, hy1, hy2, hy3⟩, hb2⟩; rw [HRU.out, HRD.out, Q2.out] at hy2 hy3; subst hy3; have HRY := Lib.hid hy2; clear hy2; replace hb := Below.trans hb (Below.mono hb2 hz); replace hz := hb.size; clear hb2)
            | (go_at_call 16; refine (s_SameNumber _ _ hx1 hy1 _).mono ?_; rintro z v3 ⟨rfl, n3, rfl⟩; rw [HRX.out, HRY.out, show ∀ x, same x x = true from fun x => by simp [same]])
            | (refine wpList_wd_g rfl (by kernel_rfl) (by kernel_rfl) _ rfl ?_; intro rw2 m4 hrw2 hlw2; rw [HRX.out] at hrw2; have HRW2 := Lib.hid hrw2; clear hrw2)
            | (refine wpList_fc_g rfl .f64 _ _ rfl rfl rfl ?_; rw [HRW2.out, T3.out])
            | (refine wpList_fc_g rfl .f32 _ _ rfl rfl rfl ?_; rw [HRX.out, HR.out, T2.out])
            | (refine wpList_fc_g rfl .f32 _ _ rfl rfl rfl ?_; rw [HRX.out, T5.out]))
          refine ⟨⟨k + 1, by omega, by go_num, ⟨_, rfl, hx1, ?_⟩, by first | exact hb | exact below_drewN hb _⟩, by simp [intOf]; omega⟩
          show _ = _
          rw [HRX.out, if_neg (by omega), Nat.add_sub_cancel]
        · clear t4
          have hki : ¬ (k : Int) < (A : Int) + 1 := by omega
          go_wp2_with (first
            | (go_at_call 17; refine (i_RunChance ru rd _ _ _).mono ?_; rintro z v1 ⟨⟨rx, bx, rfl, hx1, hx2, hx3⟩, hb1⟩; rw [HRU.out, HRD.out, Q1.out] at hx2 hx3; subst hx3; have HRX := Lib.hid hx2; clear hx2; replace hb := Below.trans hb (Below.mono hb1 hz); replace hz := hb.size; clear hb1)
            | (go_at_call 18; refine (s_RunChance ru rd _ _ _).mono ?_; rintro z v2 ⟨⟨ry, by_, rfl, hy1, hy2, hy3⟩, hb2⟩; rw [HRU.out, HRD.out, Q2.out] at hy2 hy3; subst hy3; have HRY := Lib.hid hy2; clear hy2; replace hb := Below.trans hb (Below.mono hb2 hz); replace hz := hb.size; clear hb2)
            | (go_at_call 16; refine (s_SameNumber _ _ hx1 hy1 _).mono ?_; rintro z v3 ⟨rfl, n3, rfl⟩; rw [HRX.out, HRY.out, show ∀ x, same x x = true from fun x => by simp [same]])
            | (refine wpList_wd_g rfl (by kernel_rfl) (by kernel_rfl) _ rfl ?_; intro rw2 m4 hrw2 hlw2; rw [HRX.out] at hrw2; have HRW2 := Lib.hid hrw2; clear hrw2)
            | (refine wpList_fc_g rfl .f64 _ _ rfl rfl rfl ?_; rw [HRW2.out, T3.out])
            | (refine wpList_fc_g rfl .f32 _ _ rfl rfl rfl ?_; rw [HRX.out, HR.out, T2.out]))
          refine ⟨⟨k + 1, by omega, by go_num, ⟨_, rfl, hx1, ?_⟩, by first | exact hb | exact below_drewN hb _⟩, by simp [intOf]; omega⟩
          show _ = _
          rw [HRX.out, if_neg (by omega), Nat.add_sub_cancel]
      · have hz := hb.size
        go_wp2_with (first
          | (go_at_call 17; refine (i_RunChance 1065353216 0 _ _ _).mono ?_; rintro z v1 ⟨⟨rx, bx, rfl, hx1, hx2, hx3⟩, hb1⟩; rw [cn_one, cn0] at hx2 hx3; rw [HF.out.last] at hx3; subst hx3; have HRX := Lib.hid hx2; clear hx2; replace hb := Below.trans hb (Below.mono hb1 hz); replace hz := hb.size; clear hb1)
          | (refine wpList_wd_g rfl (by kernel_rfl) (by kernel_rfl) _ rfl ?_; intro rw2 m4 hrw2 hlw2; rw [HRX.out] at hrw2; have HRW2 := Lib.hid hrw2; clear hrw2)
          | (go_at_call 15; refine (l_b10Gap _ _ _).mono ?_; rintro z v9 ⟨⟨rg2, rfl, hg⟩, n9, rfl⟩; rw [HRW2.out] at hg; have HRG2 := Lib.hid hg; clear hg)
          | (refine wpList_fc_g rfl .f64 _ _ rfl rfl rfl ?_; rw [HRG2.out, HF.out.near]))
        go_ret
        exact ⟨rfl, by first | exact hb | exact below_drewN hb _⟩
set_option maxRecDepth 100000 in
theorem FnWalks_lifted (os : Os) (started : os.Started) (H : Type) (enc : TypeId × Value → H) :
    ReturnsInHanded {} Try.checked os 3 .any (Rows.fnWalksSpec.pre6 enc Try.prog Try.f3 Rows.fnWalksRow.domain false) (Rows.fnWalksSpec.post enc Try.prog Try.f3 false true false false) := by
  refine returnsInHanded_of_change (C := Try.checked) own started (by kernel_rfl) Try.func3
    (ChangeSpec.witness6 (enc := enc) (C := Try.checked) false ⟨#[], #[.slice none 0 0, .slice none 0 0], []⟩ 8 (by kernel_rfl) (by kernel_rfl) (by kernel_rfl) (by kernel_rfl)) ?_
  intro W base args ds gs before hval0 hW hcnd _
  have hval : ∀ (j : Nat) t v, Try.f3.params[j]? = some t → args[j]? = some v → Value.okWide Try.prog W .any base t v := hval0
  have hW' := hW
  obtain ⟨p, q, hA0, hV, rfl, hfz, hnd⟩ := hW
  have hA : DataW.TrodAll enc Try.prog W 0 (fun _ => true) true Try.f3.params.toList args.toList ds p := hA0
  rw [Try.params3] at hA hval
  obtain ⟨v0, vs0, d0, ds0, p0, q0, hargs, rfl, rfl, h0, r0⟩ := trodAll_cons hA
  obtain ⟨v1, vs1, d1, ds1, p1, q1, rfl, rfl, rfl, h1, r1⟩ := trodAll_cons r0
  obtain ⟨rfl, rfl, rfl⟩ := trodAll_nil r1
  obtain rfl : args = #[v0, v1] := by cases args; simp_all
  obtain ⟨rfl, rfl⟩ := trodVars_none hV
  have k0 := h0
  have lt0 : ∀ x ∈ p0, x.block < W.heap.size := by obtain ⟨m, hm⟩ := k0; exact DataW.trod_lt m _ _ _ hm
  have k1 := h1
  have lt1 : ∀ x ∈ p1, x.block < W.heap.size := by obtain ⟨m, hm⟩ := k1; exact DataW.trod_lt m _ _ _ hm
  obtain ⟨b0, ln0, cp0, rfl⟩ := okWide_slice Try.underlying22 (hval 0 22 v0 rfl rfl)
  obtain ⟨c0, hc0⟩ : ∃ cs, GL (Value.int .u8) W (.slice b0 ln0 cp0) cs ∧ allU8 cs := by obtain ⟨fuel, hfu⟩ := h0; exact open_u8s Try.underlying22 Try.underlying5 (by kernel_rfl) hfu
  obtain ⟨b1, ln1, cp1, rfl⟩ := okWide_slice Try.underlying22 (hval 1 22 v1 rfl rfl)
  obtain ⟨c1, hc1⟩ : ∃ cs, GL (Value.int .u8) W (.slice b1 ln1 cp1) cs ∧ allU8 cs := by obtain ⟨fuel, hfu⟩ := h1; exact open_u8s Try.underlying22 Try.underlying5 (by kernel_rfl) hfu
  clear hA0 hval0
  refine (FnWalks_walk (w := W) _ c0 hc0.1 hc0.2 _ c1 hc1.1 hc1.2).mono fun e W' ⟨he, bel⟩ => ?_
  subst he
  exact ⟨_, rfl, _, _, _, [], _, [], hW', trodAll_mk1 (shut_bool Try.underlying4 _), (trodAll_cons_mk (Below.trod laidOut (by kernel_rfl) (of_decide_eq_true (by kernel_rfl)) k0 bel lt0) (trodAll_cons_mk (Below.trod laidOut (by kernel_rfl) (of_decide_eq_true (by kernel_rfl)) k1 bel lt1) trodAll_mk0)), rfl, bel.frame _, fun h => by cases h⟩

theorem fnWalks_holds : Rows.FnWalksSaid :=
  OpenClaim.holds_of_wide 3 Try.f3 rfl rfl rfl rfl rfl rfl rfl ⟨rfl, rfl, rfl, rfl, rfl⟩ rfl rfl rfl rfl rfl (by kernel_rfl) Try.func3 (by kernel_rfl)
    (of_decide_eq_true (by kernel_rfl)) (by unfold Func.isWrapper; first | (rw [if_pos (by decide +kernel)]; kernel_rfl) | (rw [if_neg (by decide +kernel)]; exact ⟨rfl, rfl⟩))
    (fun os started H enc _ => FnWalks_lifted os started H enc)
#print axioms fnWalks_holds

end Go.Proofs.Ytaplnfdlcihhpaa
