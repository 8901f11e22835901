/- THE LAW FnProfiles: for all bytes it returns true: parts that come again are found, motifs are the nearest and discords the farthest ones, and parts do not overlap their other ones. No condition. -/
import Derived.Test.YtnhenklopigfnaaLawKit
import Derived.Test.YtnhenklopigfnaaK81
import Derived.Test.YtnhenklopigfnaaK45
import Derived.Test.YtnhenklopigfnaaPf
import Derived.Deep.RegionHeld3
namespace Go.Proofs.Ytnhenklopigfnaa
set_option linter.unusedSimpArgs false
set_option linter.unusedVariables false
set_option maxRecDepth 100000
set_option maxHeartbeats 4000000
open Go.ChangeShapes Go.WideShapes Go.ChangeAt Go.RowKit
attribute [local go_sem] run_store_float run_store_complex alloc_drewN setCell_drewN


set_option maxRecDepth 100000 in
set_option maxHeartbeats 20000000 in
theorem FnProfiles_walk (w : World) (v0 : Value) (c0 : List Int) (h0 : GL (Value.int .u8) w v0 c0) (g0 : allU8 c0) (v1 : Value) (c1 : List Int) (h1 : GL (Value.int .u8) w v1 c1) (g1 : allU8 c1) :
    Calls Try.prog 9 #[v0, v1] w fun z w' => z = .returned (.bool true) ∧ Below w.heap.size w w' := by
  have H0 := Lib.hid h0
  have H1 := Lib.hid h1
  have G0 := Lib.hid g0
  have G1 := Lib.hid g1
  clear h0 h1 g0 g1
  cases hbig : (decide (1048576 < c0.length) || decide (1048576 < c1.length))
  case true =>
    have HB := Lib.hid hbig
    clear hbig
    go_enter Try.func9, Try.ntmps9
    go_wp2_with fail
    refine (l_b10Long _ _ c0 c1 _ H0.out H1.out).mono ?_
    rintro z w1 ⟨rfl, n1, rfl⟩
    rw [HB.out]
    go_wp2_with fail
    go_ret
    exact ⟨rfl, by (repeat (first | with_reducible exact Below.refl _ _ | with_reducible assumption | with_reducible refine below_drewN ?_ _ | with_reducible refine Below.drew ?_ | with_reducible refine Below.alloc ?_ (by first | omega | (simp; omega) | (simp; done) | (simp at *; omega)) _ | with_reducible refine Below.setCell ?_ (by first | omega | (simp; omega) | (simp; done) | (simp at *; omega)) _ | refine Below.trans ?_ (Below.mono (by with_reducible assumption) (by first | omega | (simp; omega) | (simp; done) | (simp at *; omega)))))⟩
  have HB := Lib.hid hbig
  clear hbig
  go_enter Try.func9, Try.ntmps9
  go_wp2_with fail
  refine (l_b10Long _ _ c0 c1 _ H0.out H1.out).mono ?_
  rintro z w1 ⟨rfl, n1, rfl⟩
  rw [HB.out]
  go_wp2_with fail
  refine (l_b10AtX _ c1 0 14 (by omega) (by omega) (by omega) _ (H1.out.drewN _) G1.out).mono ?_
  rintro z w2 ⟨⟨x, hx, rfl⟩, n2, rfl⟩
  go_wp2_with fail
  refine (l_b10AtX _ c1 1 2 (by omega) (by omega) (by omega) _ (H1.out.drewN _) G1.out).mono ?_
  rintro z w3 ⟨⟨y, hy, rfl⟩, n3, rfl⟩
  go_wp2_with fail
  obtain ⟨N, hN⟩ : ∃ N : Nat, N = 6 + x := ⟨_, rfl⟩
  obtain ⟨lg, hlg⟩ : ∃ lg : Int, lg = 2 + (y : Int) := ⟨_, rfl⟩
  rw [show (6 : Int) + (x : Int) = (N : Int) by omega, ← hlg]
  have hN1 : 6 ≤ N := by omega
  have hN2 : N ≤ 19 := by omega
  have hl1 : 2 ≤ lg := by omega
  have hl2 : lg ≤ 3 := by omega
  clear hN hlg
  have hbw : Below w.heap.size w (w.drewN (n1 + n2 + n3)) := below_drewN (Below.refl _ _) _
  refine (s_B10List _ c0 N (by omega) _ (H0.out.drewN _) G0.out).mono ?_
  rintro z w4 ⟨⟨v, L, rfl, ho, hl, -⟩, hb4⟩
  replace hbw := hbw.trans (hb4.mono (by simp))
  have HV := Lib.hid ho.sb
  have HN := Lib.hid hl
  clear ho hl hb4 H0 H1 G0 G1
  have HLT : ∀ {w : World} {v : Value} {cs : List Nat}, SB w v cs → ∀ i, i < cs.length → cs.getD i 0 < 4294967296 := fun h => h.lt
  cases hok : (pfQ L lg).2.2
  case false =>
    have HK := Lib.hid hok
    have HM := Lib.hid (show mtQ L lg = (0, 0, 0, false) by rw [mtQ, hok]; rfl)
    have HD := Lib.hid (show dsQ L lg = (0, 0, false) by rw [dsQ, hok]; rfl)
    clear hok
    go_wp2_with fail
    refine (s_ProfileOf _ L lg _ HV.out).mono ?_
    rintro z w5 ⟨⟨u5, x5, b5, rfl, -, -, hb⟩, hb5⟩
    rw [HK.out] at hb
    subst hb
    replace HV := Lib.hid (HV.out.keep hb5)
    replace hbw := hbw.trans (hb5.mono hbw.size)
    clear hb5
    go_wp2_with fail
    refine (i_ProfileOf _ L lg _ HV.out).mono ?_
    rintro z w6 ⟨⟨u6, x6, b6, rfl, -, -, hb⟩, hb6⟩
    rw [HK.out] at hb
    subst hb
    replace HV := Lib.hid (HV.out.keep hb6)
    replace hbw := hbw.trans (hb6.mono hbw.size)
    clear hb6
    go_wp2_with fail
    refine (i_MotifOf _ L lg _ HV.out).mono ?_
    rintro z w7 ⟨⟨a7, m7, r7, b7, rfl, -, -, -, -, hb⟩, hb7⟩
    rw [HM.out] at hb
    subst hb
    replace HV := Lib.hid (HV.out.keep hb7)
    replace hbw := hbw.trans (hb7.mono hbw.size)
    clear hb7
    go_wp2_with fail
    refine (i_DiscordOf _ L lg _ HV.out).mono ?_
    rintro z w8 ⟨⟨a8, r8, b8, rfl, -, -, -, hb⟩, hb8⟩
    rw [HD.out] at hb
    subst hb
    replace hbw := hbw.trans (hb8.mono hbw.size)
    clear hb8
    go_wp2_with fail
    go_ret
    exact ⟨rfl, by first | exact hbw | exact below_drewN hbw _⟩
  have HK := Lib.hid hok
  have HM := Lib.hid (show mtQ L lg = mtEnd (pfQ L lg).1 (pfQ L lg).2.1 by rw [mtQ, hok]; rfl)
  have HD := Lib.hid (show dsQ L lg = dsEnd (pfQ L lg).1 by rw [dsQ, hok]; rfl)
  go_wp2_with fail
  refine (s_ProfileOf _ L lg _ HV.out).mono ?_
  rintro z w5 ⟨⟨u5, x5, b5, rfl, ho5, -, hb⟩, hb5⟩
  have F := pf_loop hok (fun i hi => HLT ho5.sb i hi)
  rw [HN.out] at F
  rw [HK.out] at hb
  subst hb
  replace HV := Lib.hid (HV.out.keep hb5)
  replace hbw := hbw.trans (hb5.mono hbw.size)
  clear hb5 ho5 hok
  have HP := Lib.hid (show ∀ q, q = pfQ L lg → q.1 = (pfQ L lg).1 ∧ q.2.1 = (pfQ L lg).2.1 from fun q h => by rw [h]; exact ⟨rfl, rfl⟩)
  go_wp2_with fail
  refine (i_ProfileOf _ L lg _ HV.out).mono ?_
  rintro z w6 ⟨⟨u6, x6, b6, rfl, ho6, hg6, hb⟩, hb6⟩
  rw [HK.out] at hb
  subst hb
  have HU6 := Lib.hid ho6.sb
  have HX6 := Lib.hid hg6.gl
  replace HV := Lib.hid (HV.out.keep hb6)
  replace hbw := hbw.trans (hb6.mono hbw.size)
  clear hb6 ho6 hg6
  go_wp2_with fail
  refine (i_MotifOf _ L lg _ HV.out).mono ?_
  rintro z w7 ⟨⟨a7, m7, r7, b7, rfl, hr7, ha7, hm7, hc7, hb⟩, hb7⟩
  rw [HM.out] at ha7 hm7 hc7 hb
  change b7 = true at hb
  subst hb
  replace HV := Lib.hid (HV.out.keep hb7)
  replace HU6 := Lib.hid (HU6.out.keep hb7)
  replace HX6 := Lib.hid (HX6.out.keep hb7)
  replace hbw := hbw.trans (hb7.mono hbw.size)
  clear hb7
  change a7 = ((bigAt .lss (pfQ L lg).1 (pfQ L lg).1.length : Nat) : Int) at ha7
  change m7 = (pfQ L lg).2.1.getD (bigAt .lss (pfQ L lg).1 (pfQ L lg).1.length) 0 at hm7
  change cn .f32 r7 = (pfQ L lg).1.getD (bigAt .lss (pfQ L lg).1 (pfQ L lg).1.length) 0 at hc7
  have HA7 := Lib.hid ha7
  have HM7 := Lib.hid hm7
  have HC7 := Lib.hid hc7
  clear ha7 hm7 hc7
  go_wp2_with fail
  refine (i_DiscordOf _ L lg _ HV.out).mono ?_
  rintro z w8 ⟨⟨a8, r8, b8, rfl, hr8, ha8, hc8, hb⟩, hb8⟩
  rw [HD.out] at ha8 hc8 hb
  change b8 = true at hb
  subst hb
  replace HV := Lib.hid (HV.out.keep hb8)
  replace HU6 := Lib.hid (HU6.out.keep hb8)
  replace HX6 := Lib.hid (HX6.out.keep hb8)
  replace hbw := hbw.trans (hb8.mono hbw.size)
  clear hb8
  change a8 = ((bigAt .gtr (pfQ L lg).1 (pfQ L lg).1.length : Nat) : Int) at ha8
  change cn .f32 r8 = (pfQ L lg).1.getD (bigAt .gtr (pfQ L lg).1 (pfQ L lg).1.length) 0 at hc8
  have HA8 := Lib.hid ha8
  have HC8 := Lib.hid hc8
  clear ha8 hc8
  go_wp2_with fail
  refine (s_ProfileOf _ L lg _ HV.out).mono ?_
  rintro z w9 ⟨⟨u9, x9, b9, rfl, ho9, hg9, hb⟩, hb9⟩
  have HU9 := Lib.hid ho9.sb
  have HX9 := Lib.hid hg9.gl
  replace HU6 := Lib.hid (HU6.out.keep hb9)
  replace HX6 := Lib.hid (HX6.out.keep hb9)
  replace hbw := hbw.trans (hb9.mono hbw.size)
  clear hb9 ho9 hg9 hb HV HP HM HD HK
  generalize (pfQ L lg).1 = A at *
  generalize (pfQ L lg).2.1 = B at *
  generalize bigAt .lss A A.length = mi at *
  generalize bigAt .gtr A A.length = ma at *
  clear HLT HN
  obtain ⟨rfl⟩ : a7 = (mi : Int) := HA7.out
  obtain ⟨rfl⟩ : a8 = (ma : Int) := HA8.out
  obtain ⟨ao6, cp6, rfl, hk6, hm6, hget6⟩ := HU6.out.getX rfl
  obtain ⟨ax6, cx6, rfl, hkx, hmx⟩ := HX6.out.slice
  have HG6 := Lib.hid hget6
  clear hget6
  have hgx : ∀ i, i < A.length → ∃ b off, ax6 = some ⟨b, off, none⟩ ∧ w9.cell? ⟨b, off + i, none⟩ = some (.int .i64 (B.getD i 0)) := by
    obtain ⟨bo, d, hv, hc, hget⟩ := HX6.out
    simp only [Value.slice.injEq] at hv
    obtain ⟨rfl, -, -⟩ := hv
    intro i hi
    obtain ⟨b, off, e1, e2, e3⟩ := hget i (by rw [F.lenB]; exact hi)
    exact ⟨b, off, e1, by rw [e3]; simp [F.lenB, hi]⟩
  rw [F.lenB] at hkx ⊢
  have hmi := F.hmi
  have hma := F.hma
  have hlA := F.lenA
  obtain ⟨b6, o6, rm, rfl, hbl6, fm, hrm, hcm⟩ := HG6.out mi hmi
  obtain ⟨b6', o6', ra, e6, -, fa, hra, hca⟩ := HG6.out ma hma
  injection e6 with e6
  injection e6 with e6 e7
  subst e6 e7
  obtain ⟨bx, ox, rfl, fx⟩ := hgx mi hmi
  have HGX := Lib.hid hgx
  obtain rfl : m7 = B.getD mi 0 := HM7.out
  obtain ⟨bm, hbm⟩ : ∃ bm, bm = B.getD mi 0 := ⟨_, rfl⟩
  rw [← hbm] at fx ⊢
  have hsm : same (cn .f32 rm) (cn .f32 r7) = true := by rw [hcm, HC7.out]; simp [same]
  have hsa : same (cn .f32 ra) (cn .f32 r8) = true := by rw [hca, HC8.out]; simp [same]
  have HSM := Lib.hid (fun w => by have h := s_SameNumber rm r7 hrm hr7 w; rw [hsm] at h; exact h)
  have HSA := Lib.hid (fun w => by have h := s_SameNumber ra r8 hra hr8 w; rw [hsa] at h; exact h)
  have HF := Lib.hid F
  have t1 : ((A.length : Int) != (N : Int) - lg + 1) = false := by simp [hlA]
  have t2 : ¬ ((N : Int) - lg < (mi : Int)) := by omega
  have t3 : ¬ ((N : Int) - lg < (ma : Int)) := by omega
  have t4 : (mi : Int) < (A.length : Int) := by omega
  have t5 : (ma : Int) < (A.length : Int) := by omega
  have t6 : ((mi : Int)).toNat = mi := by omega
  have t7 : ((ma : Int)).toNat = ma := by omega
  have t8 : A.length ≤ 20 := by omega
  clear hlA hsm hsa hcm hca hgx F HM7 HA7 HA8 hbm hmi hma
  go_wp2_with fail
  refine (l_b10List _ _ A _ HU6.out HU9.out).mono ?_
  rintro z w10 ⟨rfl, n10, rfl⟩
  go_wp2_with fail
  refine (l_b10Ints _ _ B _ (by rw [← HF.out.lenB]; exact HX6.out.drewN _) (HX9.out.drewN _)).mono ?_
  rintro z w11 ⟨rfl, n11, rfl⟩
  go_wp2_with fail
  refine (HSM.out _).mono ?_
  rintro z w12 ⟨rfl, n12, rfl⟩
  go_wp2_with fail
  refine (HSA.out _).mono ?_
  rintro z w13 ⟨rfl, n13, rfl⟩
  go_wp2_with fail
  clear t1 t2 t3 t4 t5 t6 t7 fm fa fx HSM HSA
  go_loopw [158] (fun i wr => ∃ k : Nat, k ≤ A.length ∧ i = .int .i64 k ∧ ∃ d, wr = w9.drewN d) (fun i _ => A.length - (intOf i).toNat)
  case atStart => exact ⟨0, Nat.zero_le _, rfl, _, rfl⟩
  case round =>
    obtain ⟨k, hk, rfl, dd, rfl⟩ := hrel
    by_cases hlt : k < A.length
    · obtain ⟨b6', o6', rk, e6, -, fk, hrk, hck⟩ := HG6.out k hlt
      injection e6 with e6
      injection e6 with e6 e7
      subst e6 e7
      obtain ⟨bx', ox', e6, fo⟩ := HGX.out k hlt
      injection e6 with e6
      injection e6 with e6 e7
      subst e6 e7
      obtain ⟨a1, a2, a3⟩ := HF.out.apart k hlt
      have e1 : FloatKind.f32.format.order rk r7 = some .gt ∨ (FloatKind.f32.format.order rk r7 = some .eq ∧ mi ≤ k) := by rw [← order_cn, hck, HC7.out]; exact HF.out.low k hlt
      have e2 : FloatKind.f32.format.order rk r8 = some .lt ∨ (FloatKind.f32.format.order rk r8 = some .eq ∧ ma ≤ k) := by rw [← order_cn, hck, HC8.out]; exact HF.out.high k hlt
      generalize B.getD k 0 = o at *
      have z0 : (0 : Int) ≤ (k : Int) := by omega
      have z1 : (k : Int) < (A.length : Int) := by omega
      have z2 : ((k : Int)).toNat = k := by omega
      clear hck
      rcases a3 with a3 | a3
      · have y1 : ¬ ((k : Int) - o < 0) := by omega
        have y2 : ¬ ((k : Int) - o < lg) := by omega
        rcases e1 with e1 | ⟨e1, f1⟩ <;> rcases e2 with e2 | ⟨e2, f2⟩
        all_goals
          (try (have y3 : ¬ ((k : Int) < (mi : Int)) := by omega))
          (try (have y4 : ¬ ((k : Int) < (ma : Int)) := by omega))
          go_wp2_with fail
          exact ⟨⟨k + 1, by omega, by go_num, _, rfl⟩, by simp [intOf]; omega⟩
      · have y1 : (k : Int) - o < 0 := by omega
        have y2 : ¬ (-((k : Int) - o) < lg) := by omega
        have y5 : ¬ (o - (k : Int) < lg) := by omega
        rcases e1 with e1 | ⟨e1, f1⟩ <;> rcases e2 with e2 | ⟨e2, f2⟩
        all_goals
          (try (have y3 : ¬ ((k : Int) < (mi : Int)) := by omega))
          (try (have y4 : ¬ ((k : Int) < (ma : Int)) := by omega))
          go_wp2_with fail
          exact ⟨⟨k + 1, by omega, by go_num, _, rfl⟩, by simp [intOf]; omega⟩
    · go_wp2_with fail
      go_ret
      exact ⟨rfl, below_drewN hbw _⟩
set_option maxRecDepth 100000 in
theorem FnProfiles_lifted (os : Os) (started : os.Started) (H : Type) (enc : TypeId × Value → H) :
    ReturnsInHanded {} Try.checked os 9 .any (Rows.fnProfilesSpec.pre6 enc Try.prog Try.f9 Rows.fnProfilesRow.domain false) (Rows.fnProfilesSpec.post enc Try.prog Try.f9 false true false false) := by
  refine returnsInHanded_of_change (C := Try.checked) own started (by kernel_rfl) Try.func9
    (ChangeSpec.witness6 (enc := enc) (C := Try.checked) false ⟨#[], #[.slice none 0 0, .slice none 0 0], []⟩ 8 (by kernel_rfl) (by kernel_rfl) (by kernel_rfl) (by kernel_rfl)) ?_
  intro W base args ds gs before hval0 hW hcnd _
  have hval : ∀ (j : Nat) t v, Try.f9.params[j]? = some t → args[j]? = some v → Value.okWide Try.prog W .any base t v := hval0
  have hW' := hW
  obtain ⟨p, q, hA0, hV, rfl, hfz, hnd⟩ := hW
  have hA : DataW.TrodAll enc Try.prog W 0 (fun _ => true) true Try.f9.params.toList args.toList ds p := hA0
  rw [Try.params9] at hA hval
  obtain ⟨v0, vs0, d0, ds0, p0, q0, hargs, rfl, rfl, h0, r0⟩ := trodAll_cons hA
  obtain ⟨v1, vs1, d1, ds1, p1, q1, rfl, rfl, rfl, h1, r1⟩ := trodAll_cons r0
  obtain ⟨rfl, rfl, rfl⟩ := trodAll_nil r1
  obtain rfl : args = #[v0, v1] := by cases args; simp_all
  obtain ⟨rfl, rfl⟩ := trodVars_none hV
  have k0 := h0
  have lt0 : ∀ x ∈ p0, x.block < W.heap.size := by obtain ⟨m, hm⟩ := k0; exact DataW.trod_lt m _ _ _ hm
  have k1 := h1
  have lt1 : ∀ x ∈ p1, x.block < W.heap.size := by obtain ⟨m, hm⟩ := k1; exact DataW.trod_lt m _ _ _ hm
  obtain ⟨b0, ln0, cp0, rfl⟩ := okWide_slice Try.underlying22 (hval 0 22 v0 rfl rfl)
  obtain ⟨c0, hc0⟩ : ∃ cs, GL (Value.int .u8) W (.slice b0 ln0 cp0) cs ∧ allU8 cs := by obtain ⟨fuel, hfu⟩ := h0; exact open_u8s Try.underlying22 Try.underlying5 (by kernel_rfl) hfu
  obtain ⟨b1, ln1, cp1, rfl⟩ := okWide_slice Try.underlying22 (hval 1 22 v1 rfl rfl)
  obtain ⟨c1, hc1⟩ : ∃ cs, GL (Value.int .u8) W (.slice b1 ln1 cp1) cs ∧ allU8 cs := by obtain ⟨fuel, hfu⟩ := h1; exact open_u8s Try.underlying22 Try.underlying5 (by kernel_rfl) hfu
  clear hA0 hval0
  refine (FnProfiles_walk (w := W) _ c0 hc0.1 hc0.2 _ c1 hc1.1 hc1.2).mono fun e W' ⟨he, bel⟩ => ?_
  subst he
  exact ⟨_, rfl, _, _, _, [], _, [], hW', trodAll_mk1 (shut_bool Try.underlying4 _), (trodAll_cons_mk (Below.trod laidOut (by kernel_rfl) (of_decide_eq_true (by kernel_rfl)) k0 bel lt0) (trodAll_cons_mk (Below.trod laidOut (by kernel_rfl) (of_decide_eq_true (by kernel_rfl)) k1 bel lt1) trodAll_mk0)), rfl, bel.frame _, fun h => by cases h⟩

theorem fnProfiles_holds : Rows.FnProfilesSaid :=
  OpenClaim.holds_of_wide 9 Try.f9 rfl rfl rfl rfl rfl rfl rfl ⟨rfl, rfl, rfl, rfl, rfl⟩ rfl rfl rfl rfl rfl (by kernel_rfl) Try.func9 (by kernel_rfl)
    (of_decide_eq_true (by kernel_rfl)) (by unfold Func.isWrapper; first | (rw [if_pos (by decide +kernel)]; kernel_rfl) | (rw [if_neg (by decide +kernel)]; exact ⟨rfl, rfl⟩))
    (fun os started H enc _ => FnProfiles_lifted os started H enc)
#print axioms fnProfiles_holds

end Go.Proofs.Ytnhenklopigfnaa
