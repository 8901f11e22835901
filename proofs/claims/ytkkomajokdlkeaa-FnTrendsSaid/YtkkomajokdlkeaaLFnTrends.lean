/- THE LAW FnTrends: trends that are not seen go straight on, what is expected is told ahead, and lines are followed, nearly. No condition. -/
import Derived.Test.YtkkomajokdlkeaaLawKit
import Derived.Test.YtkkomajokdlkeaaK61
import Derived.Test.YtkkomajokdlkeaaK28
import Derived.Test.YtkkomajokdlkeaaK81
import Derived.Test.YtkkomajokdlkeaaK40
import Derived.Test.YtkkomajokdlkeaaK7
import Derived.Test.YtkkomajokdlkeaaTq
import Derived.Test.YtkkomajokdlkeaaTv
import Derived.Deep.QuietTactic
import Derived.Test.YtkkomajokdlkeaaGen
namespace Go.Proofs.Ytkkomajokdlkeaa
set_option linter.unusedSimpArgs false
set_option linter.unusedVariables false
set_option maxRecDepth 100000
set_option maxHeartbeats 4000000
set_option linter.unusedSimpArgs false
set_option linter.unusedVariables false
open Go.ChangeShapes Go.WideShapes Go.ChangeAt Go.RowKit
attribute [local go_sem] run_store_float run_store_complex alloc_drewN setCell_drewN

theorem below_two {w w' : World} {o o' : Obj} (hd : Dr ((w.alloc o).alloc o') w') : Below w.heap.size w w' := by
  have h1 : Below w.heap.size w ((w.alloc o).alloc o') := ((Below.refl _ _).alloc (Nat.le_refl _) _).alloc (by rw [World.size_alloc]; omega) _
  exact h1.trans ((hd.below _).mono h1.size)
theorem go_two {w w' : World} {T T' : Nat} (hd : Dr ((w.alloc (.cells #[] T)).alloc (.cells #[] T')) w') : GO (Value.float .f32) T w.heap.size w' (.slice (some ⟨w.heap.size, 0, none⟩) 0 0) [] ∧ GO Value.bool T' w.heap.size w' (.slice (some ⟨w.heap.size + 1, 0, none⟩) 0 0) [] :=
  ⟨GO.keep (GO.alloc (GO.empty T w rfl (Nat.le_refl _)) _) (hd.below _), GO.keep (GO.empty T' (w.alloc (.cells #[] T)) (by rw [World.size_alloc]) (by rw [World.size_alloc]; omega)) (hd.below _)⟩
theorem own_not {v : Value} {B p : Nat} (h : ∀ k, v.ownBlock = some k → B ≤ k) (hp : p < B) : v.ownBlock = none ∨ v.ownBlock ≠ some p := by
  cases hv : v.ownBlock with
  | none => exact .inl rfl
  | some g => exact .inr (fun e => by have := h g hv; injection e with e; omega)
theorem line_ow {T B x y : Nat} {w : World} {v : Value} (hx : x < 9) (hy : y < 9) (h : GO (Value.float .f32) T B w v (lineL x y 60)) : OW T B w v (lineL x y 60) := by
  have e : (lineL x y 60).map (cn .f32) = lineL x y 60 := by
    have : (lineL x y 60).map (cn .f32) = (lineL x y 60).map id := List.map_congr_left fun c hc => by
      obtain ⟨i, hi, rfl⟩ := List.mem_map.1 hc
      exact (lineW_qv hx hy (List.mem_range.1 hi)).cnT
    rw [this, List.map_id]
  exact ⟨lineL x y 60, h, e, fun c hc => by
    obtain ⟨i, hi, rfl⟩ := List.mem_map.1 hc
    exact addF_lt _ _⟩
theorem GO.ne_goT {α β : Type} {inj : α → Value} {inj' : β → Value} {T T' b b' : Nat} {w : World} {u v : Value} {cs : List β} {xs : List α} (h : GO inj' T b w u cs) (h' : GO inj T' b' w v xs) (hne : T ≠ T') : u.ownBlock = none ∨ u.ownBlock ≠ v.ownBlock := by
  rcases h.2 with ⟨rfl, -⟩ | ⟨g, cap, cur, rfl, -, hg, -⟩
  · exact .inl rfl
  · rcases h'.2 with ⟨rfl, -⟩ | ⟨g2, cap2, cur2, rfl, -, hg2, -⟩
    · exact .inr (by simp [Value.ownBlock])
    · refine .inr fun e => ?_
      have e2 : g = g2 := by simpa [Value.ownBlock] using e
      subst e2
      rw [hg] at hg2
      simp only [Option.some.injEq, Obj.cells.injEq] at hg2
      exact hne hg2.2.1

theorem oneF32T : OneC Try.prog 26 33 (.float .f32 0) 4 := oneC_of Try.underlying26 (by kernel_rfl) rfl (by decide)
theorem oneBoolT : OneC Try.prog 50 4 (.bool false) 1 := oneC_of Try.underlying50 (by kernel_rfl) rfl (by decide)
set_option maxRecDepth 100000 in
set_option maxHeartbeats 20000000 in
theorem FnTrends_walk {w : World} (u : Value) (cs : List Int) (hu : GL (Value.int .u8) w u cs) (hcs : allU8 cs) (v : Value) (ds : List Int) (hv : GL (Value.int .u8) w v ds) (hds : allU8 ds) :
    Calls Try.prog 4 #[u, v] w fun z w' => z = .returned (.bool true) ∧ Below w.heap.size w w' := by
  have HU := Lib.hid hu
  have HV := Lib.hid hv
  have HCS := Lib.hid hcs
  have HDS := Lib.hid hds
  clear hu hv hcs hds
  go_enter Try.func4, Try.ntmps4
  go_wp2_with fail
  refine (l_b10Long u v cs ds _ HU.out HV.out).mono ?_; rintro z w1 ⟨rfl, hd⟩
  have HB1 := Lib.hid (hd.below w.heap.size)
  clear hd
  cases hbig : (decide (1048576 < cs.length) || decide (1048576 < ds.length)) with
  | true =>
    go_wp2_with fail
    go_ret
    exact ⟨rfl, HB1.out⟩
  | false =>
    clear hbig
    go_wp2_with fail
    refine (s_B10Trend u cs _ (HU.out.keep HB1.out) HCS.out).mono ?_; rintro z w2 ⟨⟨tl, tv, ta, tb, tc, tn, td, tt, j, L, V, A, B, C, D, E, rfl, ⟨r0, r1, r2, r3, r4, r5, r6, r7⟩, hd⟩, hb⟩
    have HB2 := Lib.hid (HB1.out.trans (hb.mono HB1.out.size))
    have HD := Lib.hid hd
    have HTW := Lib.hid (trendOk_DT hd)
    obtain ⟨w3, hw3⟩ : ∃ w3, w3 = w2.alloc (.cells (List.toArray [.float .f32 tl, .float .f32 tv, .float .f32 ta, .float .f32 tb, .float .f32 tc, .float .f32 tn, .float .f32 td, .float .f32 tt]) 47) := ⟨_, rfl⟩
    have A_3 := Lib.hid (show BK w3 w2.heap.size [.float .f32 tl, .float .f32 tv, .float .f32 ta, .float .f32 tb, .float .f32 tc, .float .f32 tn, .float .f32 td, .float .f32 tt] by rw [hw3]; exact BK.new w2 _ _)
    have HB3 := Lib.hid (show Below w.heap.size w w3 by rw [hw3]; exact Below.alloc HB2.out HB2.out.size _)
    have hz3 : w2.heap.size + 1 = w3.heap.size := by rw [hw3]; simp
    have HW3 := Lib.hid hw3
    have hz2 := HB2.out.size
    clear hd hb hw3 HB1 HB2
    go_wp2_with fail
    rw [← HW3.out]
    clear HW3
    refine (l_b10AtX v ds 0 8 (by omega) (by omega) (by omega) _ (HV.out.keep HB3.out) HDS.out).mono ?_; rintro z w4 ⟨⟨x0, hx0, rfl⟩, hd⟩
    have HB4 := Lib.hid (HB3.out.trans ((hd.below w3.heap.size).mono HB3.out.size))
    have A_4 := Lib.hid (A_3.out.keep (hd.below w3.heap.size))
    have hz4 := (hd.below w3.heap.size).size
    clear hd HB3 A_3
    obtain ⟨nn, hn⟩ : ∃ nn, nn = 1 + x0 := ⟨_, rfl⟩
    have t1 : (1 : Int) + (x0 : Int) = (nn : Int) := by omega
    have t2 : IntKind.i64.wrap (nn : Int) = (nn : Int) := by rw [IntKind.wrap_i64]; omega
    have hn1 : 1 ≤ nn := by omega
    have hn2 : nn ≤ 8 := by omega
    clear hn
    have hcA := A_4.out.cells; have hfA := A_4.out.fro
    go_wp2_with fail
    clear hcA hfA t1
    obtain ⟨hah, hal⟩ := ahead_n HD.out hn1 hn2
    have HAL := Lib.hid hal
    clear hal
    have c0 := HTW.out.1.hl.cnT; have c1 := HTW.out.1.hv.cnT; have c2 := HTW.out.1.ha.cnT; have c3 := HTW.out.1.hb.cnT; have c4 := HTW.out.1.hc.cnT; have c5 := HTW.out.1.hn.cnT; have c6 := HTW.out.1.hd.cnT; have c7 := HTW.out.1.ht.cnT
    have HC := Lib.hid (And.intro c0 (And.intro c1 (And.intro c2 (And.intro c3 (And.intro c4 (And.intro c5 (And.intro c6 c7)))))))
    have hu1 := i_TrendAhead tl tv ta tb tc tn td tt (nn : Int) w4
    rw [c0, c1, c2, c3, c4, c5, c6, c7, hah] at hu1
    clear c0 c1 c2 c3 c4 c5 c6 c7 hah
    refine hu1.mono ?_; rintro z w5 ⟨⟨va, ba, rfl, hoa, rfl⟩, hb⟩
    have HB5 := Lib.hid (HB4.out.trans (hb.mono HB4.out.size))
    have A_5 := Lib.hid (A_4.out.keep hb)
    have HAH := Lib.hid (fun w' (h : Below w5.heap.size w5 w') => hoa.keep h)
    have hz5 := hb.size
    obtain ⟨aao, aac, rfl, -⟩ := hoa.sb.sl.slice
    clear hb hoa hu1 A_4 HB4
    have HO0 := Lib.hid (show GO (Value.float .f32) 33 w5.heap.size ((w5.alloc (.cells #[] 33)).alloc (.cells #[] 4)) (.slice (some ⟨w5.heap.size, 0, none⟩) 0 0) (List.replicate 0 0) from GO.alloc (GO.empty _ _ rfl (Nat.le_refl _)) _)
    have HP0 := Lib.hid (show GO Value.bool 4 w5.heap.size ((w5.alloc (.cells #[] 33)).alloc (.cells #[] 4)) (.slice (some ⟨w5.heap.size + 1, 0, none⟩) 0 0) (List.replicate 0 false) from GO.empty _ _ (by simp) (by simp))
    have HW0 := Lib.hid (show Below w5.heap.size w5 ((w5.alloc (.cells #[] 33)).alloc (.cells #[] 4)) by (repeat (first | with_reducible exact Below.refl _ _ | with_reducible assumption | with_reducible refine below_drewN ?_ _ | with_reducible refine Below.drew ?_ | with_reducible refine Below.alloc ?_ (by first | omega | (simp; omega) | (simp; done) | (simp at *; omega)) _ | with_reducible refine Below.setCell ?_ (by first | omega | (simp; omega) | (simp; done) | (simp at *; omega)) _ | refine Below.trans ?_ (Below.mono (by with_reducible assumption) (by first | omega | (simp; omega) | (simp; done) | (simp at *; omega))))))
    have hlt5 : (taL tl tv nn).length = nn := taL_length ..
    rw [hlt5]
    have HLT := Lib.hid hlt5
    clear hlt5
    go_wp2_with fail
    go_loopw [11, 9, 10] (fun i o p wr => ∃ j : Nat, j ≤ nn ∧ i = .int .i64 (j : Int) ∧ Hid (GO (Value.float .f32) 33 w5.heap.size wr o (List.replicate j 0)) ∧ Hid (GO Value.bool 4 w5.heap.size wr p (List.replicate j false)) ∧ Hid (Below w5.heap.size w5 wr)) (fun i _ _ _ => nn - (intOf i).toNat)
    case atStart => exact ⟨0, Nat.zero_le _, rfl, HO0, HP0, HW0⟩
    case round =>
      clear HO0 HP0 HW0
      obtain ⟨k, hk, rfl, HO, HP, HW⟩ := hrel
      have hzr := HW.out.size
      by_cases hlt : k < nn
      · have hji : (k : Int) < (nn : Int) := by omega
        have HRS := Lib.hid (show List.replicate (k + 1) 0 = List.replicate k 0 ++ [0] from List.replicate_succ')
        have HRT := Lib.hid (show List.replicate (k + 1) false = List.replicate k false ++ [false] from List.replicate_succ')
        have HRL := Lib.hid (show (List.replicate k 0).length = k from List.length_replicate)
        have HRM := Lib.hid (show (List.replicate k false).length = k from List.length_replicate)
        have HNE := Lib.hid (GO.ne_goT HP.out HO.out (by decide))
        go_wp2_with (first
          | (at_builtin; refine wpList_gapp (inj := Value.float .f32) oneF32T (fun _ => rfl) w5.heap.size _ (List.replicate k 0) rfl (GO.alloc HO.out _) [0] _ 1 rfl rfl (by intro i u hu; cases i with | zero => (simp only [List.getElem?_cons_zero, Option.some.injEq] at hu; subst hu; simp) | succ i => simp at hu) (by have := HRL.out; simp only [List.length_cons, List.length_nil]; omega) (by simp; omega) ?_; intro v2 w13 hown hg; have HO2 := Lib.hid hown; have HP2 := Lib.hid (GO.kept (GO.alloc HP.out _) hg HNE.out); have HW2 := Lib.hid (show Below w5.heap.size w5 w13 from (HW.out.alloc HW.out.size _).grown hg (by simp; omega) HO.out.own_ge); have HNE2 := Lib.hid (GO.ne_goT HO2.out HP2.out (by decide)); clear hown hg)
          | (at_builtin; refine wpList_gapp (inj := Value.bool) oneBoolT (fun _ => rfl) w5.heap.size _ (List.replicate k false) rfl (GO.alloc HP2.out _) [false] _ 1 rfl rfl (by intro i u hu; cases i with | zero => (simp only [List.getElem?_cons_zero, Option.some.injEq] at hu; subst hu; simp) | succ i => simp at hu) (by have := HRM.out; simp only [List.length_cons, List.length_nil]; omega) (by have := HW2.out.size; simp; omega) ?_; intro v3 w14 hown hg; have HP3 := Lib.hid hown; have HO3 := Lib.hid (GO.kept (GO.alloc HO2.out _) hg HNE2.out); have HW3 := Lib.hid (show Below w5.heap.size w5 w14 from (HW2.out.alloc HW2.out.size _).grown hg (by have := HW2.out.size; simp; omega) HP2.out.own_ge); clear hown hg))
        refine ⟨⟨k + 1, by omega, by go_num, ?_, ?_, HW3⟩, by simp [intOf]; omega⟩
        · show Hid (GO _ _ _ _ _ _)
          rw [HRS.out]
          exact HO3
        · show Hid (GO _ _ _ _ _ _)
          rw [HRT.out]
          exact HP3
      · obtain rfl : k = nn := by omega
        have hji : ¬ ((k : Int) < (k : Int)) := by omega
        have HOG := Lib.hid (show OW 33 w5.heap.size wr u9 (List.replicate k 0) from by
          have h : OW 33 w5.heap.size wr u9 ((List.replicate k 0).map (cn .f32)) := ⟨List.replicate k 0, HO.out, rfl, fun c hc => by rw [List.eq_of_mem_replicate hc]; omega⟩
          rw [List.map_replicate, cn0] at h
          exact h)
        have HPG := Lib.hid HP.out.gl
        have HB6 := Lib.hid (HB5.out.trans (HW.out.mono HB5.out.size))
        have A_6 := Lib.hid (A_5.out.keep HW.out)
        have HA6 := Lib.hid (HAH.out wr HW.out)
        rw [HLT.out] at HA6
        obtain ⟨no, nc, hno, -⟩ := HO.out.gl.slice
        obtain ⟨po, pc, hpo, -⟩ := HP.out.gl.slice
        rw [List.length_replicate] at hno hpo
        subst hno
        subst hpo
        have hlt5 := HB5.out.size
        clear HO HP HAH A_5
        obtain ⟨T, es, hbq, hes, heq⟩ := blind_trQ HD.out hn1 hn2
        have HEQ := Lib.hid heq
        clear heq hlt hji hk
        have hcA := A_6.out.cells; have hfA := A_6.out.fro
        go_wp2_with fail
        clear hcA hfA
        have hu1 := i_TrendRun tl tv ta tb tc tn td tt r0 r1 r2 r3 r4 r5 r6 r7 _ (List.replicate k 0) _ (List.replicate k false) wr HOG.out.sb HPG.out
        obtain ⟨c0, c1, c2, c3, c4, c5, c6, c7⟩ := HC.out
        rw [c0, c1, c2, c3, c4, c5, c6, c7, hbq] at hu1
        refine hu1.mono ?_
        clear hu1 c0 c1 c2 c3 c4 c5 c6 c7
        rintro z w7 ⟨⟨s0, s1, s2, s3, s4, s5, s6, s7, ve, be, rfl, hsT, hoe, rfl, hs8⟩, hb⟩
        have HB7 := Lib.hid (HB6.out.trans (hb.mono HB6.out.size))
        have A_7 := Lib.hid (A_6.out.keep hb)
        have HA7 := Lib.hid (HA6.out.keep hb)
        have HN7 := Lib.hid (HOG.out.keep hb)
        have HP7 := Lib.hid (HPG.out.keep hb)
        have HE7 := Lib.hid hoe
        have HST := Lib.hid hsT
        have HS8 := Lib.hid hs8
        have hz7 := hb.size
        have hlA := A_7.out.lt
        clear hb hoe hsT hs8 A_6 HA6 HOG HPG HB6
        have hcA := A_7.out.cells; have hfA := A_7.out.fro
        go_wp2_with (refine wpList_storeAgg (us := [.float .f32 s0, .float .f32 s1, .float .f32 s2, .float .f32 s3, .float .f32 s4, .float .f32 s5, .float .f32 s6, .float .f32 s7]) (storeTrD _ _ _ _ _ _ _ _ _ _) rfl rfl (by simp [Value.oneCell']) (BK.new _ _ _) (by simp) ?_; intro w8 hB hO hL hZ hG; have HX8 := Lib.hid (hL _ _ (Below.alloc (Below.refl w7.heap.size w7) (Nat.le_refl _) _) (Nat.le_refl _)); have M_8 := Lib.hid hB; clear hB hO hL hG; simp [setsAt] at M_8; (try simp only [World.size_alloc] at hZ); clear hcA hfA; have A_8 := Lib.hid (A_7.out.keep HX8.out); have hcA := A_8.out.cells; have hfA := A_8.out.fro)
        clear hcA hfA
        have HB8 := Lib.hid (HB7.out.trans (HX8.out.mono HB7.out.size))
        have HA8 := Lib.hid (HA7.out.keep HX8.out)
        have HN8 := Lib.hid (HN7.out.keep HX8.out)
        have HP8 := Lib.hid (HP7.out.keep HX8.out)
        have HE8 := Lib.hid (HE7.out.keep HX8.out)
        have hz8 := HX8.out.size
        clear A_7 HA7 HN7 HP7 HE7 HB7
        have hu1 := s_TrendRun tl tv ta tb tc tn td tt r0 r1 r2 r3 r4 r5 r6 r7 _ (List.replicate k 0) _ (List.replicate k false) w8 HN8.out.sb HP8.out
        obtain ⟨c0, c1, c2, c3, c4, c5, c6, c7⟩ := HC.out
        rw [c0, c1, c2, c3, c4, c5, c6, c7, hbq] at hu1
        refine hu1.mono ?_
        clear hu1 c0 c1 c2 c3 c4 c5 c6 c7
        rintro z w9 ⟨⟨p0, p1, p2, p3, p4, p5, p6, p7, vf, bf, rfl, hpT, hof, rfl, hp8⟩, hb⟩
        have HB9 := Lib.hid (HB8.out.trans (hb.mono HB8.out.size))
        have A_9 := Lib.hid (A_8.out.keep hb)
        have M_9 := Lib.hid (M_8.out.keep hb)
        have HA9 := Lib.hid (HA8.out.keep hb)
        have HE9 := Lib.hid (HE8.out.keep hb)
        have HF9 := Lib.hid hof
        have HPT := Lib.hid hpT
        have HP8' := Lib.hid hp8
        have hz9 := hb.size
        have hlM := M_8.out.lt
        clear hb hof hpT hp8 A_8 M_8 HA8 HN8 HP8 HE8 HB8 hbq
        obtain ⟨eo, ec, heo, -⟩ := HE9.out.sb.sl.slice
        obtain ⟨fo, fc', hfo, -⟩ := HF9.out.sb.sl.slice
        rw [hes] at heo hfo
        subst heo
        subst hfo
        have hcA := A_9.out.cells; have hfA := A_9.out.fro
        have hcM := M_9.out.cells; have hfM := M_9.out.fro
        go_wp2_with (refine wpList_storeAgg (us := [.float .f32 p0, .float .f32 p1, .float .f32 p2, .float .f32 p3, .float .f32 p4, .float .f32 p5, .float .f32 p6, .float .f32 p7]) (storeTrD _ _ _ _ _ _ _ _ _ _) rfl rfl (by simp [Value.oneCell']) (BK.new _ _ _) (by simp) ?_; intro w10 hB hO hL hZ hG; have HX10 := Lib.hid (hL _ _ (Below.alloc (Below.refl w9.heap.size w9) (Nat.le_refl _) _) (Nat.le_refl _)); have P_10 := Lib.hid hB; clear hB hO hL hG; simp [setsAt] at P_10; (try simp only [World.size_alloc] at hZ); clear hcA hfA hcM hfM; have A_10 := Lib.hid (A_9.out.keep HX10.out); have M_10 := Lib.hid (M_9.out.keep HX10.out); have hcA := A_10.out.cells; have hfA := A_10.out.fro; have hcM := M_10.out.cells; have hfM := M_10.out.fro; have hcP := P_10.out.cells; have hfP := P_10.out.fro)
        clear hcA hfA hcM hfM hcP hfP
        have HB10 := Lib.hid (HB9.out.trans (HX10.out.mono HB9.out.size))
        have HA10 := Lib.hid (HA9.out.keep HX10.out)
        have HE10 := Lib.hid (HE9.out.keep HX10.out)
        have HF10 := Lib.hid (HF9.out.keep HX10.out)
        have hz10 := HX10.out.size
        clear A_9 M_9 HA9 HE9 HF9 HB9
        obtain ⟨c0, c1, c2, c3, c4, c5, c6, c7⟩ := HC.out
        have hu1 := i_ValidTrend tl tv ta tb tc tn td tt w10
        rw [c0, c1, c2, c3, c4, c5, c6, c7, HTW.out.2.2.2] at hu1
        refine hu1.mono ?_
        clear hu1 c0 c1 c2 c3 c4 c5 c6 c7
        rintro z w11 ⟨rfl, hb⟩
        have A_11 := Lib.hid (A_10.out.keep hb)
        have M_11 := Lib.hid (M_10.out.keep hb)
        have P_11 := Lib.hid (P_10.out.keep hb)
        have HA11 := Lib.hid (HA10.out.keep hb)
        have HE11 := Lib.hid (HE10.out.keep hb)
        have HF11 := Lib.hid (HF10.out.keep hb)
        have HB11 := Lib.hid (HB10.out.trans (hb.mono HB10.out.size))
        have hz11 := hb.size
        clear A_10 M_10 P_10 HA10 HE10 HF10 HB10
        clear hb
        have hcA := A_11.out.cells; have hfA := A_11.out.fro; have hcM := M_11.out.cells; have hfM := M_11.out.fro; have hcP := P_11.out.cells; have hfP := P_11.out.fro
        go_wp2_with fail
        clear hcA hfA hcM hfM hcP hfP
        have hu1 := i_SameTrend tl tv ta tb tc tn td tt tl tv ta tb tc tn td tt (all8 r0 r1 r2 r3 r4 r5 r6 r7) (all8 r0 r1 r2 r3 r4 r5 r6 r7) w11
        rw [beq_self_eq_true] at hu1
        refine hu1.mono ?_
        clear hu1
        rintro z w12 ⟨rfl, hb⟩
        have A_12 := Lib.hid (A_11.out.keep hb)
        have M_12 := Lib.hid (M_11.out.keep hb)
        have P_12 := Lib.hid (P_11.out.keep hb)
        have HA12 := Lib.hid (HA11.out.keep hb)
        have HE12 := Lib.hid (HE11.out.keep hb)
        have HF12 := Lib.hid (HF11.out.keep hb)
        have HB12 := Lib.hid (HB11.out.trans (hb.mono HB11.out.size))
        have hz12 := hb.size
        clear A_11 M_11 P_11 HA11 HE11 HF11 HB11
        clear hb
        have hcA := A_12.out.cells; have hfA := A_12.out.fro; have hcM := M_12.out.cells; have hfM := M_12.out.fro; have hcP := P_12.out.cells; have hfP := P_12.out.fro
        go_wp2_with fail
        clear hcA hfA hcM hfM hcP hfP
        have hu1 := i_SameTrend s0 s1 s2 s3 s4 s5 s6 s7 p0 p1 p2 p3 p4 p5 p6 p7 HS8.out HP8'.out w12
        rw [show ([s0, s1, s2, s3, s4, s5, s6, s7].map (cn .f32)) = ([p0, p1, p2, p3, p4, p5, p6, p7].map (cn .f32)) from HST.out.trans HPT.out.symm, beq_self_eq_true] at hu1
        refine hu1.mono ?_
        clear hu1
        rintro z w13 ⟨rfl, hb⟩
        have A_13 := Lib.hid (A_12.out.keep hb)
        have M_13 := Lib.hid (M_12.out.keep hb)
        have P_13 := Lib.hid (P_12.out.keep hb)
        have HA13 := Lib.hid (HA12.out.keep hb)
        have HE13 := Lib.hid (HE12.out.keep hb)
        have HF13 := Lib.hid (HF12.out.keep hb)
        have HB13 := Lib.hid (HB12.out.trans (hb.mono HB12.out.size))
        have hz13 := hb.size
        clear A_12 M_12 P_12 HA12 HE12 HF12 HB12
        clear hb
        have hcA := A_13.out.cells; have hfA := A_13.out.fro; have hcM := M_13.out.cells; have hfM := M_13.out.fro; have hcP := P_13.out.cells; have hfP := P_13.out.fro
        go_wp2_with fail
        clear hcA hfA hcM hfM hcP hfP
        have hu1 := s_SameNumber s0 p0 (HS8.out s0 (by simp)) (HP8'.out p0 (by simp)) w13
        rw [show cn .f32 s0 = cn .f32 p0 from (List.cons.inj (HST.out.trans HPT.out.symm)).1, show same (cn .f32 p0) (cn .f32 p0) = true from by simp [same]] at hu1
        refine hu1.mono ?_
        clear hu1
        rintro z w14 ⟨rfl, hd⟩
        have hb := hd.below w13.heap.size
        clear hd
        have A_14 := Lib.hid (A_13.out.keep hb)
        have M_14 := Lib.hid (M_13.out.keep hb)
        have P_14 := Lib.hid (P_13.out.keep hb)
        have HA14 := Lib.hid (HA13.out.keep hb)
        have HE14 := Lib.hid (HE13.out.keep hb)
        have HF14 := Lib.hid (HF13.out.keep hb)
        have HB14 := Lib.hid (HB13.out.trans (hb.mono HB13.out.size))
        have hz14 := hb.size
        clear A_13 M_13 P_13 HA13 HE13 HF13 HB13
        clear hb
        have hcA := A_14.out.cells; have hfA := A_14.out.fro; have hcM := M_14.out.cells; have hfM := M_14.out.fro; have hcP := P_14.out.cells; have hfP := P_14.out.fro
        go_wp2_with fail
        clear hcA hfA hcM hfM hcP hfP
        have hu1 := l_b10List _ _ es w14 HE14.out.sb HF14.out.sb
        refine hu1.mono ?_
        clear hu1
        rintro z w15 ⟨rfl, hd⟩
        have hb := hd.below w14.heap.size
        clear hd
        have A_15 := Lib.hid (A_14.out.keep hb)
        have M_15 := Lib.hid (M_14.out.keep hb)
        have P_15 := Lib.hid (P_14.out.keep hb)
        have HA15 := Lib.hid (HA14.out.keep hb)
        have HE15 := Lib.hid (HE14.out.keep hb)
        have HF15 := Lib.hid (HF14.out.keep hb)
        have HB15 := Lib.hid (HB14.out.trans (hb.mono HB14.out.size))
        have hz15 := hb.size
        clear A_14 M_14 P_14 HA14 HE14 HF14 HB14
        clear hb
        have hcA := A_15.out.cells; have hfA := A_15.out.fro; have hcM := M_15.out.cells; have hfM := M_15.out.fro; have hcP := P_15.out.cells; have hfP := P_15.out.fro
        go_wp2_with fail
        clear hcA hfA hcM hfM hcP hfP
        go_loopw [125, 18] (fun i f wr2 => ∃ m : Nat, m ≤ k ∧ i = .int .i64 (m : Int) ∧ Hid (Below w15.heap.size w15 wr2)) (fun i _ _ => k - (intOf i).toNat)
        case atStart => exact ⟨0, Nat.zero_le _, rfl, Lib.hid (Below.refl _ _)⟩
        case round =>
          obtain ⟨m, hm, rfl, HWL⟩ := hrel
          have hzl := HWL.out.size
          by_cases hlt2 : m < k
          · have hmi : (m : Int) < (k : Int) := by omega
            have hm0 : 0 ≤ (m : Int) := by omega
            have hmn : ((m : Int)).toNat = m := by omega
            obtain ⟨av1, cc1, hv1, -, -, hget1⟩ := (HA15.out.keep HWL.out).sb.get HLT.out
            obtain ⟨b1, o1, ua, hao1, hbl1, hc1, hr1, hcr1⟩ := hget1 m hlt2
            obtain rfl : aao = some ⟨b1, o1, none⟩ := by injection hv1 with q1; rw [q1]; exact hao1
            obtain ⟨av2, cc2, hv2, -, -, hget2⟩ := (HE15.out.keep HWL.out).sb.get hes
            obtain ⟨b2, o2, ue, hao2, hbl2, hc2, hr2, hcr2⟩ := hget2 m hlt2
            obtain rfl : eo = some ⟨b2, o2, none⟩ := by injection hv2 with q1; rw [q1]; exact hao2
            obtain ⟨X, hX, hXn⟩ := HAL.out m hlt2
            obtain ⟨Y, hY, hYn⟩ := HEQ.out m hlt2
            obtain ⟨z1, z2⟩ := HD.out.z (show m < 8 by omega)
            obtain ⟨q1, -⟩ := raw_of hcr1 (qv_fin hX (by have := hXn.1; grind) (by have := hXn.2; grind))
            obtain ⟨q2, -⟩ := raw_of hcr2 (qv_fin hY (by have := hYn.1; grind) (by have := hYn.2; grind))
            rw [← q1] at hX
            rw [← q2] at hY
            obtain ⟨⟨g, hg⟩, hgo⟩ := gap_no hX hY hXn hYn z1 z2
            have RC1 := fun w => run_wdx (P := Try.prog) w 33 45 ua (by kernel_rfl) (by kernel_rfl) hX.notNaN
            have RC2 := fun w => run_wdx (P := Try.prog) w 33 45 ue (by kernel_rfl) (by kernel_rfl) hY.notNaN
            have HGC := Lib.hid (fun w => l_b10GapQ (wd ua) (wd ue) (wd_not hX (by have := hXn.1; grind) (by have := hXn.2; grind)) (wd_not hY (by have := hYn.1; grind) (by have := hYn.2; grind)) hg.notNaN w)
            clear hao1 hao2 hv1 hv2 hget1 hget2 hcr1 hcr2 hr1 hr2 q1 q2 hX hY hXn hYn z1 z2 hg
            go_wp2_with fail
            go_quiet ((go_at_call 29; first | exact quiet_dr (HGC.out _) | exact quiet_dr2 (HGC.out _)))
            go_wp2_with fail
            exact ⟨⟨m + 1, by omega, by go_num, Lib.hid (by first | exact HWL.out | exact below_drewN HWL.out _)⟩, by simp [intOf]; omega⟩
          · obtain rfl : m = k := by omega
            obtain ⟨w16, hw16⟩ : ∃ q, q = wr := ⟨_, rfl⟩
            subst hw16
            have HB16 := Lib.hid (HB15.out.trans (HWL.out.mono HB15.out.size))
            have A_16 := Lib.hid (A_15.out.keep HWL.out)
            have hlA := A_16.out.lt
            have hz16 := HB16.out.size
            clear M_15 P_15 HA15 HE15 HF15 HB15 A_15 HWL HAL HLT HEQ hlt2 hm t2 HST HPT HS8 HP8' HW hzr
            obtain ⟨⟨T2, htq⟩, sn1, sn2, sn3, sn4, sn5, sn6, sgo⟩ := step_n HD.out
            have SN := Lib.hid (And.intro sn1 (And.intro sn2 (And.intro sn3 (And.intro sn4 (And.intro sn5 sn6)))))
            have SGO := Lib.hid sgo
            clear sn1 sn2 sn3 sn4 sn5 sn6 sgo
            have hmi : ¬ ((m : Int) < (m : Int)) := by omega
            have hcA := A_16.out.cells; have hfA := A_16.out.fro
            go_wp2_with fail
            clear hcA hfA
            clear hmi
            have hu1 := i_TrendStep tl tv ta tb tc tn td tt 1065353216 r0 r1 r2 r3 r4 r5 r6 r7 (by omega) true w16
            obtain ⟨c0, c1, c2, c3, c4, c5, c6, c7⟩ := HC.out
            rw [c0, c1, c2, c3, c4, c5, c6, c7, show cn .f32 1065353216 = 1065353216 from one_qv.cnT, htq] at hu1
            refine hu1.mono ?_
            clear hu1 c0 c1 c2 c3 c4 c5 c6 c7
            rintro z w17 ⟨⟨a0, a1, a2, a3, a4, a5, a6, a7, ae, ab, rfl, ⟨aq0, aq1, aq2, aq3, aq4, aq5, aq6, aq7, aqe⟩, hq⟩, hb⟩
            obtain rfl : ab = true := (congrArg (fun p => p.2.2) hq).symm
            have he := cn32_raw (congrArg (fun p => p.2.1) hq).symm SN.out.1
            subst he
            have HAT := Lib.hid (congrArg (fun p => p.1) hq)
            clear hq
            have A_17 := Lib.hid (A_16.out.keep hb)
            have HB17 := Lib.hid (HB16.out.trans (hb.mono HB16.out.size))
            have hz17 := hb.size
            clear A_16 HB16
            clear hb
            have hlA := A_17.out.lt
            have hcA := A_17.out.cells; have hfA := A_17.out.fro
            go_wp2_with (refine wpList_storeAgg (us := [.float .f32 a0, .float .f32 a1, .float .f32 a2, .float .f32 a3, .float .f32 a4, .float .f32 a5, .float .f32 a6, .float .f32 a7]) (storeTrD _ _ _ _ _ _ _ _ _ _) rfl rfl (by simp [Value.oneCell']) (BK.new _ _ _) (by simp) ?_; intro w18 hB hO hL hZ hG; have HX18 := Lib.hid (hL _ _ (Below.alloc (Below.refl w17.heap.size w17) (Nat.le_refl _) _) (Nat.le_refl _)); have M_18 := Lib.hid hB; clear hB hO hL hG hZ; simp [setsAt] at M_18; clear hcA hfA; have A_18 := Lib.hid (A_17.out.keep HX18.out); have hcA := A_18.out.cells; have hfA := A_18.out.fro; have hcM := M_18.out.cells; have hfM := M_18.out.fro)
            clear hcA hfA hcM hfM
            have HB18 := Lib.hid (HB17.out.trans (HX18.out.mono HB17.out.size))
            have hz18 := HX18.out.size
            clear A_17 HB17 HX18
            have hu1 := s_TrendStep tl tv ta tb tc tn td tt 1065353216 r0 r1 r2 r3 r4 r5 r6 r7 (by omega) true w18
            obtain ⟨c0, c1, c2, c3, c4, c5, c6, c7⟩ := HC.out
            rw [c0, c1, c2, c3, c4, c5, c6, c7, show cn .f32 1065353216 = 1065353216 from one_qv.cnT, htq] at hu1
            refine hu1.mono ?_
            clear hu1 c0 c1 c2 c3 c4 c5 c6 c7
            rintro z w19 ⟨⟨b0, b1, b2, b3, b4, b5, b6, b7, be, bb, rfl, ⟨bq0, bq1, bq2, bq3, bq4, bq5, bq6, bq7, bqe⟩, hq⟩, hb⟩
            obtain rfl : bb = true := (congrArg (fun p => p.2.2) hq).symm
            have he := cn32_raw (congrArg (fun p => p.2.1) hq).symm SN.out.1
            subst he
            have HBT := Lib.hid (congrArg (fun p => p.1) hq)
            clear hq
            have A_19 := Lib.hid (A_18.out.keep hb)
            have M_19 := Lib.hid (M_18.out.keep hb)
            have HB19 := Lib.hid (HB18.out.trans (hb.mono HB18.out.size))
            have hz19 := hb.size
            clear A_18 M_18 HB18
            clear hb
            have hlA := A_19.out.lt
            have hlM := M_19.out.lt
            have hcA := A_19.out.cells; have hfA := A_19.out.fro; have hcM := M_19.out.cells; have hfM := M_19.out.fro
            go_wp2_with (refine wpList_storeAgg (us := [.float .f32 b0, .float .f32 b1, .float .f32 b2, .float .f32 b3, .float .f32 b4, .float .f32 b5, .float .f32 b6, .float .f32 b7]) (storeTrD _ _ _ _ _ _ _ _ _ _) rfl rfl (by simp [Value.oneCell']) (BK.new _ _ _) (by simp) ?_; intro w20 hB hO hL hZ hG; have HX20 := Lib.hid (hL _ _ (Below.alloc (Below.refl w19.heap.size w19) (Nat.le_refl _) _) (Nat.le_refl _)); have P_20 := Lib.hid hB; clear hB hO hL hG hZ; simp [setsAt] at P_20; clear hcA hfA hcM hfM; have A_20 := Lib.hid (A_19.out.keep HX20.out); have M_20 := Lib.hid (M_19.out.keep HX20.out); have hcA := A_20.out.cells; have hfA := A_20.out.fro; have hcM := M_20.out.cells; have hfM := M_20.out.fro; have hcP := P_20.out.cells; have hfP := P_20.out.fro)
            clear hcA hfA hcM hfM hcP hfP
            have HB20 := Lib.hid (HB19.out.trans (HX20.out.mono HB19.out.size))
            have hz20 := HX20.out.size
            clear A_19 M_19 HB19 HX20
            have hu1 := i_SameTrend a0 a1 a2 a3 a4 a5 a6 a7 b0 b1 b2 b3 b4 b5 b6 b7 (all8 aq0 aq1 aq2 aq3 aq4 aq5 aq6 aq7) (all8 bq0 bq1 bq2 bq3 bq4 bq5 bq6 bq7) w20
            rw [show ([a0, a1, a2, a3, a4, a5, a6, a7].map (cn .f32)) = ([b0, b1, b2, b3, b4, b5, b6, b7].map (cn .f32)) from HAT.out.symm.trans HBT.out, beq_self_eq_true] at hu1
            refine hu1.mono ?_
            clear hu1
            rintro z w21 ⟨rfl, hb⟩
            have A_21 := Lib.hid (A_20.out.keep hb)
            have M_21 := Lib.hid (M_20.out.keep hb)
            have P_21 := Lib.hid (P_20.out.keep hb)
            have HB21 := Lib.hid (HB20.out.trans (hb.mono HB20.out.size))
            have hz21 := hb.size
            clear A_20 M_20 P_20 HB20
            clear hb
            have hcA := A_21.out.cells; have hfA := A_21.out.fro; have hcM := M_21.out.cells; have hfM := M_21.out.fro; have hcP := P_21.out.cells; have hfP := P_21.out.fro
            go_wp2_with fail
            clear hcA hfA hcM hfM hcP hfP
            have hu1 := s_SameNumber (addF tl tv) (addF tl tv) aqe aqe w21
            rw [show same (cn .f32 (addF tl tv)) (cn .f32 (addF tl tv)) = true from by simp [same]] at hu1
            refine hu1.mono ?_
            clear hu1
            rintro z w22 ⟨rfl, hd⟩
            have hb := hd.below w21.heap.size
            clear hd
            have A_22 := Lib.hid (A_21.out.keep hb)
            have M_22 := Lib.hid (M_21.out.keep hb)
            have P_22 := Lib.hid (P_21.out.keep hb)
            have HB22 := Lib.hid (HB21.out.trans (hb.mono HB21.out.size))
            have hz22 := hb.size
            clear A_21 M_21 P_21 HB21
            clear hb
            obtain ⟨sn1, sn2, sn3, sn4, sn5, sn6⟩ := SN.out
            have RC1 := fun w => run_wdx (P := Try.prog) w 33 45 (addF tl tv) (by kernel_rfl) (by kernel_rfl) sn1
            have RC2 := fun w => run_wdx (P := Try.prog) w 33 45 tl (by kernel_rfl) (by kernel_rfl) HD.out.hl.notNaN
            have RC3 := fun w => run_wdx (P := Try.prog) w 33 45 tv (by kernel_rfl) (by kernel_rfl) HD.out.hv.notNaN
            have RA := fun t w => run_arx64T (P := Try.prog) .add (wd tl) (wd tv) _ (by rw [cn_of_not (k := .f64) sn3, cn_of_not (k := .f64) sn4]) sn5 t w
            have hu1 := l_b10GapQ (wd (addF tl tv)) (ar .add .f64 (wd tl) (wd tv)) sn2 sn5 sn6
            have hgo := SGO.out
            generalize gapF (wd (addF tl tv)) (ar .add .f64 (wd tl) (wd tv)) = gg at hu1 hgo
            clear sn1 sn2 sn3 sn4 sn5 sn6
            have hcA := A_22.out.cells; have hfA := A_22.out.fro; have hcM := M_22.out.cells; have hfM := M_22.out.fro; have hcP := P_22.out.cells; have hfP := P_22.out.fro
            go_wp2_with fail
            clear hcA hfA hcM hfM hcP hfP
            refine (hu1 w22).mono ?_
            clear hu1 RC1 RC2 RC3 RA
            rintro z w23 ⟨rfl, hd⟩
            have hb := hd.below w22.heap.size
            clear hd
            have A_23 := Lib.hid (A_22.out.keep hb)
            have HB23 := Lib.hid (HB22.out.trans (hb.mono HB22.out.size))
            have hz23 := hb.size
            clear A_22 HB22
            clear hb M_22 P_22 SN SGO HAT HBT htq
            have hcA := A_23.out.cells; have hfA := A_23.out.fro
            go_wp2_with fail
            clear hcA hfA
            refine (l_b10AtX v ds 1 9 (by omega) (by omega) (by omega) _ (by first | exact HV.out.keep ((HB23.out.alloc HB23.out.size _).alloc (Nat.le_trans HB23.out.size (by simp)) _) | exact HV.out.keep HB23.out) HDS.out).mono ?_
            rintro z w24 ⟨⟨x1, hx1, rfl⟩, hd⟩
            have HW24 := Lib.hid (below_two hd)
            have HO24 := Lib.hid (go_two (T := 33) (T' := 4) hd).1
            have HP24 := Lib.hid (go_two (T := 33) (T' := 4) hd).2
            clear hd hgo
            have t3 : IntKind.i64.wrap ((x1 : Int) - 4) = (x1 : Int) - 4 := by rw [IntKind.wrap_i64]; omega
            go_wp2_with fail
            refine (l_b10AtX v ds 2 9 (by omega) (by omega) (by omega) _ (HV.out.keep (HB23.out.trans (HW24.out.mono HB23.out.size))) HDS.out).mono ?_
            rintro z w25 ⟨⟨x2, hx2, rfl⟩, hd⟩
            have hb := hd.below w24.heap.size
            have HW25 := Lib.hid (HW24.out.trans (hb.mono HW24.out.size))
            have HO25 := Lib.hid (show GO (Value.float .f32) 33 w23.heap.size w25 (.slice (some ⟨w23.heap.size, 0, none⟩) 0 0) (lineL x1 x2 0) from HO24.out.keep hb)
            have HP25 := Lib.hid (show GO Value.bool 4 w23.heap.size w25 (.slice (some ⟨w23.heap.size + 1, 0, none⟩) 0 0) (List.replicate 0 true) from HP24.out.keep hb)
            clear hd hb HW24 HO24 HP24 t3
            have t4 : IntKind.i64.wrap ((x2 : Int) - 4) = (x2 : Int) - 4 := by rw [IntKind.wrap_i64]; omega
            obtain ⟨rb, hrb⟩ : ∃ rb, rb = fI ((x1 : Int) - 4) := ⟨_, rfl⟩
            obtain ⟨rs, hrs⟩ : ∃ rs, rs = qf ((x2 : Int) - 4) 1082130432 := ⟨_, rfl⟩
            have RQ := fun t w => run_arxT (P := Try.prog) .quo (floatOfInt .f32 ((x2 : Int) - 4)) 1082130432 rs hrs.symm (by rw [hrs]; exact (slope_qv hx2).notNaN) t w
            have hrb' : floatOfInt .f32 ((x1 : Int) - 4) = rb := hrb.symm
            have HRB := Lib.hid hrb
            have HRS := Lib.hid hrs
            clear hrb hrs
            rw [hrb']
            clear hrb'
            go_wp2_with fail
            clear RQ t4
            go_loopw [29, 25, 26] (fun i o q wr3 => ∃ n : Nat, n ≤ 60 ∧ i = .int .i64 (n : Int) ∧ Hid (GO (Value.float .f32) 33 w23.heap.size wr3 o (lineL x1 x2 n)) ∧ Hid (GO Value.bool 4 w23.heap.size wr3 q (List.replicate n true)) ∧ Hid (Below w23.heap.size w23 wr3)) (fun i _ _ _ => 60 - (intOf i).toNat)
            case atStart => exact ⟨0, Nat.zero_le _, rfl, HO25, HP25, HW25⟩
            case round =>
              clear HO25 HP25 HW25
              obtain ⟨n, hn, rfl, HO, HP, HW⟩ := hrel
              have hzr := HW.out.size
              by_cases hlt : n < 60
              · have hji : (n : Int) < 60 := by omega
                have t5 : IntKind.i64.wrap ((n : Int) + 1) = (n : Int) + 1 := by rw [IntKind.wrap_i64]; omega
                obtain ⟨pk, hpk⟩ : ∃ q, q = mulF rs (fI (n : Int)) := ⟨_, rfl⟩
                obtain ⟨i1, i2⟩ := Go.Proofs.Ytkkomajokdlkeaa.rb (show n < 59 + 1 by omega)
                rw [show ((59 : Nat) : Rat) = 59 from rfl] at i2
                obtain ⟨y1, y2⟩ := Go.Proofs.Ytkkomajokdlkeaa.rb (show x2 < 8 + 1 by omega)
                rw [show ((8 : Nat) : Rat) = 8 from rfl] at y2
                have hqs : QV S rs (((x2 : Rat) - 4) / 4) := by rw [HRS.out]; exact slope_qv hx2
                have hqb : QV S rb ((x1 : Rat) - 4) := by rw [HRB.out]; exact base_qv hx1
                have hmd := mul_bd (x := ((x2 : Rat) - 4) / 4) (X := 1) (y := (n : Rat)) (Y := 59) (by grind) (by grind) (by grind) (by grind)
                obtain ⟨_, hqp, -⟩ := mulF_qv hqs (int_qv hlt) (by unfold big; grind) (by unfold big; grind)
                rw [← hpk] at hqp
                have hle : addF rb pk = lineW x1 x2 n := by rw [hpk, HRS.out, HRB.out]; rfl
                have hql := lineW_qv hx1 hx2 hlt
                have RM := fun t w => run_arxT (P := Try.prog) .mul rs (floatOfInt .f32 (n : Int)) pk (by rw [hqs.cnT, show cn .f32 (floatOfInt .f32 (n : Int)) = fI (n : Int) from (int_qv hlt).cnT, hpk]; rfl) hqp.notNaN t w
                obtain ⟨ek, hek⟩ : ∃ q, q = lineW x1 x2 n := ⟨_, rfl⟩
                rw [← hek] at hle hql
                have RA := fun t w => run_arxT (P := Try.prog) .add rb pk ek (by rw [hqb.cnT, hqp.cnT]; exact hle) hql.notNaN t w
                have HEK := Lib.hid hek
                clear hek hle hql hqp hqs hqb hpk i1 i2 y1 y2 hmd
                have HRS' := Lib.hid (show lineL x1 x2 (n + 1) = lineL x1 x2 n ++ [ek] by rw [HEK.out]; exact lineL_succ _ _ _)
                have HRT := Lib.hid (show List.replicate (n + 1) true = List.replicate n true ++ [true] from List.replicate_succ')
                have HRL := Lib.hid (lineL_length x1 x2 n)
                have HRM := Lib.hid (show (List.replicate n true).length = n from List.length_replicate)
                have HNE := Lib.hid (GO.ne_goT HP.out HO.out (by decide))
                go_wp2_with (first
          | (at_builtin; refine wpList_gapp (inj := Value.float .f32) oneF32T (fun _ => rfl) w23.heap.size _ (lineL x1 x2 n) rfl (GO.alloc HO.out _) [ek] _ 1 rfl rfl (by intro i u hu; cases i with | zero => (simp only [List.getElem?_cons_zero, Option.some.injEq] at hu; subst hu; simp) | succ i => simp at hu) (by have := HRL.out; simp only [List.length_cons, List.length_nil]; omega) (by simp; omega) ?_; intro v2 w33 hown hg; have HO2 := Lib.hid hown; have HP2 := Lib.hid (GO.kept (GO.alloc HP.out _) hg HNE.out); have HW2 := Lib.hid (show Below w23.heap.size w23 w33 from (HW.out.alloc HW.out.size _).grown hg (by simp; omega) HO.out.own_ge); have HNE2 := Lib.hid (GO.ne_goT HO2.out HP2.out (by decide)); clear hown hg)
          | (at_builtin; refine wpList_gapp (inj := Value.bool) oneBoolT (fun _ => rfl) w23.heap.size _ (List.replicate n true) rfl (GO.alloc HP2.out _) [true] _ 1 rfl rfl (by intro i u hu; cases i with | zero => (simp only [List.getElem?_cons_zero, Option.some.injEq] at hu; subst hu; simp) | succ i => simp at hu) (by have := HRM.out; simp only [List.length_cons, List.length_nil]; omega) (by have := HW2.out.size; simp; omega) ?_; intro v3 w34 hown hg; have HP3 := Lib.hid hown; have HO3 := Lib.hid (GO.kept (GO.alloc HO2.out _) hg HNE2.out); have HW3 := Lib.hid (show Below w23.heap.size w23 w34 from (HW2.out.alloc HW2.out.size _).grown hg (by have := HW2.out.size; simp; omega) HP2.out.own_ge); clear hown hg))
                refine ⟨⟨n + 1, by omega, by go_num, ?_, ?_, HW3⟩, by simp [intOf]; omega⟩
                · show Hid (GO _ _ _ _ _ _)
                  rw [HRS'.out]
                  exact HO3
                · show Hid (GO _ _ _ _ _ _)
                  rw [HRT.out]
                  exact HP3
              · obtain rfl : n = 60 := by omega
                have HL26 := Lib.hid (show OW 33 w23.heap.size wr u25 (lineL x1 x2 60) from line_ow hx1 hx2 HO.out)
                have HS26 := Lib.hid HP.out
                have HB26 := Lib.hid (HB23.out.trans (HW.out.mono HB23.out.size))
                have A_26 := Lib.hid (A_23.out.keep HW.out)
                have hlA := A_23.out.lt
                have hz2' : w.heap.size ≤ w2.heap.size := hz2
                obtain ⟨lo, lc, hlo, -⟩ := HL26.out.sb.sl.slice
                obtain ⟨so, sc, hso, -⟩ := HP.out.slice
                rw [lineL_length] at hlo
                rw [List.length_replicate] at hso
                subst hlo
                subst hso
                clear HO HP A_23 hn hlt HB23
                obtain ⟨g0, g1, g2, g3, g4, g5, g6, g7, es2, hfq, sn1, sn2, ⟨sn3, sn4, sn5, sn6⟩, sn7, sgo1, sn8, sgo2⟩ := follow_trQ HD.out hx1 hx2
                have SN := Lib.hid (And.intro sn1 (And.intro sn2 (And.intro sn3 (And.intro sn4 (And.intro sn5 (And.intro sn6 (And.intro sn7 sn8)))))))
                have SG := Lib.hid (And.intro (lss_lt sgo1) (lss_lt sgo2))
                clear sn1 sn2 sn3 sn4 sn5 sn6 sn7 sn8 sgo1 sgo2
                rw [← HRS.out] at SN SG
                have hc60 : ¬ ((60 : Int) < 60) := by omega
                have hcA := A_26.out.cells; have hfA := A_26.out.fro
                go_wp2_with (first
          | (refine wpList_storeBK3 (j := 6) (store32D _ _ _) rfl rfl rfl A_26.out (by simp) ?_; intro w27 hB hO hL hZ hG; have A_27 := Lib.hid hB; have HL27 := Lib.hid (OW.grown_keep HL26.out hG (fun g e => by injection e with e; omega)); have HS27 := Lib.hid (GO.kept HS26.out hG (own_not HS26.out.own_ge (by omega))); have HB27 := Lib.hid (hL _ _ HB26.out (by omega)); have hz27 := hZ; clear hB hO hL hZ hG hcA hfA; simp at A_27; have hcA := A_27.out.cells; have hfA := A_27.out.fro)
          | (refine wpList_storeBK3 (j := 7) (store32D _ _ _) rfl rfl rfl A_27.out (by simp) ?_; intro w28 hB hO hL hZ hG; have A_28 := Lib.hid hB; have HL28 := Lib.hid (OW.grown_keep HL27.out hG (fun g e => by injection e with e; omega)); have HS28 := Lib.hid (GO.kept HS27.out hG (own_not HS27.out.own_ge (by omega))); have HB28 := Lib.hid (hL _ _ HB27.out (by omega)); have hz28 := hZ; clear hB hO hL hZ hG hcA hfA; simp at A_28; have hcA := A_28.out.cells; have hfA := A_28.out.fro))
                clear hcA hfA
                clear hc60 A_26 A_27 HL26 HL27 HS26 HS27 HB26 HB27
                have hu1 := i_TrendRun tl tv ta tb tc tn 1048576000 1048576000 r0 r1 r2 r3 r4 r5 (by omega) (by omega) _ (lineL x1 x2 60) _ (List.replicate 60 true) w28 HL28.out.sb HS28.out.gl
                obtain ⟨c0, c1, c2, c3, c4, c5, c6, c7⟩ := HC.out
                rw [c0, c1, c2, c3, c4, c5, show cn .f32 1048576000 = 1048576000 from quarter_qv.cnT, hfq] at hu1
                refine hu1.mono ?_
                clear hu1 c0 c1 c2 c3 c4 c5 c6 c7 hfq
                rintro z w29 ⟨⟨l0, l1, l2, l3, l4, l5, l6, l7, vl, bl, rfl, hlT, hol, rfl, hl8⟩, hb⟩
                have e0 := (List.cons.inj hlT).1
                have e1 := (List.cons.inj (List.cons.inj hlT).2).1
                have e0 := cn32_raw e0 SN.out.1
                have e1 := cn32_raw e1 SN.out.2.1
                subst e0
                subst e1
                clear hlT hl8
                have HB29 := Lib.hid (HB28.out.trans (hb.mono HB28.out.size))
                have HL29 := Lib.hid (HL28.out.keep hb)
                have hz29 := hb.size
                clear hb hol A_28 HL28 HS28 HB28
                go_wp2_with (refine wpList_storeAgg (us := [.float .f32 l0, .float .f32 l1, .float .f32 l2, .float .f32 l3, .float .f32 l4, .float .f32 l5, .float .f32 l6, .float .f32 l7]) (storeTrD _ _ _ _ _ _ _ _ _ _) rfl rfl (by simp [Value.oneCell']) (BK.new _ _ _) (by simp) ?_; intro w30 hB hO hL hZ hG; have HX30 := Lib.hid (hL _ _ (Below.alloc (Below.refl w29.heap.size w29) (Nat.le_refl _) _) (Nat.le_refl _)); have M_30 := Lib.hid hB; clear hB hO hL hG hZ; simp [setsAt] at M_30)
                have HB30 := Lib.hid (HB29.out.trans (HX30.out.mono HB29.out.size))
                obtain ⟨av1, cc1, hv1, -, -, hget1⟩ := (HL29.out.keep HX30.out).sb.get (lineL_length x1 x2 60)
                obtain ⟨ib, io, ru, hao1, hbl1, hc1, hr1, hcr1⟩ := hget1 59 (by omega)
                obtain rfl : lo = some ⟨ib, io, none⟩ := by injection hv1 with q1; rw [q1]; exact hao1
                have hru : ru = lineW x1 x2 59 := cn32_raw (hcr1.trans (lineL_get x1 x2 (by omega))) (lineW_qv hx1 hx2 (by omega)).notNaN
                rw [← hru] at SN SG
                have hrun : (S.read ru).isNaN = false := by rw [hru]; exact (lineW_qv hx1 hx2 (by omega)).notNaN
                have hrsn : (S.read rs).isNaN = false := by rw [HRS.out]; exact (slope_qv hx2).notNaN
                obtain ⟨sn1, sn2, sn3, sn4, sn5, sn6, sn7, sn8⟩ := SN.out
                obtain ⟨hgo1, hgo2⟩ := SG.out
                have RC1 := fun w => run_wdx (P := Try.prog) w 33 45 l1 (by kernel_rfl) (by kernel_rfl) sn2
                have RC2 := fun w => run_wdx (P := Try.prog) w 33 45 rs (by kernel_rfl) (by kernel_rfl) hrsn
                have RC3 := fun w => run_wdx (P := Try.prog) w 33 45 l0 (by kernel_rfl) (by kernel_rfl) sn1
                have RC4 := fun w => run_wdx (P := Try.prog) w 33 45 ru (by kernel_rfl) (by kernel_rfl) hrun
                have hg1 := fun w => l_b10GapQ (wd l1) (wd rs) sn4 sn5 sn7 w
                have hg2 := fun w => l_b10GapQ (wd l0) (wd ru) sn3 sn6 sn8 w
                clear sn1 sn2 sn3 sn4 sn5 sn6 sn7 sn8 SN SG hrsn hrun hru hao1 hv1 hget1 hr1 hcr1 av1 cc1
                generalize gapF (wd l1) (wd rs) = gg1 at hg1 hgo1
                generalize gapF (wd l0) (wd ru) = gg2 at hg2 hgo2
                generalize wd l1 = d1 at hg1 RC1
                generalize wd rs = d2 at hg1 RC2
                generalize wd l0 = d3 at hg2 RC3
                generalize wd ru = d4 at hg2 RC4
                have HG1 := Lib.hid hg1
                have HG2 := Lib.hid hg2
                clear hg1 hg2
                have hcM := M_30.out.cells; have hfM := M_30.out.fro
                go_wp2_with fail
                go_quiet ((go_at_call 29; first | with_reducible exact quiet_dr (HG1.out _) | with_reducible exact quiet_dr2 (HG1.out _) | with_reducible exact quiet_dr (HG2.out _) | with_reducible exact quiet_dr2 (HG2.out _)))
                go_wp2_with fail
                go_ret
                exact ⟨rfl, by first | exact HB30.out | exact below_drewN HB30.out _⟩
set_option maxRecDepth 100000 in
theorem FnTrends_lifted (os : Os) (started : os.Started) (H : Type) (enc : TypeId × Value → H) :
    ReturnsInHanded {} Try.checked os 4 .any (Rows.fnTrendsSpec.pre6 enc Try.prog Try.f4 Rows.fnTrendsRow.domain false) (Rows.fnTrendsSpec.post enc Try.prog Try.f4 false true false false) := by
  refine returnsInHanded_of_change (C := Try.checked) own started (by kernel_rfl) Try.func4
    (ChangeSpec.witness6 (enc := enc) (C := Try.checked) false ⟨#[], #[.slice none 0 0, .slice none 0 0], []⟩ 8 (by kernel_rfl) (by kernel_rfl) (by kernel_rfl) (by kernel_rfl)) ?_
  intro W base args ds gs before hval0 hW hcnd _
  have hval : ∀ (j : Nat) t v, Try.f4.params[j]? = some t → args[j]? = some v → Value.okWide Try.prog W .any base t v := hval0
  have hW' := hW
  obtain ⟨p, q, hA0, hV, rfl, hfz, hnd⟩ := hW
  have hA : DataW.TrodAll enc Try.prog W 0 (fun _ => true) true Try.f4.params.toList args.toList ds p := hA0
  rw [Try.params4] at hA hval
  obtain ⟨v0, vs0, d0, ds0, p0, q0, hargs, rfl, rfl, h0, r0⟩ := trodAll_cons hA
  obtain ⟨v1, vs1, d1, ds1, p1, q1, rfl, rfl, rfl, h1, r1⟩ := trodAll_cons r0
  obtain ⟨rfl, rfl, rfl⟩ := trodAll_nil r1
  obtain rfl : args = #[v0, v1] := by cases args; simp_all
  obtain ⟨rfl, rfl⟩ := trodVars_none hV
  have k0 := h0
  have lt0 : ∀ x ∈ p0, x.block < W.heap.size := by obtain ⟨m, hm⟩ := k0; exact DataW.trod_lt m _ _ _ hm
  have k1 := h1
  have lt1 : ∀ x ∈ p1, x.block < W.heap.size := by obtain ⟨m, hm⟩ := k1; exact DataW.trod_lt m _ _ _ hm
  obtain ⟨b0, ln0, cp0, rfl⟩ := okWide_slice Try.underlying22 (hval 0 22 v0 rfl rfl)
  obtain ⟨c0, hc0⟩ : ∃ cs, GL (Value.int .u8) W (.slice b0 ln0 cp0) cs ∧ allU8 cs := by obtain ⟨fuel, hfu⟩ := h0; exact open_u8s Try.underlying22 Try.underlying5 (by kernel_rfl) hfu
  obtain ⟨b1, ln1, cp1, rfl⟩ := okWide_slice Try.underlying22 (hval 1 22 v1 rfl rfl)
  obtain ⟨c1, hc1⟩ : ∃ cs, GL (Value.int .u8) W (.slice b1 ln1 cp1) cs ∧ allU8 cs := by obtain ⟨fuel, hfu⟩ := h1; exact open_u8s Try.underlying22 Try.underlying5 (by kernel_rfl) hfu
  clear hA0 hval0
  refine (FnTrends_walk (w := W) _ c0 hc0.1 hc0.2 _ c1 hc1.1 hc1.2).mono fun e W' ⟨he, bel⟩ => ?_
  subst he
  exact ⟨_, rfl, _, _, _, [], _, [], hW', trodAll_mk1 (shut_bool Try.underlying4 _), (trodAll_cons_mk (Below.trod laidOut (by kernel_rfl) (of_decide_eq_true (by kernel_rfl)) k0 bel lt0) (trodAll_cons_mk (Below.trod laidOut (by kernel_rfl) (of_decide_eq_true (by kernel_rfl)) k1 bel lt1) trodAll_mk0)), rfl, bel.frame _, fun h => by cases h⟩

theorem fnTrends_holds : Rows.FnTrendsSaid :=
  OpenClaim.holds_of_wide 4 Try.f4 rfl rfl rfl rfl rfl rfl rfl ⟨rfl, rfl, rfl, rfl, rfl⟩ rfl rfl rfl rfl rfl (by kernel_rfl) Try.func4 (by kernel_rfl)
    (of_decide_eq_true (by kernel_rfl)) (by unfold Func.isWrapper; first | (rw [if_pos (by decide +kernel)]; kernel_rfl) | (rw [if_neg (by decide +kernel)]; exact ⟨rfl, rfl⟩))
    (fun os started H enc _ => FnTrends_lifted os started H enc)

end Go.Proofs.Ytkkomajokdlkeaa
