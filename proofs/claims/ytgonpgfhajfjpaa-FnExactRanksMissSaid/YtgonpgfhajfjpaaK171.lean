/- Contracts: misses by their roots, by the reference. -/
import Derived.Test.YtgonpgfhajfjpaaK173
import Derived.Test.YtgonpgfhajfjpaaK8
namespace Go.Proofs.Ytgonpgfhajfjpaa
set_option linter.unusedSimpArgs false
set_option linter.unusedVariables false
set_option maxRecDepth 100000
set_option maxHeartbeats 4000000
open Go.RowKit
attribute [local go_sem] run_store_float run_store_complex alloc_drewN setCell_drewN

theorem s_l06Two (u v : Value) (cs ds : List Nat) (w : World) (hu : SL w u cs) (hv : SL w v ds) :
    Calls Try.prog 18 #[u, v] w fun e w' => e = .returned (.bool (twoOk cs ds)) ∧ Dr w w' := by
  obtain ⟨ao, c, rfl, -⟩ := hu.slice
  obtain ⟨bo, d, rfl, -⟩ := hv.slice
  have HU := Lib.hid hu
  have HV := Lib.hid hv
  clear hu hv
  cases h1 : series cs
  all_goals
    have H1 := Lib.hid h1
    clear h1
    cases h2 : series ds
    all_goals
      have H2 := Lib.hid h2
      clear h2
      rcases Nat.decEq cs.length ds.length with hl | hl
      all_goals
        have HL := Lib.hid hl
        have hl2 : ((cs.length : Int) == (ds.length : Int)) = decide (cs.length = ds.length) := by
          by_cases h : cs.length = ds.length
          · rw [decide_eq_true h]; simp; omega
          · rw [decide_eq_false h]; simp; omega
        have HQ := Lib.hid (show twoOk cs ds = (series cs && series ds && decide (cs.length = ds.length)) from rfl)
        clear hl
        go_enter Try.func18, Try.ntmps18
        go_wp2_with fail
        refine (s_l02Series _ cs _ HU.out).mono ?_; rintro e w1 ⟨rfl, n1, rfl⟩
        rw [H1.out]
        go_wp2_with fail
        first
          | (go_ret; exact ⟨ret_bool (by rw [HQ.out, H1.out]; rfl), Dr.mk _ _⟩)
          | (refine (s_l02Series _ ds _ (HV.out.drewN _)).mono ?_; rintro e w2 ⟨rfl, n2, rfl⟩
             rw [H2.out]
             go_wp2_with fail
             go_ret
             exact ⟨ret_bool (by rw [HQ.out, H1.out, H2.out]; first | rfl | (simp [HL.out]; done) | (simp; done) | (have := HL.out; simp [this])), Dr.mk _ _⟩)

theorem f32sOf : F32s Try.prog 23 37 := f32s_of Try.underlying23 (by kernel_rfl)
theorem s_l02Off (u v : Value) (cs ds : List Nat) (w : World) (hu : SB w u cs) (hv : SB w v ds) (hl : cs.length = ds.length) (hn : cs.length ≤ 96) (hfc : allFin cs = true) (hfd : allFin ds = true) :
    Calls Try.prog 28 #[u, v] w fun e w' => (∃ r, e = .returned r ∧ OW 37 w.heap.size w' r (lessL cs ds cs.length)) ∧ Below w.heap.size w w' := by
  obtain ⟨ao, c, rfl, hc1, hc2, hget⟩ := hu.get rfl
  obtain ⟨bo, d, rfl, hd1, hd2, hget2⟩ := hv.get hl.symm
  have HG := Lib.hid hget
  have HG2 := Lib.hid hget2
  have HFC := Lib.hid hfc
  have HFD := Lib.hid hfd
  clear hget hget2 hl hfc hfd
  go_enter Try.func28, Try.ntmps28
  go_wp2_with fail
  go_loopw [5, 6] (fun v i wr => ∃ k : Nat, k ≤ cs.length ∧ i = .int .i64 (k : Int) ∧ Hid (OW 37 w.heap.size wr v (lessL cs ds k)) ∧ Below w.heap.size w wr) (fun _ i _ => cs.length - (intOf i).toNat)
  case atStart => exact ⟨0, Nat.zero_le _, rfl, (by show OW _ _ _ _ _; exact OW.empty _ _ rfl (Nat.le_refl _)), by (repeat (first | exact Below.refl _ _ | assumption | refine below_drewN ?_ _ | refine Below.drew ?_ | refine Below.alloc ?_ (by first | omega | (simp; omega) | (simp; done) | (simp at *; omega)) _ | refine Below.setCell ?_ (by first | omega | (simp; omega) | (simp; done) | (simp at *; omega)) _ | refine Below.trans ?_ (Below.mono (by assumption) (by first | omega | (simp; omega) | (simp; done) | (simp at *; omega)))))⟩
  case round =>
    obtain ⟨k, hk, rfl, HO, hb⟩ := hrel
    have hz := hb.size
    by_cases hlt : k < cs.length
    · obtain ⟨b, off, x, rfl, hbl, hc, hx, hcx⟩ := HG.out k hlt
      have hc' := (hb.cell (p := ⟨b, off + k, none⟩) hbl).trans hc
      obtain ⟨b2, off2, y, rfl, hbl2, hd, hy, hcy⟩ := HG2.out k hlt
      have hd' := (hb.cell (p := ⟨b2, off2 + k, none⟩) hbl2).trans hd
      have hD := subF_notNaN (fin_getD HFC.out k) (fin_getD HFD.out k)
      have RUN := fun t w => run_arx (P := Try.prog) .sub x y (subF (cs.getD k 0) (ds.getD k 0)) (by rw [hcx, hcy]; rfl) hD t w
      have HDL := Lib.hid (show subF (cs.getD k 0) (ds.getD k 0) < 4294967296 from ar_lt _ _ _)
      have HDN := Lib.hid (cn_of_not (k := .f32) hD)
      have HLS := Lib.hid (lessL_succ cs ds k)
      have HL := Lib.hid (show (lessL cs ds k).length < 1099511627776 by rw [lessL_length]; omega)
      generalize subF (cs.getD k 0) (ds.getD k 0) = D at *
      clear hc hd hcx hcy hD
      go_wp2_with fail
      go_region_law (first
        | (refine step_app1 f32sOf w.heap.size u5 _ rfl (by first | exact OW.drewN (OW.alloc HO.out _) _ | exact OW.alloc HO.out _ | exact OW.drewN (OW.alloc (OW.drew HO.out) _) _ | exact OW.alloc (OW.drew HO.out) _) _ D rfl (by simp; done) HDL.out HL.out (by simp; omega) ?_; intro v' w' ho' hg'; have HO' := Lib.hid ho'; clear ho'))
      all_goals
        go_wp2_with fail
        refine ⟨⟨k + 1, by omega, by go_num, ?_, ?_⟩, by simp [intOf]; omega⟩
        · show OW _ _ _ _ _
          have h1 := HO'.out
          rw [HDN.out, ← HLS.out] at h1
          exact h1
        · refine below_of_grown ?_ hg' (by first | omega | (simp; done) | (simp; omega)) HO.out.own_ge
          (repeat (first | exact Below.refl _ _ | assumption | refine below_drewN ?_ _ | refine Below.drew ?_ | refine Below.alloc ?_ (by first | omega | (simp; omega) | (simp; done) | (simp at *; omega)) _ | refine Below.setCell ?_ (by first | omega | (simp; omega) | (simp; done) | (simp at *; omega)) _ | refine Below.trans ?_ (Below.mono (by assumption) (by first | omega | (simp; omega) | (simp; done) | (simp at *; omega)))))
    · go_wp2_with fail
      go_ret
      obtain rfl : k = cs.length := by omega
      exact ⟨⟨_, rfl, HO.out⟩, hb⟩

theorem s_l02DotSq (v : Value) (cs : List Nat) (f : Nat → Nat) (w : World) (hv : SB w v cs) (hf : ∀ i, i < cs.length → cs.getD i 0 = f i ∧ (S.read (f i)).isNaN = false) :
    Calls Try.prog 30 #[v, v] w fun e w' => e = .returned (.float .f32 (sqsL f cs.length)) ∧ Dr w w' := by
  obtain ⟨ao, c, rfl, hc1, hc2, hget⟩ := hv.get rfl
  have HG := Lib.hid hget
  have HF := Lib.hid hf
  have HPS := Lib.hid (sqs_pos (f := f) (n := cs.length) (fun i hi => (hf i hi).2))
  clear hget hf hv
  go_enter Try.func30, Try.ntmps30
  go_wp2_with fail
  go_loopw [5, 6] (fun s i wr => ∃ k : Nat, k ≤ cs.length ∧ i = .int .i64 (k : Int) ∧ s = .float .f32 (sqsL f k) ∧ ∃ d, wr = w.drewN d) (fun _ i _ => cs.length - (intOf i).toNat)
  case atStart => exact ⟨0, Nat.zero_le _, rfl, rfl, 0, rfl⟩
  case round =>
    obtain ⟨k, hk, rfl, rfl, dn, rfl⟩ := hrel
    by_cases hlt : k < cs.length
    · obtain ⟨b, off, x, rfl, hbl, hc, hx, hcx⟩ := HG.out k hlt
      obtain ⟨hfk, hfn⟩ := HF.out k hlt
      rw [hfk] at hcx
      obtain rfl : x = f k := cn32_raw hcx hfn
      have hq := sq_pos hfn
      have hs := HPS.out k (by omega)
      have hs1 := HPS.out (k + 1) (by omega)
      have RUN1 := fun t w => run_arx (P := Try.prog) .mul (f k) (f k) (mulF (f k) (f k)) (by rw [hcx]; rfl) hq.notNaN t w
      have RUN2 := fun t w => run_arx (P := Try.prog) .add (sqsL f k) (mulF (f k) (f k)) (sqsL f (k + 1)) (by rw [cn_of_not (k := .f32) hs.notNaN, cn_of_not (k := .f32) hq.notNaN]; rfl) hs1.notNaN t w
      generalize hS1 : sqsL f (k + 1) = s1 at *
      have HS1 := Lib.hid hS1
      generalize sqsL f k = s0 at *
      generalize mulF (f k) (f k) = qq at *
      clear hfk hfn hcx hq hs hs1 hS1
      generalize f k = xx at *
      go_wp2_with fail
      go_quiet (fail)
      go_wp2_with fail
      exact ⟨⟨k + 1, by omega, by go_num, by rw [HS1.out], _, rfl⟩, by simp [intOf]; omega⟩
    · go_wp2_with fail
      go_ret
      obtain rfl : k = cs.length := by omega
      exact ⟨rfl, _, rfl⟩

theorem s_l06Root (u v : Value) (cs ds : List Nat) (w : World) (hu : SB w u cs) (hv : SB w v ds) (hok : twoOk cs ds = true) :
    Calls Try.prog 19 #[u, v] w fun e w' => (∃ r, e = .returned (.float .f32 r) ∧ r < 4294967296 ∧ cn .f32 r = rootF (msMean cs ds)) ∧ Below w.heap.size w w' := by
  obtain ⟨hl, hn96, hn1⟩ := two_len hok
  have hfin : allFin cs = true ∧ allFin ds = true := by
    simp only [twoOk, series, Bool.and_eq_true] at hok
    exact ⟨hok.1.1.2, hok.1.2.2⟩
  have hoff := s_l02Off u v cs ds w hu hv hl hn96 hfin.1 hfin.2
  have HF := Lib.hid hfin
  have HOF := Lib.hid hoff
  have HMS := Lib.hid (show msMean cs ds = divF (sqsL (fun i => subF (cs.getD i 0) (ds.getD i 0)) cs.length) (fI cs.length) from rfl)
  have HPS := Lib.hid (sqs_pos (f := fun i => subF (cs.getD i 0) (ds.getD i 0)) (n := cs.length) (fun i _ => subF_notNaN (fin_getD HF.out.1 i) (fin_getD HF.out.2 i)) cs.length (Nat.le_refl _))
  clear hu hv hok hl hoff hfin
  go_enter Try.func19, Try.ntmps19
  go_wp2_with fail
  refine HOF.out.mono ?_; rintro e w1 ⟨⟨r, rfl, ho⟩, hb⟩
  obtain ⟨ao, c, hr, -⟩ := ho.sb.sl.slice
  rw [lessL_length] at hr
  subst hr
  have HO := Lib.hid ho
  have HLL := Lib.hid (lessL_length cs ds cs.length)
  clear ho
  go_wp2_with fail
  refine (s_l02DotSq _ (lessL cs ds cs.length) (fun i => subF (cs.getD i 0) (ds.getD i 0)) _ HO.out.sb (fun i hi => by rw [HLL.out] at hi; exact ⟨lessL_get cs ds hi, subF_notNaN (fin_getD HF.out.1 i) (fin_getD HF.out.2 i)⟩)).mono ?_; rintro e w2 ⟨rfl, n2, rfl⟩
  rw [HLL.out]
  have HSN := Lib.hid (cn_of_not (k := .f32) HPS.out.notNaN)
  generalize sqsL (fun i => subF (cs.getD i 0) (ds.getD i 0)) cs.length = s0 at *
  go_wp2_with (first | (refine wpList_ar .f32 _ _ rfl rfl rfl ?_; intro r1 n1 hr1 hlt1))
  rw [HSN.out, show cn .f32 (floatOfInt .f32 (cs.length : Int)) = fI cs.length from cn_fI _] at hr1
  have HR1 := Lib.hid hr1
  clear hr1
  refine (s_l01Sqrt r1 _).mono ?_; rintro e w3 ⟨⟨r2, rfl, hr2, hcr2⟩, n3, rfl⟩
  have HR2 := Lib.hid hcr2
  clear hcr2
  go_wp2_with fail
  go_ret
  refine ⟨⟨_, rfl, hr2, ?_⟩, by (repeat (first | with_reducible exact Below.refl _ _ | with_reducible assumption | with_reducible refine below_drewN ?_ _ | with_reducible refine Below.drew ?_ | with_reducible refine Below.alloc ?_ (by first | omega | (simp; omega) | (simp; done) | (simp at *; omega)) _ | with_reducible refine Below.setCell ?_ (by first | omega | (simp; omega) | (simp; done) | (simp at *; omega)) _ | refine Below.trans ?_ (Below.mono (by with_reducible assumption) (by first | omega | (simp; omega) | (simp; done) | (simp at *; omega)))))⟩
  rw [HR2.out, HR1.out, HMS.out]
  rfl
theorem ways_no {css : List (List Nat)} {k : Nat} (hk : k < css.length) (h : twoOk (rowL css k) (headL css) = false) : waysOk css = false := by
  have : (css.all fun c => twoOk c (headL css)) = false := by
    rw [List.all_eq_false]
    refine ⟨css[k], List.getElem_mem hk, ?_⟩
    have e : rowL css k = css[k] := by unfold rowL; simp [hk]
    rw [← e, h]; decide
  rw [waysOk, this, Bool.and_false]
theorem ways_yes {css : List (List Nat)} (h1 : 1 ≤ css.length) (h2 : css.length ≤ 8) (h : ∀ i, i < css.length → twoOk (rowL css i) (headL css) = true) : waysOk css = true := by
  have : (css.all fun c => twoOk c (headL css)) = true := by
    rw [List.all_eq_true]
    intro c hc
    obtain ⟨i, hi, rfl⟩ := List.getElem_of_mem hc
    have e : rowL css i = css[i] := by unfold rowL; simp [hi]
    rw [← e]; exact h i hi
  rw [waysOk, this, decide_eq_true h1, decide_eq_true h2]; rfl

theorem s_l06Lists (v : Value) (css : List (List Nat)) (w : World) (hv : SS w v css) :
    Calls Try.prog 17 #[v] w fun e w' => e = .returned (.bool (waysOk css)) ∧ Dr w w' := by
  obtain ⟨ao, c, rfl, hc1, hc2, hget⟩ := hv.get rfl
  have HG := Lib.hid hget
  clear hget hv
  by_cases h1 : 1 ≤ css.length
  · by_cases h2 : css.length ≤ 8
    · go_enter Try.func17, Try.ntmps17
      go_wp2_with fail
      go_loopw [3] (fun i wr => ∃ k : Nat, k ≤ css.length ∧ i = .int .i64 k ∧ Hid (∀ i, i < k → twoOk (rowL css i) (headL css) = true) ∧ ∃ d, wr = w.drewN d) (fun i _ => css.length - (intOf i).toNat)
      case atStart => exact ⟨0, Nat.zero_le _, rfl, (by intro i hi; omega), 0, rfl⟩
      case round =>
        obtain ⟨k, hk, rfl, H1, d, rfl⟩ := hrel
        by_cases hlt : k < css.length
        · obtain ⟨b, off, u, rfl, hbl, hc, hs⟩ := HG.out k hlt
          obtain ⟨b0, off0, u0, e0, hbl0, hc0, hs0⟩ := HG.out 0 (by omega)
          simp only [Option.some.injEq, Addr.mk.injEq, and_true] at e0
          obtain ⟨rfl, rfl⟩ := e0
          rw [Nat.add_zero] at hc0
          have hs : SB w u (rowL css k) := hs
          have hs0 : SB w u0 (headL css) := hs0
          obtain ⟨ak, ck, rfl, hlk⟩ := hs.sl.slice
          obtain ⟨a0, c0, rfl, hl0⟩ := hs0.sl.slice
          have HSK := Lib.hid hs
          have HS0 := Lib.hid hs0
          clear hs hs0
          have h00 : (0 : Int) < (css.length : Int) := by omega
          cases hp : twoOk (rowL css k) (headL css)
          all_goals
            have HP := Lib.hid hp
            have HQ := Lib.hid (fun n => s_l06Two _ _ (rowL css k) (headL css) (w.drewN n) (HSK.out.drewN n).sl (HS0.out.drewN n).sl)
            rw [hp] at HQ
            clear hp
            go_wp2_with fail
            go_quiet ((go_at_call 18; first | exact quiet_dr (HQ.out _) | exact quiet_dr2 (HQ.out _)))
            go_wp2_with fail
          · go_ret
            exact ⟨ret_bool (ways_no hlt HP.out).symm, by first | exact ⟨_, rfl⟩ | exact ⟨_, (World.drewN_drewN ..).symm⟩⟩
          · refine ⟨⟨k + 1, by omega, by go_num, ?_, by first | exact ⟨_, rfl⟩ | exact ⟨_, (World.drewN_drewN ..).symm⟩⟩, by simp [intOf]; omega⟩
            intro i hi
            rcases Nat.lt_or_ge i k with h | h
            · exact H1.out i h
            · obtain rfl : i = k := by omega
              exact HP.out
        · go_wp2_with fail
          go_ret
          obtain rfl : k = css.length := by omega
          exact ⟨ret_bool (ways_yes h1 h2 H1.out).symm, _, rfl⟩
    · have HL := Lib.hid (show waysOk css = false by simp [waysOk, h2])
      go_enter Try.func17, Try.ntmps17
      go_wp2_with fail
      go_ret
      exact ⟨ret_bool (by rw [HL.out]), Dr.refl _⟩
  · have HL := Lib.hid (show waysOk css = false by simp [waysOk, h1])
    go_enter Try.func17, Try.ntmps17
    go_wp2_with fail
    go_ret
    exact ⟨ret_bool (by rw [HL.out]), Dr.refl _⟩

end Go.Proofs.Ytgonpgfhajfjpaa
