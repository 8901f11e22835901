/- Contracts: series of mean 0 and spread 1. -/
import Derived.Test.YtkkomajokdlkeaaQ18
namespace Go.Proofs.Ytkkomajokdlkeaa
set_option linter.unusedSimpArgs false
set_option linter.unusedVariables false
set_option maxRecDepth 100000
set_option maxHeartbeats 4000000
open Go.RowKit
attribute [local go_sem] run_store_float run_store_complex alloc_drewN setCell_drewN

def restL (cs : List Nat) (m : Nat) (n : Nat) : List Nat := (List.range n).map fun i => subF (cs.getD i 0) m
theorem restL_length (cs : List Nat) (m n : Nat) : (restL cs m n).length = n := by simp [restL]
theorem restL_succ (cs : List Nat) (m n : Nat) : restL cs m (n + 1) = restL cs m n ++ [subF (cs.getD n 0) m] := by simp [restL, List.range_succ]
theorem restL_get (cs : List Nat) (m : Nat) {n i : Nat} (h : i < n) : (restL cs m n).getD i 0 = subF (cs.getD i 0) m := by
  simp [restL, List.getD_eq_getElem?_getD, List.getElem?_map, List.getElem?_range h]
def normRoot (cs : List Nat) : Nat := rootF (divF (sqsL (fun i => subF (cs.getD i 0) (meanL cs)) cs.length) (fI cs.length))
def normL (cs : List Nat) (n : Nat) : List Nat := (List.range n).map fun i => divF (subF (cs.getD i 0) (meanL cs)) (normRoot cs)
theorem normL_length (cs : List Nat) (n : Nat) : (normL cs n).length = n := by simp [normL]
theorem normL_succ (cs : List Nat) (n : Nat) : normL cs (n + 1) = normL cs n ++ [divF (subF (cs.getD n 0) (meanL cs)) (normRoot cs)] := by simp [normL, List.range_succ]
/-- A series about 0, whatever is finite. -/
def rawQ (cs : List Nat) : List Nat × Bool := if above (normRoot cs) then (normL cs cs.length, allFin (normL cs cs.length)) else ([], false)
def normQ (cs : List Nat) : List Nat × Bool := if series cs && above (normRoot cs) then given (normL cs cs.length) else ([], false)
theorem normQ_short (cs : List Nat) : (normQ cs).1.length < 1000000 := by
  unfold normQ
  split
  · rename_i h
    simp only [Bool.and_eq_true] at h
    have := (series_len h.1).2
    unfold given
    dsimp only
    split
    · rw [normL_length]; omega
    · simp
  · simp
theorem dot_rest (cs : List Nat) : dotL (restL cs (meanL cs) cs.length) (restL cs (meanL cs) cs.length) cs.length = sqsL (fun i => subF (cs.getD i 0) (meanL cs)) cs.length :=
  dot_sqs cs.length (fun i hi => restL_get cs (meanL cs) hi)
theorem set_norm (cs : List Nat) {k : Nat} (hk : k < cs.length) : (normL cs k ++ (restL cs (meanL cs) cs.length).drop k).set k (divF (subF (cs.getD k 0) (meanL cs)) (normRoot cs)) = normL cs (k + 1) ++ (restL cs (meanL cs) cs.length).drop (k + 1) := by
  rw [List.set_append_right _ _ (by rw [normL_length]; exact Nat.le_refl _), normL_length, Nat.sub_self, normL_succ, List.append_assoc]
  rw [List.drop_eq_getElem_cons (by rw [restL_length]; exact hk)]
  rfl
theorem get_norm (cs : List Nat) {k : Nat} (hk : k < cs.length) : (normL cs k ++ (restL cs (meanL cs) cs.length).drop k).getD k 0 = subF (cs.getD k 0) (meanL cs) := by
  rw [List.getD_eq_getElem?_getD, List.getElem?_append_right (by rw [normL_length]; exact Nat.le_refl _), normL_length, Nat.sub_self, List.getElem?_drop, Nat.add_zero, ← List.getD_eq_getElem?_getD, restL_get cs _ hk]


theorem i_lessOne (u : Value) (cs : List Nat) (m : Nat) (w : World) (hu : SB w u cs) (hn : cs.length ≤ 96) :
    Calls Try.prog 95 #[u, .float .f32 m] w fun e w' => (∃ r, e = .returned r ∧ OW 33 w.heap.size w' r (restL cs (cn .f32 m) cs.length)) ∧ Below w.heap.size w w' := by
  obtain ⟨ao, c, rfl, hc1, hc2, hget⟩ := hu.get rfl
  have HG := Lib.hid hget
  clear hget
  go_enter Try.func95, Try.ntmps95
  go_wp2_with fail
  go_loopw [5, 11] (fun v i wr => ∃ k : Nat, k ≤ cs.length ∧ i = .int .i64 (k : Int) ∧ Hid (OW 33 w.heap.size wr v (restL cs (cn .f32 m) k)) ∧ Below w.heap.size w wr) (fun _ i _ => cs.length - (intOf i).toNat)
  case atStart => exact ⟨0, Nat.zero_le _, rfl, (by show OW _ _ _ _ _; exact OW.empty _ _ rfl (Nat.le_refl _)), by (repeat (first | exact Below.refl _ _ | assumption | refine below_drewN ?_ _ | refine Below.drew ?_ | refine Below.alloc ?_ (by first | omega | (simp; omega) | (simp; done) | (simp at *; omega)) _ | refine Below.setCell ?_ (by first | omega | (simp; omega) | (simp; done) | (simp at *; omega)) _ | refine Below.trans ?_ (Below.mono (by assumption) (by first | omega | (simp; omega) | (simp; done) | (simp at *; omega)))))⟩
  case round =>
    obtain ⟨k, hk, rfl, HO, hb⟩ := hrel
    have hz := hb.size
    by_cases hlt : k < cs.length
    · obtain ⟨b, off, x, rfl, hbl, hc, hx, hcx⟩ := HG.out k hlt
      have hc' := (hb.cell (p := ⟨b, off + k, none⟩) hbl).trans hc
      have HX := Lib.hid hcx
      have HL := Lib.hid (show (restL cs (cn .f32 m) k).length < 1099511627776 by rw [restL_length]; omega)
      clear hc hcx
      go_wp2_with (first
        | (refine wpList_ar .f32 _ _ rfl rfl rfl ?_; intro r n hr hlt1)
        | (at_builtin; refine wpList_app1 f32s w.heap.size u5 _ rfl (by first | exact OW.drewN (OW.alloc HO.out _) _ | exact OW.alloc HO.out _) _ r rfl (by simp; done) hlt1 HL.out (by simp; omega) ?_; intro v' w' ho' hg'; have HO' := Lib.hid ho'; clear ho'))
      refine ⟨⟨k + 1, by omega, by go_num, ?_, ?_⟩, by simp [intOf]; omega⟩
      · show OW _ _ _ _ _
        have h1 := HO'.out
        rw [hr, HX.out] at h1
        rw [restL_succ]
        exact h1
      · refine below_of_grown ?_ hg' (by simp; omega) HO.out.own_ge
        (repeat (first | exact Below.refl _ _ | assumption | refine below_drewN ?_ _ | refine Below.drew ?_ | refine Below.alloc ?_ (by first | omega | (simp; omega) | (simp; done) | (simp at *; omega)) _ | refine Below.setCell ?_ (by first | omega | (simp; omega) | (simp; done) | (simp at *; omega)) _ | refine Below.trans ?_ (Below.mono (by assumption) (by first | omega | (simp; omega) | (simp; done) | (simp at *; omega)))))
    · go_wp2_with fail
      go_ret
      obtain rfl : k = cs.length := by omega
      exact ⟨⟨_, rfl, HO.out⟩, hb⟩

theorem i_NormShape (v : Value) (cs : List Nat) (w : World) (hv : SB w v cs) :
    Calls Try.prog 36 #[v] w fun z w' => LB 33 w.heap.size w' z (normQ cs) ∧ Below w.heap.size w w' := by
  have HV := Lib.hid hv
  obtain ⟨ao, c, rfl, hcap, hlen⟩ := hv.sl.slice2
  clear hv
  cases hs : series cs
  · have HS := Lib.hid hs
    clear hs
    go_enter Try.func36, Try.ntmps36
    go_wp2_with (go_at_call 60; refine (i_IsSeries _ cs _ HV.out.sl).mono ?_; rintro e w1 ⟨rfl, n1, rfl⟩; rw [HS.out])
    go_ret2
    exact ⟨LB.no _ _ _ (by rw [normQ, HS.out]; rfl), by (repeat (first | exact Below.refl _ _ | assumption | refine below_drewN ?_ _ | refine Below.drew ?_ | refine Below.alloc ?_ (by first | omega | (simp; omega) | (simp; done) | (simp at *; omega)) _ | refine Below.setCell ?_ (by first | omega | (simp; omega) | (simp; done) | (simp at *; omega)) _ | refine Below.trans ?_ (Below.mono (by assumption) (by first | omega | (simp; omega) | (simp; done) | (simp at *; omega)))))⟩
  · have hl := series_len hs
    have HS := Lib.hid hs
    clear hs
    cases ha : above (normRoot cs)
    all_goals
      have HA := Lib.hid ha
      clear ha
      go_enter Try.func36, Try.ntmps36
      go_wp2_with (first
        | (go_at_call 60; refine (i_IsSeries _ cs _ HV.out.sl).mono ?_; rintro e w1 ⟨rfl, n1, rfl⟩; rw [HS.out])
        | (go_at_call 75; refine (i_mean _ cs _ (HV.out.sl.drewN _)).mono ?_; rintro e w2 ⟨⟨rm, rfl, hrm, hsm⟩, n2, rfl⟩; have HM := Lib.hid hsm; clear hsm)
        | (go_at_call 95; refine (i_lessOne _ cs _ _ (HV.out.drewN _) hl.2).mono ?_; rintro e w3 ⟨⟨r3, rfl, ho⟩, hb3⟩; simp only [World.heap_drewN] at hb3 ho; rw [HM.out] at ho; obtain ⟨a3, c3, rfl, hd1, hd2, -⟩ := ho.sb.get (n := cs.length) (restL_length ..); have HO := Lib.hid ho; have hz3 := hb3.size; clear ho)
        | (go_at_call 96; refine (i_dot _ _ (restL cs (meanL cs) cs.length) (restL cs (meanL cs) cs.length) _ HO.out.sb HO.out.sb rfl).mono ?_; rintro e w4 ⟨⟨r4, rfl, hr4, hs4⟩, n4, rfl⟩; have HS4 := Lib.hid hs4; clear hs4)
        | (refine wpList_ar .f32 _ _ rfl rfl rfl ?_; intro r5 n5 hr5 hlt5; have HR5 := Lib.hid hr5; clear hr5)
        | (go_at_call 73; refine (i_RootNumber _ _).mono ?_; rintro e w6 ⟨⟨r6, rfl, hr6, hs6⟩, n6, rfl⟩; (have hs6' : cn .f32 r6 = normRoot cs := by rw [hs6, HR5.out, HS4.out, restL_length, dot_rest, show cn .f32 (floatOfInt .f32 (cs.length : Int)) = fI cs.length from cn_fI _]; rfl); have HS6 := Lib.hid hs6'; clear hs6 hs6')
        | (go_at_call 84; refine (i_areMore _ ([r6].map (cn .f32)) _ (by first | exact SL.lit _ [r6] _ _ (by simp) rfl (by simp) | exact SL.drewN (SL.lit _ [r6] _ _ (by simp) rfl (by simp)) _)).mono ?_; rintro z w7 ⟨rfl, n7, rfl⟩; rw [show allAbove ([r6].map (cn .f32)) = above (normRoot cs) by simp [allAbove, HS6.out], HA.out]))
    · go_ret2
      have hb3' := below_undrew (n := n1 + n2) (w := w) (w' := w3) hb3
      exact ⟨LB.no _ _ _ (by rw [normQ, HS.out, HA.out]; rfl), by (repeat (first | exact Below.refl _ _ | assumption | refine below_drewN ?_ _ | refine Below.drew ?_ | refine Below.alloc ?_ (by first | omega | (simp; omega) | (simp; done) | (simp at *; omega)) _ | refine Below.setCell ?_ (by first | omega | (simp; omega) | (simp; done) | (simp at *; omega)) _ | refine Below.trans ?_ (Below.mono (by assumption) (by first | omega | (simp; omega) | (simp; done) | (simp at *; omega)))))⟩
    · have hb3' := below_undrew (n := n1 + n2) (w := w) (w' := w3) hb3
      go_loopw [29] (fun i wr => ∃ k : Nat, k ≤ cs.length ∧ i = .int .i64 (k : Int) ∧ Hid (OW 33 w.heap.size wr (.slice a3 cs.length c3) (normL cs k ++ (restL cs (meanL cs) cs.length).drop k)) ∧ Below w.heap.size w wr) (fun i _ => cs.length - (intOf i).toNat)
      case atStart => exact ⟨0, Nat.zero_le _, rfl, (by show OW _ _ _ _ _; exact OW.drewN (OW.alloc HO.out _) _), by (repeat (first | exact Below.refl _ _ | assumption | refine below_drewN ?_ _ | refine Below.drew ?_ | refine Below.alloc ?_ (by first | omega | (simp; omega) | (simp; done) | (simp at *; omega)) _ | refine Below.setCell ?_ (by first | omega | (simp; omega) | (simp; done) | (simp at *; omega)) _ | refine Below.trans ?_ (Below.mono (by assumption) (by first | omega | (simp; omega) | (simp; done) | (simp at *; omega)))))⟩
      case round =>
        obtain ⟨k, hk, rfl, HO1, hb⟩ := hrel
        have hz := hb.size
        by_cases hlt : k < cs.length
        · obtain ⟨a4, c4, hv4, -, -, hget⟩ := HO1.out.sb.get (n := cs.length) (by rw [List.length_append, normL_length, List.length_drop, restL_length]; omega)
          obtain ⟨b4, o4, x, e4, hbl, hc, hx, hcx⟩ := hget k hlt
          obtain ⟨g, cap, hv1, hg1, hg2, ⟨u0, hu0⟩, hfz, hst⟩ := HO1.out.at_ (k := k) (by rw [List.length_append, normL_length, List.length_drop, restL_length]; omega)
          subst e4
          simp only [Value.slice.injEq] at hv4 hv1
          obtain ⟨rfl, -, rfl⟩ := hv4
          obtain ⟨h1, -, -⟩ := hv1
          simp only [Option.some.injEq, Addr.mk.injEq, and_true] at h1
          obtain ⟨rfl, rfl⟩ := h1
          rw [get_norm cs hlt] at hcx
          rw [Nat.zero_add] at hc
          have HX := Lib.hid hcx
          have HST := Lib.hid hst
          clear hcx hst hget hu0
          go_wp2_with (refine wpList_ar .f32 _ _ rfl rfl rfl ?_; intro r n hr hlt1)
          refine ⟨⟨k + 1, by omega, by go_num, ?_, ?_⟩, by simp [intOf]; omega⟩
          · show OW _ _ _ _ _
            have h1 := (HST.out r hlt1).1
            have e : cn .f32 r = divF (subF (cs.getD k 0) (meanL cs)) (normRoot cs) := by rw [hr, HX.out, HS6.out]; rfl
            rw [e, set_norm cs hlt] at h1
            exact h1
          · exact below_drewN (hb.trans (Below.setCell (Below.refl _ _) (by simp; omega) _)) _
        · go_wp2_with (go_at_call 76; go_loud (refine (i_ifAll _ _ _ HO1.out.sb.sl).mono ?_; rintro z w8 ⟨⟨u, q', rfl, hu, hq⟩, n8, rfl⟩; have HU := Lib.hid hu; have HQ2 := Lib.hid hq; clear hu hq))
          go_ret2
          obtain rfl : k = cs.length := by omega
          have e : normL cs cs.length ++ (restL cs (meanL cs) cs.length).drop cs.length = normL cs cs.length := by
            rw [List.drop_eq_nil_of_le (by rw [restL_length]; exact Nat.le_refl _), List.append_nil]
          have hU := HU.out
          have hQ := HQ2.out
          have hO := HO1.out
          rw [e] at hU hQ hO
          exact ⟨LB.given (OW.drewN hO _) hU hQ (by rw [normQ, HS.out, HA.out]; rfl), by (repeat (first | exact Below.refl _ _ | assumption | refine below_drewN ?_ _ | refine Below.drew ?_ | refine Below.alloc ?_ (by first | omega | (simp; omega) | (simp; done) | (simp at *; omega)) _ | refine Below.setCell ?_ (by first | omega | (simp; omega) | (simp; done) | (simp at *; omega)) _ | refine Below.trans ?_ (Below.mono (by assumption) (by first | omega | (simp; omega) | (simp; done) | (simp at *; omega)))))⟩

theorem s_l07Norm (v : Value) (cs : List Nat) (w : World) (hv : SB w v cs) (hn : cs.length ≤ 96) :
    Calls Try.prog 94 #[v] w fun z w' => LB 33 w.heap.size w' z (rawQ cs) ∧ Below w.heap.size w w' := by
  have HV := Lib.hid hv
  obtain ⟨ao, c, rfl, hc1, hc2, hget⟩ := hv.get rfl
  have HG := Lib.hid hget
  clear hget hv
  go_enter Try.func94, Try.ntmps94
  go_wp2_with (first
    | (go_at_call 134; refine (s_l07Sum _ cs _ HV.out.sl).mono ?_; rintro e w2 ⟨⟨rm, rfl, hrm, hsm⟩, n2, rfl⟩; have HM := Lib.hid hsm; clear hsm)
    | (refine wpList_ar .f32 _ _ rfl rfl rfl ?_; intro r5 n5 hr5 hlt5; (have hr6 : cn .f32 r5 = meanL cs := by rw [hr5, HM.out, show cn .f32 (floatOfInt .f32 (cs.length : Int)) = fI cs.length from cn_fI _]; rfl); have HMM := Lib.hid hr6; clear hr5 hr6))
  go_loopw [6, 21] (fun s i wr => ∃ k : Nat, k ≤ cs.length ∧ i = .int .i64 (k : Int) ∧ (∃ r, s = .float .f32 r ∧ r < 4294967296 ∧ Hid (cn .f32 r = sqsL (fun i => subF (cs.getD i 0) (meanL cs)) k)) ∧ ∃ d, wr = w.drewN d) (fun _ i _ => cs.length - (intOf i).toNat)
  case atStart => exact ⟨0, Nat.zero_le _, rfl, ⟨0, rfl, by omega, cn0⟩, _, rfl⟩
  case round =>
    obtain ⟨k, hk, rfl, ⟨r, rfl, hr, HR⟩, dn, rfl⟩ := hrel
    by_cases hlt : k < cs.length
    · obtain ⟨b, off, x, rfl, hbl, hc, hx, hcx⟩ := HG.out k hlt
      go_wp2_with (refine wpList_ar .f32 _ _ rfl rfl rfl ?_; intro r1 n1 hr1 hlt1)
      refine ⟨⟨k + 1, by omega, by go_num, ⟨_, rfl, hlt1, ?_⟩, _, rfl⟩, by simp [intOf]; omega⟩
      have hR := HR.out
      have hM := HMM.out
      show _ = addF _ (mulF _ _)
      simp only [addF, mulF, subF, *]
    · obtain rfl : k = cs.length := by omega
      have HCF := Lib.hid (show cn .f32 (floatOfInt .f32 (cs.length : Int)) = fI cs.length from cn_fI _)
      cases ha : above (normRoot cs)
      all_goals
        have HA := Lib.hid ha
        clear ha
        go_wp2_with (first
          | (refine wpList_ar .f32 _ _ rfl rfl rfl ?_; intro r7 n7 hr7 hlt7; have HR7 := Lib.hid hr7; clear hr7)
          | (go_at_call 120; refine (s_l01Sqrt _ _).mono ?_; rintro e w6 ⟨⟨r6, rfl, hr6, hs6⟩, n6, rfl⟩; (have hs6' : cn .f32 r6 = normRoot cs := by rw [hs6, HR7.out, HR.out, HCF.out]; rfl); have HS6 := Lib.hid hs6'; clear hs6 hs6')
          | (go_at_call 126; refine (s_l02Above _ _).mono ?_; rintro e w7 ⟨rfl, n8, rfl⟩; rw [HS6.out, HA.out]))
      · go_ret2
        exact ⟨LB.no _ _ _ (by rw [rawQ, HA.out]; rfl), by (repeat (first | exact Below.refl _ _ | assumption | refine below_drewN ?_ _ | refine Below.drew ?_ | refine Below.alloc ?_ (by first | omega | (simp; omega) | (simp; done) | (simp at *; omega)) _ | refine Below.setCell ?_ (by first | omega | (simp; omega) | (simp; done) | (simp at *; omega)) _ | refine Below.trans ?_ (Below.mono (by assumption) (by first | omega | (simp; omega) | (simp; done) | (simp at *; omega)))))⟩
      · go_loopw [10, 46] (fun v i wr => ∃ k : Nat, k ≤ cs.length ∧ i = .int .i64 (k : Int) ∧ Hid (OW 33 w.heap.size wr v (normL cs k)) ∧ Below w.heap.size w wr) (fun _ i _ => cs.length - (intOf i).toNat)
        case atStart => exact ⟨0, Nat.zero_le _, rfl, (by show OW _ _ _ _ _; exact OW.drewN (OW.empty _ _ rfl (Nat.le_refl _)) _), by (repeat (first | exact Below.refl _ _ | assumption | refine below_drewN ?_ _ | refine Below.drew ?_ | refine Below.alloc ?_ (by first | omega | (simp; omega) | (simp; done) | (simp at *; omega)) _ | refine Below.setCell ?_ (by first | omega | (simp; omega) | (simp; done) | (simp at *; omega)) _ | refine Below.trans ?_ (Below.mono (by assumption) (by first | omega | (simp; omega) | (simp; done) | (simp at *; omega)))))⟩
        case round =>
          obtain ⟨k, hk, rfl, HO, hb⟩ := hrel
          have hz := hb.size
          by_cases hlt : k < cs.length
          · obtain ⟨b, off, x, rfl, hbl, hc, hx, hcx⟩ := HG.out k hlt
            have hc' := (hb.cell (p := ⟨b, off + k, none⟩) hbl).trans hc
            have HX := Lib.hid hcx
            have HL := Lib.hid (show (normL cs k).length < 1099511627776 by rw [normL_length]; omega)
            clear hc hcx
            go_wp2_with (first
              | (refine wpList_ar .f32 _ _ rfl rfl rfl ?_; intro r1 n1 hr1 hlt1)
              | (at_builtin; refine wpList_app1 f32s w.heap.size u10 _ rfl (by first | exact OW.drewN (OW.alloc HO.out _) _ | exact OW.alloc HO.out _) _ r1 rfl (by simp; done) hlt1 HL.out (by simp; omega) ?_; intro v' w' ho' hg'; have HO' := Lib.hid ho'; clear ho'))
            refine ⟨⟨k + 1, by omega, by go_num, ?_, ?_⟩, by simp [intOf]; omega⟩
            · show OW _ _ _ _ _
              have h1 := HO'.out
              have e : cn .f32 r1 = divF (subF (cs.getD k 0) (meanL cs)) (normRoot cs) := by
                have h2 := HX.out
                have h3 := HS6.out
                have h4 := HMM.out
                simp only [divF, subF, *]
              rw [e, ← normL_succ] at h1
              exact h1
            · refine below_of_grown ?_ hg' (by simp; omega) HO.out.own_ge
              (repeat (first | exact Below.refl _ _ | assumption | refine below_drewN ?_ _ | refine Below.drew ?_ | refine Below.alloc ?_ (by first | omega | (simp; omega) | (simp; done) | (simp at *; omega)) _ | refine Below.setCell ?_ (by first | omega | (simp; omega) | (simp; done) | (simp at *; omega)) _ | refine Below.trans ?_ (Below.mono (by assumption) (by first | omega | (simp; omega) | (simp; done) | (simp at *; omega)))))
          · go_wp2_with (go_at_call 64; refine (s_l02Finite _ _ _ HO.out.sb.sl).mono ?_; rintro e w8 ⟨rfl, n8, rfl⟩)
            go_ret2
            obtain rfl : k = cs.length := by omega
            have e : rawQ cs = (normL cs cs.length, allFin (normL cs cs.length)) := by rw [rawQ, HA.out]; rfl
            refine ⟨⟨_, _, rfl, ?_, ?_⟩, by (repeat (first | exact Below.refl _ _ | assumption | refine below_drewN ?_ _ | refine Below.drew ?_ | refine Below.alloc ?_ (by first | omega | (simp; omega) | (simp; done) | (simp at *; omega)) _ | refine Below.setCell ?_ (by first | omega | (simp; omega) | (simp; done) | (simp at *; omega)) _ | refine Below.trans ?_ (Below.mono (by assumption) (by first | omega | (simp; omega) | (simp; done) | (simp at *; omega)))))⟩
            · rw [e]; exact OW.drewN HO.out _
            · rw [e]

theorem s_NormShape (v : Value) (cs : List Nat) (w : World) (hv : SB w v cs) :
    Calls Try.prog 35 #[v] w fun z w' => LB 33 w.heap.size w' z (normQ cs) ∧ Below w.heap.size w w' := by
  cases hs : series cs
  · have HS := Lib.hid hs
    clear hs
    go_enter Try.func35, Try.ntmps35
    go_wp2_with (go_at_call 65; refine (s_l02Series _ cs _ hv.sl).mono ?_; rintro e w1 ⟨rfl, n1, rfl⟩; rw [HS.out])
    go_ret2
    exact ⟨LB.no _ _ _ (by rw [normQ, HS.out]; rfl), by (repeat (first | exact Below.refl _ _ | assumption | refine below_drewN ?_ _ | refine Below.drew ?_ | refine Below.alloc ?_ (by first | omega | (simp; omega) | (simp; done) | (simp at *; omega)) _ | refine Below.setCell ?_ (by first | omega | (simp; omega) | (simp; done) | (simp at *; omega)) _ | refine Below.trans ?_ (Below.mono (by assumption) (by first | omega | (simp; omega) | (simp; done) | (simp at *; omega)))))⟩
  · have hl := series_len hs
    have HS := Lib.hid hs
    clear hs
    cases hr : (rawQ cs).2
    all_goals
      have HR := Lib.hid hr
      clear hr
      go_enter Try.func35, Try.ntmps35
      go_wp2_with (first
        | (go_at_call 65; refine (s_l02Series _ cs _ hv.sl).mono ?_; rintro e w1 ⟨rfl, n1, rfl⟩; rw [HS.out])
        | (go_at_call 94; refine (s_l07Norm _ cs _ (hv.drewN _) hl.2).mono ?_; rintro e w2 ⟨⟨v2, b2, rfl, ho, hb2⟩, hbl⟩; rw [HR.out] at hb2; subst hb2; simp only [World.heap_drewN] at hbl ho; have HO := Lib.hid ho; clear ho))
      go_ret2
      have hbl' := below_undrew (n := n1) (w := w) (w' := w2) hbl
      have e : normQ cs = (if (rawQ cs).2 then (rawQ cs).1 else [], (rawQ cs).2) := by
        rw [normQ, HS.out]
        unfold rawQ given
        cases above (normRoot cs) <;> simp
      rw [e, HR.out]
    · exact ⟨LB.no _ _ _ rfl, hbl'⟩
    · exact ⟨⟨_, _, rfl, HO.out, rfl⟩, hbl'⟩

end Go.Proofs.Ytkkomajokdlkeaa
