/- Contracts: a walk's chances, as the program reckons them. -/
import Derived.Test.YtaplnfdlcihhpaaK11
namespace Go.Proofs.Ytaplnfdlcihhpaa
set_option maxRecDepth 100000
set_option maxHeartbeats 4000000
open Go.RowKit
attribute [local go_sem] run_store_float run_store_complex alloc_drewN setCell_drewN


set_option maxRecDepth 100000 in
set_option maxHeartbeats 4000000 in
theorem i_RunChance (x y : Nat) (bar steps : Int) (w : World) : Calls Try.prog 17 #[.float .f32 x, .float .f32 y, .int .i64 bar, .int .i64 steps] w fun e w' => NB e (rcQ false (cn .f32 x) (cn .f32 y) bar steps) ∧ Below w.heap.size w w' := by
  cases hok : walkOk (cn .f32 x) (cn .f32 y) bar
  · have HK := Lib.hid hok
    clear hok
    go_enter Try.func17, Try.ntmps17
    go_wp2_with (go_at_call 54; refine (i_isWalk _ _ _ _).mono ?_; rintro e w1 ⟨rfl, hb1⟩; rw [HK.out])
    go_ret2
    exact ⟨⟨0, false, rfl, by omega, by rw [rcQ, HK.out]; exact cn0, by rw [rcQ, HK.out]; rfl⟩, hb1⟩
  · cases hin : inB steps 0 256
    · have HK := Lib.hid hok
      have HI := Lib.hid hin
      clear hok hin
      go_enter Try.func17, Try.ntmps17
      go_wp2_with (first | (go_at_call 54; refine (i_isWalk _ _ _ _).mono ?_; rintro e w1 ⟨rfl, hb1⟩; rw [HK.out]) | (go_at_call 59; refine (i_within _ _ _ _).mono ?_; rintro e w2 ⟨rfl, n2, rfl⟩; rw [HI.out]))
      go_ret2
      exact ⟨⟨0, false, rfl, by omega, by rw [rcQ, HK.out, HI.out]; exact cn0, by rw [rcQ, HK.out, HI.out]; rfl⟩, below_drewN hb1 _⟩
    · obtain ⟨m, rfl, hm1, hm2⟩ := walk_bar' hok
      obtain ⟨s, rfl, hs⟩ := inB_nat (b := 256) hin
      have HQ := Lib.hid (show rcQ false (cn .f32 x) (cn .f32 y) m s = numB (rcAt false (cn .f32 x) (cn .f32 y) m s).2 by
        rw [rcQ, hok, hin]; rfl)
      have HK := Lib.hid hok
      have HI := Lib.hid hin
      clear hok hin
      go_enter Try.func17, Try.ntmps17
      go_wp2_with (first
        | (go_at_call 54; refine (i_isWalk _ _ _ _).mono ?_; rintro e w1 ⟨rfl, hb1⟩; rw [HK.out])
        | (go_at_call 59; refine (i_within _ _ _ _).mono ?_; rintro e w2 ⟨rfl, n2, rfl⟩; rw [HI.out])
        | (refine wpList_make32 f32s m rfl rfl (by omega) ?_; intro w3 ho hg; simp only [World.heap_drewN] at ho hg; obtain ⟨g, cap, hv1, hg1, hg2, ⟨u0, hu0⟩, hfz, hst⟩ := ho.at_ (k := 0) (by rw [List.length_replicate]; omega); simp only [Value.slice.injEq, Option.some.injEq, Addr.mk.injEq, and_true] at hv1; obtain ⟨rfl, hA, hB⟩ := hv1; clear hA hB; have HST := Lib.hid (hst 1065353216 (by decide)); clear hst; have HG := Lib.hid hg; have HO := Lib.hid ho; clear ho hg))
      obtain ⟨w4, hw4⟩ : ∃ w4, w4 = w3.setCell ⟨w1.heap.size, 0, none⟩ (Value.float .f32 1065353216) := ⟨_, rfl⟩
      rw [← hw4]
      have HO4 : Hid (OW 25 w.heap.size w4 (Value.slice (some { block := w1.heap.size, off := 0 }) m m) (rcAt false (cn .f32 x) (cn .f32 y) m 0).1) := by
        have h1 := HST.out.1
        rw [← hw4] at h1
        have e : (List.replicate m 0).set 0 (cn .f32 1065353216) = (rcAt false (cn .f32 x) (cn .f32 y) m 0).1 := by
          obtain ⟨m', rfl⟩ : ∃ m', m = m' + 1 := ⟨m - 1, by omega⟩
          rw [cn1]; rfl
        rw [e] at h1
        exact h1.down hb1.size
      have hb4 : Below w.heap.size w w4 := by
        have h1 := HST.out.2
        rw [← hw4] at h1
        exact (hb1.grown (grown_drewN HG.out) hb1.size (by simp)).grown h1 (by have := hb1.size; omega) (by simp; have := hb1.size; omega)
      clear HST hu0 hfz HO HG hw4 hg1 hg2
      go_loopw [10, 11, 32] (fun c a i wr => ∃ k : Nat, k ≤ s ∧ i = .int .i64 (k : Int) ∧ (∃ p, a = .float .f32 p ∧ p < 4294967296 ∧ Hid (cn .f32 p = (rcAt false (cn .f32 x) (cn .f32 y) m k).2)) ∧ Hid (OW 25 w.heap.size wr c (rcAt false (cn .f32 x) (cn .f32 y) m k).1) ∧ Below w.heap.size w wr) (fun _ _ i _ => s - (intOf i).toNat)
      case atStart => exact ⟨0, Nat.zero_le _, rfl, ⟨_, rfl, by omega, cn0⟩, HO4, hb4⟩
      case round =>
        obtain ⟨k, hk, rfl, ⟨p, rfl, hp, HP⟩, HC, hb⟩ := hrel
        have hz := hb.size
        by_cases hlt : k < s
        · obtain ⟨b0, off0, cap2, hv, hc1, hc2, hb0, hget⟩ := HC.out.sb.get1 (rcAt_length _ _ _ _ hm1 _) (by omega)
          obtain ⟨wo, hwo⟩ : ∃ wo, wo = wr := ⟨_, rfl⟩
          subst hwo
          subst hv
          have HGET := Lib.hid hget
          have HLOW := Lib.hid (HC.out.low (Nat.le_refl _))
          clear hget
          go_wp2_with fail
          go_loopw [12, 37] (fun v i wi => ∃ j : Nat, j ≤ m ∧ i = .int .i64 (j : Int) ∧ Hid (OW 25 wo.heap.size wi v (rcRow false (cn .f32 x) (cn .f32 y) m (rcAt false (cn .f32 x) (cn .f32 y) m k).1 j)) ∧ Below wo.heap.size wo wi) (fun _ i _ => m - (intOf i).toNat)
          case atStart => exact ⟨0, Nat.zero_le _, rfl, (by show OW _ _ _ _ _; exact OW.empty _ _ rfl (Nat.le_refl _)), by (repeat (first | exact Below.refl _ _ | assumption | refine below_drewN ?_ _ | refine Below.drew ?_ | refine Below.alloc ?_ (by first | omega | (simp; omega) | (simp; done) | (simp at *; omega)) _ | refine Below.setCell ?_ (by first | omega | (simp; omega) | (simp; done) | (simp at *; omega)) _ | refine Below.trans ?_ (Below.mono (by assumption) (by first | omega | (simp; omega) | (simp; done) | (simp at *; omega)))))⟩
          case round =>
            obtain ⟨j, hj, rfl, HO, hbi⟩ := hrel
            have hzi := hbi.size
            have HL := Lib.hid (show (rcRow false (cn .f32 x) (cn .f32 y) m (rcAt false (cn .f32 x) (cn .f32 y) m k).1 j).length < 1099511627776 by rw [rcRow_length]; omega)
            by_cases hlt2 : j < m
            · obtain ⟨r0, hc0, hr0, hr0'⟩ := HGET.out j hlt2
              have hc0' := (hbi.cell (p := ⟨b0, off0 + j, none⟩) hb0).trans hc0
              clear hc0
              by_cases hj1 : j + 1 < m
              · obtain ⟨r2, hc2, hr2, hr2'⟩ := HGET.out (j + 1) hj1
                have hc2' := (hbi.cell (p := ⟨b0, off0 + (j + 1), none⟩) hb0).trans hc2
                clear hc2
                rcases j with _ | j
                · simp only [Nat.zero_add, Nat.add_zero] at hc0' hc2' hj1
                  go_wp2_with (first
                    | (at_builtin; refine wpList_app1 f32s wo.heap.size u12 _ rfl (by first | exact OW.drewN (OW.alloc HO.out _) _ | exact OW.alloc HO.out _) _ r rfl (by simp; done) hlt HL.out (by simp; omega) ?_; intro v' w' ho' hg'; have HO' := Lib.hid ho'; clear ho')
                    | (refine wpList_ar .f32 _ _ rfl rfl rfl ?_; intro r n hr hlt))
                  refine ⟨⟨0 + 1, by omega, by go_num, ?_, ?_⟩, by simp [intOf]; omega⟩
                  · show OW _ _ _ _ _
                    rw [rcRow_succ]
                    have e : cn .f32 r = rcCell false (cn .f32 x) (cn .f32 y) m (rcAt false (cn .f32 x) (cn .f32 y) m k).1 0 := by
                      simp [rcCell, rcB, rcA, rcStay, rcOne, addF, mulF, subF, hj1, *, cn1]
                    rw [← e]
                    exact HO'.out
                  · refine below_of_grown ?_ hg' (by simp; omega) HO.out.own_ge
                    (repeat (first | exact Below.refl _ _ | assumption | refine below_drewN ?_ _ | refine Below.drew ?_ | refine Below.alloc ?_ (by first | omega | (simp; omega) | (simp; done) | (simp at *; omega)) _ | refine Below.setCell ?_ (by first | omega | (simp; omega) | (simp; done) | (simp at *; omega)) _ | refine Below.trans ?_ (Below.mono (by assumption) (by first | omega | (simp; omega) | (simp; done) | (simp at *; omega)))))
                · obtain ⟨r4, hc4, hr4, hr4'⟩ := HGET.out j (by omega)
                  have hc4' := (hbi.cell (p := ⟨b0, off0 + j, none⟩) hb0).trans hc4
                  clear hc4
                  go_wp2_with (first
                    | (at_builtin; refine wpList_app1 f32s wo.heap.size u12 _ rfl (by first | exact OW.drewN (OW.alloc HO.out _) _ | exact OW.alloc HO.out _) _ r rfl (by simp; done) hlt HL.out (by simp; omega) ?_; intro v' w' ho' hg'; have HO' := Lib.hid ho'; clear ho')
                    | (refine wpList_ar .f32 _ _ rfl rfl rfl ?_; intro r n hr hlt))
                  refine ⟨⟨j + 1 + 1, by omega, by go_num, ?_, ?_⟩, by simp [intOf]; omega⟩
                  · show OW _ _ _ _ _
                    rw [rcRow_succ]
                    have e : cn .f32 r = rcCell false (cn .f32 x) (cn .f32 y) m (rcAt false (cn .f32 x) (cn .f32 y) m k).1 (j + 1) := by
                      simp [rcCell, rcB, rcA, rcStay, rcOne, addF, mulF, subF, hj1, *, cn1]
                    rw [← e]
                    exact HO'.out
                  · refine below_of_grown ?_ hg' (by simp; omega) HO.out.own_ge
                    (repeat (first | exact Below.refl _ _ | assumption | refine below_drewN ?_ _ | refine Below.drew ?_ | refine Below.alloc ?_ (by first | omega | (simp; omega) | (simp; done) | (simp at *; omega)) _ | refine Below.setCell ?_ (by first | omega | (simp; omega) | (simp; done) | (simp at *; omega)) _ | refine Below.trans ?_ (Below.mono (by assumption) (by first | omega | (simp; omega) | (simp; done) | (simp at *; omega)))))
              · rcases j with _ | j
                · simp only [Nat.zero_add, Nat.add_zero] at hc0' hj1
                  go_wp2_with (first
                    | (at_builtin; refine wpList_app1 f32s wo.heap.size u12 _ rfl (by first | exact OW.drewN (OW.alloc HO.out _) _ | exact OW.alloc HO.out _) _ r rfl (by simp; done) hlt HL.out (by simp; omega) ?_; intro v' w' ho' hg'; have HO' := Lib.hid ho'; clear ho')
                    | (refine wpList_ar .f32 _ _ rfl rfl rfl ?_; intro r n hr hlt))
                  refine ⟨⟨0 + 1, by omega, by go_num, ?_, ?_⟩, by simp [intOf]; omega⟩
                  · show OW _ _ _ _ _
                    rw [rcRow_succ]
                    have e : cn .f32 r = rcCell false (cn .f32 x) (cn .f32 y) m (rcAt false (cn .f32 x) (cn .f32 y) m k).1 0 := by
                      simp [rcCell, rcB, rcA, rcStay, rcOne, addF, mulF, subF, hj1, *, cn1]
                    rw [← e]
                    exact HO'.out
                  · refine below_of_grown ?_ hg' (by simp; omega) HO.out.own_ge
                    (repeat (first | exact Below.refl _ _ | assumption | refine below_drewN ?_ _ | refine Below.drew ?_ | refine Below.alloc ?_ (by first | omega | (simp; omega) | (simp; done) | (simp at *; omega)) _ | refine Below.setCell ?_ (by first | omega | (simp; omega) | (simp; done) | (simp at *; omega)) _ | refine Below.trans ?_ (Below.mono (by assumption) (by first | omega | (simp; omega) | (simp; done) | (simp at *; omega)))))
                · obtain ⟨r4, hc4, hr4, hr4'⟩ := HGET.out j (by omega)
                  have hc4' := (hbi.cell (p := ⟨b0, off0 + j, none⟩) hb0).trans hc4
                  clear hc4
                  go_wp2_with (first
                    | (at_builtin; refine wpList_app1 f32s wo.heap.size u12 _ rfl (by first | exact OW.drewN (OW.alloc HO.out _) _ | exact OW.alloc HO.out _) _ r rfl (by simp; done) hlt HL.out (by simp; omega) ?_; intro v' w' ho' hg'; have HO' := Lib.hid ho'; clear ho')
                    | (refine wpList_ar .f32 _ _ rfl rfl rfl ?_; intro r n hr hlt))
                  refine ⟨⟨j + 1 + 1, by omega, by go_num, ?_, ?_⟩, by simp [intOf]; omega⟩
                  · show OW _ _ _ _ _
                    rw [rcRow_succ]
                    have e : cn .f32 r = rcCell false (cn .f32 x) (cn .f32 y) m (rcAt false (cn .f32 x) (cn .f32 y) m k).1 (j + 1) := by
                      simp [rcCell, rcB, rcA, rcStay, rcOne, addF, mulF, subF, hj1, *, cn1]
                    rw [← e]
                    exact HO'.out
                  · refine below_of_grown ?_ hg' (by simp; omega) HO.out.own_ge
                    (repeat (first | exact Below.refl _ _ | assumption | refine below_drewN ?_ _ | refine Below.drew ?_ | refine Below.alloc ?_ (by first | omega | (simp; omega) | (simp; done) | (simp at *; omega)) _ | refine Below.setCell ?_ (by first | omega | (simp; omega) | (simp; done) | (simp at *; omega)) _ | refine Below.trans ?_ (Below.mono (by assumption) (by first | omega | (simp; omega) | (simp; done) | (simp at *; omega)))))
            · obtain ⟨r0, hc0, hr0, hr0'⟩ := HGET.out (m - 1) (by omega)
              have hc0' := (hbi.cell (p := ⟨b0, off0 + (m - 1), none⟩) hb0).trans hc0
              have hi1 : IntKind.i64.wrap ((m : Int) - 1) = ((m - 1 : Nat) : Int) := by rw [IntKind.wrap_i64]; omega
              go_wp2_with (refine wpList_ar .f32 _ _ rfl rfl rfl ?_; intro r1 n1 hr1 hlt1)
              obtain rfl : j = m := by omega
              refine ⟨⟨k + 1, by omega, by go_num, ⟨_, rfl, hlt1, ?_⟩, ?_, ?_⟩, by simp [intOf]; omega⟩
              · have hP := HP.out
                show _ = addF _ (mulF _ _)
                simp only [addF, mulF, *]
              · show OW _ _ _ _ _
                exact (HO.out.down hz).drewN _
              · exact below_drewN (hb.trans (hbi.mono hz)) _
        · go_wp2_with (go_at_call 55; refine (i_ifFinite _ hp _).mono ?_; rintro e w2 ⟨⟨r, b, rfl, hr1, hr2, hr3⟩, n1, rfl⟩; have HR2 := Lib.hid hr2; have HR3 := Lib.hid hr3; clear hr2 hr3)
          go_ret2
          obtain rfl : k = s := by omega
          refine ⟨⟨r, b, rfl, hr1, ?_, ?_⟩, by (repeat (first | exact Below.refl _ _ | assumption | refine below_drewN ?_ _ | refine Below.drew ?_ | refine Below.alloc ?_ (by first | omega | (simp; omega) | (simp; done) | (simp at *; omega)) _ | refine Below.setCell ?_ (by first | omega | (simp; omega) | (simp; done) | (simp at *; omega)) _ | refine Below.trans ?_ (Below.mono (by assumption) (by first | omega | (simp; omega) | (simp; done) | (simp at *; omega)))))⟩
          · rw [HR2.out, HQ.out, HP.out]
          · rw [HR3.out, HQ.out, HP.out]

end Go.Proofs.Ytaplnfdlcihhpaa
