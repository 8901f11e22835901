/- Contracts: a walk's chances. -/
import Derived.Test.YtaplnfdlcihhpaaK5
import Derived.Test.YtaplnfdlcihhpaaRc
import Derived.Deep.QuietTactic
import Derived.BigQuiet
namespace Go.Proofs.Ytaplnfdlcihhpaa
set_option maxRecDepth 100000
set_option maxHeartbeats 4000000
open Go.RowKit
attribute [local go_sem] run_store_float run_store_complex alloc_drewN setCell_drewN

theorem SB.get {w : World} {v : Value} {cs : List Nat} (h : SB w v cs) {n : Nat} (hn : cs.length = n) : ∃ ao c, v = .slice ao n c ∧ n ≤ c ∧ c ≤ 9223372036854775807 ∧ ∀ i, i < n → ∃ b off r, ao = some ⟨b, off, none⟩ ∧ b < w.heap.size ∧ w.cell? ⟨b, off + i, none⟩ = some (.float .f32 r) ∧ r < 4294967296 ∧ cn .f32 r = cs.getD i 0 := by
  obtain ⟨ao, c, xs, rfl, rfl, h3, h5, h4⟩ := h
  have hn' : xs.length = n := by simpa using hn
  subst hn'
  refine ⟨ao, c, rfl, h3.1, h3.2, fun i hi => ?_⟩
  obtain ⟨b, off, e1, e2, e3⟩ := h4 i hi
  exact ⟨b, off, xs[i], e1, e2, e3, h5 _ (List.getElem_mem hi), by simp [hi]⟩

theorem SB.get1 {w : World} {v : Value} {cs : List Nat} (h : SB w v cs) {n : Nat} (hn : cs.length = n) (h0 : 0 < n) : ∃ b off c, v = .slice (some ⟨b, off, none⟩) n c ∧ n ≤ c ∧ c ≤ 9223372036854775807 ∧ b < w.heap.size ∧ ∀ i, i < n → ∃ r, w.cell? ⟨b, off + i, none⟩ = some (.float .f32 r) ∧ r < 4294967296 ∧ cn .f32 r = cs.getD i 0 := by
  obtain ⟨ao, c, rfl, h1, h2, h3⟩ := h.get hn
  obtain ⟨b, off, _, rfl, hb, _⟩ := h3 0 h0
  refine ⟨b, off, c, rfl, h1, h2, hb, fun i hi => ?_⟩
  obtain ⟨b', off', r, e, _, h4, h5, h6⟩ := h3 i hi
  simp only [Option.some.injEq, Addr.mk.injEq, and_true] at e
  obtain ⟨rfl, rfl⟩ := e
  exact ⟨r, h4, h5, h6⟩


def rcQ (z : Bool) (cu cd : Nat) (bar steps : Int) : Nat × Bool := if walkOk cu cd bar && inB steps 0 256 then numB (rcAt z cu cd bar.toNat steps.toNat).2 else (0, false)
theorem rcQ_same (cu cd : Nat) (bar steps : Int) : rcQ true cu cd bar steps = rcQ false cu cd bar steps := by
  unfold rcQ; rw [rcAt_end]
theorem walk_bar' {cu cd : Nat} {bar : Int} (h : walkOk cu cd bar = true) : ∃ m : Nat, bar = (m : Int) ∧ 1 ≤ m ∧ m ≤ 16 := by
  simp only [walkOk, inB, Bool.and_eq_true, decide_eq_true_eq] at h
  exact ⟨bar.toNat, by omega, by omega, by omega⟩
theorem inB_nat {n : Int} {b : Nat} (h : inB n 0 b = true) : ∃ m : Nat, n = (m : Int) ∧ m ≤ b := by
  simp only [inB, Bool.and_eq_true, decide_eq_true_eq] at h
  exact ⟨n.toNat, by omega, by omega⟩
theorem getD_append_left {cs ds : List Nat} {i : Nat} (h : i < cs.length) : (cs ++ ds).getD i 0 = cs.getD i 0 := by simp [List.getD_eq_getElem?_getD, List.getElem?_append_left h]
theorem getD_append_last {cs : List Nat} {e n : Nat} (h : cs.length = n) : (cs ++ [e]).getD n 0 = e := by subst h; simp [List.getD_eq_getElem?_getD]
/-- What an operation gives, as an equation for every world. -/
theorem run_ar_all (P : Program) (op : BinOp) (hop : isAr op = true) : ∃ (R N : Nat → Nat → World → Nat), ∀ t x y w, (binOp op t (.float .f32 x) (.float .f32 y)).run P w = .ok (.float .f32 (R x y w)) (w.drewN (N x y w)) ∧ cn .f32 (R x y w) = ar op .f32 (cn .f32 x) (cn .f32 y) ∧ R x y w < 4294967296 := by
  refine ⟨fun x y w => Classical.choose (run_ar (P := P) w op 0 .f32 x y hop), fun x y w => Classical.choose (Classical.choose_spec (run_ar (P := P) w op 0 .f32 x y hop)), fun t x y w => ?_⟩
  have := Classical.choose_spec (Classical.choose_spec (run_ar (P := P) w op 0 .f32 x y hop))
  refine ⟨?_, this.2.1, this.2.2⟩
  rw [← this.1]
  cases op <;> first | rfl | cases hop
theorem set_last (cs : List Nat) (c : Nat) {n : Nat} (h : cs.length = n) : (cs ++ List.replicate (n + 1 - n) 0).set n c = cs ++ [c] := by
  subst h
  rw [List.set_append_right _ _ (Nat.le_refl _), Nat.sub_self, show cs.length + 1 - cs.length = 1 by omega]
  rfl
theorem set_next (cs : List Nat) (c : Nat) {j n : Nat} (h : cs.length = j) (hj : j < n) : (cs ++ List.replicate (n - j) 0).set j c = (cs ++ [c]) ++ List.replicate (n - (j + 1)) 0 := by
  subst h
  rw [List.set_append_right _ _ (Nat.le_refl _), Nat.sub_self, List.append_assoc]
  have h2 : n - cs.length = (n - (cs.length + 1)) + 1 := by omega
  rw [h2, List.replicate_succ]
  rfl
set_option maxRecDepth 100000 in
set_option maxHeartbeats 4000000 in
theorem s_RunChance (x y : Nat) (bar steps : Int) (w : World) : Calls Try.prog 18 #[.float .f32 x, .float .f32 y, .int .i64 bar, .int .i64 steps] w fun e w' => NB e (rcQ true (cn .f32 x) (cn .f32 y) bar steps) ∧ Below w.heap.size w w' := by
  cases hok : walkOk (cn .f32 x) (cn .f32 y) bar
  · have HK := Lib.hid hok
    clear hok
    go_enter Try.func18, Try.ntmps18
    go_wp2_with (go_at_call 56; refine (s_l07Walk _ _ _ _).mono ?_; rintro e w1 ⟨rfl, n1, rfl⟩; rw [HK.out])
    go_ret2
    exact ⟨⟨0, false, rfl, by omega, by rw [rcQ, HK.out]; exact cn0, by rw [rcQ, HK.out]; rfl⟩, by (repeat (first | exact Below.refl _ _ | assumption | refine below_drewN ?_ _ | refine Below.drew ?_ | refine Below.alloc ?_ (by first | omega | (simp; omega) | (simp; done) | (simp at *; omega)) _ | refine Below.setCell ?_ (by first | omega | (simp; omega) | (simp; done) | (simp at *; omega)) _ | refine Below.trans ?_ (Below.mono (by assumption) (by first | omega | (simp; omega) | (simp; done) | (simp at *; omega)))))⟩
  · cases hin : inB steps 0 256
    · have HK := Lib.hid hok
      have HI := Lib.hid hin
      clear hok hin
      go_enter Try.func18, Try.ntmps18
      go_wp2_with (first | (go_at_call 56; refine (s_l07Walk _ _ _ _).mono ?_; rintro e w1 ⟨rfl, n1, rfl⟩; rw [HK.out]) | (go_at_call 60; refine (s_l00In _ _ _ _).mono ?_; rintro e w2 ⟨rfl, n2, rfl⟩; rw [HI.out]))
      go_ret2
      exact ⟨⟨0, false, rfl, by omega, by rw [rcQ, HK.out, HI.out]; exact cn0, by rw [rcQ, HK.out, HI.out]; rfl⟩, by (repeat (first | exact Below.refl _ _ | assumption | refine below_drewN ?_ _ | refine Below.drew ?_ | refine Below.alloc ?_ (by first | omega | (simp; omega) | (simp; done) | (simp at *; omega)) _ | refine Below.setCell ?_ (by first | omega | (simp; omega) | (simp; done) | (simp at *; omega)) _ | refine Below.trans ?_ (Below.mono (by assumption) (by first | omega | (simp; omega) | (simp; done) | (simp at *; omega)))))⟩
    · obtain ⟨m, rfl, hm1, hm2⟩ := walk_bar' hok
      obtain ⟨s, rfl, hs⟩ := inB_nat (b := 256) hin
      have HQ := Lib.hid (show rcQ true (cn .f32 x) (cn .f32 y) m s = numB (rcAt true (cn .f32 x) (cn .f32 y) m s).2 by
        rw [rcQ, hok, hin]; rfl)
      have HK := Lib.hid hok
      have HI := Lib.hid hin
      clear hok hin
      go_enter Try.func18, Try.ntmps18
      go_wp2_with (first
        | (go_at_call 56; refine (s_l07Walk _ _ _ _).mono ?_; rintro e w1 ⟨rfl, n1, rfl⟩; rw [HK.out])
        | (go_at_call 60; refine (s_l00In _ _ _ _).mono ?_; rintro e w2 ⟨rfl, n2, rfl⟩; rw [HI.out])
        | (refine wpList_make32 f32s (m + 1) rfl rfl (by omega) ?_; intro w3 ho hg; simp only [World.heap_drewN] at ho hg; obtain ⟨g, cap, hv1, hg1, hg2, ⟨u0, hu0⟩, hfz, hst⟩ := ho.at_ (k := 0) (by rw [List.length_replicate]; omega); simp only [Value.slice.injEq, Option.some.injEq, Addr.mk.injEq, and_true] at hv1; obtain ⟨rfl, hA, hB⟩ := hv1; clear hA hB; have HST := Lib.hid (hst 1065353216 (by decide)); clear hst; have HG := Lib.hid hg; have HO := Lib.hid ho; clear ho hg))
      obtain ⟨w4, hw4⟩ : ∃ w4, w4 = w3.setCell ⟨w.heap.size, 0, none⟩ (Value.float .f32 1065353216) := ⟨_, rfl⟩
      rw [← hw4]
      have HO4 : Hid (OW 25 w.heap.size w4 (Value.slice (some { block := w.heap.size, off := 0 }) (m + 1) (m + 1)) ((rcAt true (cn .f32 x) (cn .f32 y) m 0).1 ++ [(rcAt true (cn .f32 x) (cn .f32 y) m 0).2])) := by
        have h1 := HST.out.1
        rw [← hw4] at h1
        have e : (List.replicate (m + 1) 0).set 0 (cn .f32 1065353216) = (rcAt true (cn .f32 x) (cn .f32 y) m 0).1 ++ [(rcAt true (cn .f32 x) (cn .f32 y) m 0).2] := by
          obtain ⟨m', rfl⟩ : ∃ m', m = m' + 1 := ⟨m - 1, by omega⟩
          rw [cn1]
          show rcOne :: List.replicate (m' + 1) 0 = rcOne :: (List.replicate m' 0 ++ [0])
          rw [List.replicate_succ']
        rw [e] at h1
        exact h1
      have hb4 : Below w.heap.size w w4 := by
        have h1 := HST.out.2
        rw [← hw4] at h1
        exact ((Below.refl _ w).grown (grown_drewN HG.out) (Nat.le_refl _) (by simp)).grown h1 (by omega) (by simp)
      clear HST hu0 hfz HO HG hw4 hg1 hg2
      go_loopw [3, 10] (fun i c wr => ∃ k r : Nat, k + r = s ∧ i = .int .i64 (r : Int) ∧ Hid (OW 25 w.heap.size wr c ((rcAt true (cn .f32 x) (cn .f32 y) m k).1 ++ [(rcAt true (cn .f32 x) (cn .f32 y) m k).2])) ∧ Below w.heap.size w wr) (fun i _ _ => (intOf i).toNat)
      case atStart => exact ⟨0, s, by omega, rfl, HO4, hb4⟩
      case round =>
        obtain ⟨k, r, hk, rfl, HC, hb⟩ := hrel
        have hz := hb.size
        have HLEN := Lib.hid (show ((rcAt true (cn .f32 x) (cn .f32 y) m k).1 ++ [(rcAt true (cn .f32 x) (cn .f32 y) m k).2]).length = m + 1 by rw [List.length_append, rcAt_length _ _ _ _ hm1]; rfl)
        obtain ⟨b0, off0, cap2, hv, hc1, hc2, hb0, hget⟩ := HC.out.sb.get1 HLEN.out (by omega)
        obtain ⟨wo, hwo⟩ : ∃ wo, wo = wr := ⟨_, rfl⟩
        subst hwo
        subst hv
        have HGET := Lib.hid hget
        have HLOW := Lib.hid (HC.out.low (Nat.le_refl _))
        clear hget
        by_cases hlt : 0 < r
        · go_wp2_with (refine wpList_make32 f32s (m + 1) rfl rfl (by omega) ?_; intro w5 ho hg; have HO5 := Lib.hid ho; have hb5 := (Below.refl _ wo).grown hg (Nat.le_refl _) (by simp); clear ho hg)
          go_loopw [12] (fun i wi => ∃ j : Nat, j ≤ m ∧ i = .int .i64 (j : Int) ∧ Hid (OW 25 wo.heap.size wi (Value.slice (some { block := wo.heap.size, off := 0 }) (m + 1) (m + 1)) (rcRow true (cn .f32 x) (cn .f32 y) m (rcAt true (cn .f32 x) (cn .f32 y) m k).1 j ++ List.replicate (m + 1 - j) 0)) ∧ Below wo.heap.size wo wi) (fun i _ => m - (intOf i).toNat)
          case atStart => exact ⟨0, Nat.zero_le _, rfl, HO5.out, hb5⟩
          case round =>
            obtain ⟨j, hj, rfl, HO, hbi⟩ := hrel
            have hzi := hbi.size
            by_cases hlt2 : j < m
            · obtain ⟨r0, hc0, hr0, hr0'⟩ := HGET.out j (by omega)
              have hc0' := (hbi.cell (p := ⟨b0, off0 + j, none⟩) hb0).trans hc0
              rw [getD_append_left (by rw [rcAt_length _ _ _ _ hm1]; omega)] at hr0'
              clear hc0
              obtain ⟨g, cap, hv1, hg1, hg2, ⟨u0, hu0⟩, hfz, hst⟩ := HO.out.at_ (k := j) (by rw [List.length_append, List.length_replicate, rcRow_length]; omega)
              simp only [Value.slice.injEq, Option.some.injEq, Addr.mk.injEq, and_true] at hv1
              obtain ⟨rfl, hA, hB⟩ := hv1
              clear hA hB
              have HST := Lib.hid hst
              clear hst
              have hi4 : (j : Int) < (m : Int) + 1 := by omega
              by_cases hj1 : j + 1 < m
              · obtain ⟨r2, hc2, hr2, hr2'⟩ := HGET.out (j + 1) (by omega)
                have hc2' := (hbi.cell (p := ⟨b0, off0 + (j + 1), none⟩) hb0).trans hc2
                rw [getD_append_left (by rw [rcAt_length _ _ _ _ hm1]; omega)] at hr2'
                have hi5 : (j : Int) + 1 < (m : Int) + 1 := by omega
                clear hc2
                rcases j with _ | j
                · simp only [Nat.zero_add, Nat.add_zero] at hc0' hc2' hj1
                  go_wp2_with (refine wpList_ar .f32 _ _ rfl rfl rfl ?_; intro r n hr hlt)
                  refine ⟨⟨0 + 1, by omega, by go_num, ?_, ?_⟩, by simp [intOf]; omega⟩
                  · show OW _ _ _ _ _
                    rw [rcRow_succ]
                    have e : cn .f32 r = rcCell true (cn .f32 x) (cn .f32 y) m (rcAt true (cn .f32 x) (cn .f32 y) m k).1 0 := by
                      simp [rcCell, rcB, rcA, rcStay, rcOne, addF, mulF, subF, hj1, *, cn1, cn0]
                    have h1 := (HST.out r hlt).1
                    rw [set_next _ _ (rcRow_length ..) (by omega), e] at h1
                    exact h1
                  · refine below_drewN (hbi.trans ?_) _
                    exact Below.setCell (Below.refl _ _) (by simp; done) _
                · obtain ⟨r4, hc4, hr4, hr4'⟩ := HGET.out j (by omega)
                  have hc4' := (hbi.cell (p := ⟨b0, off0 + j, none⟩) hb0).trans hc4
                  rw [getD_append_left (by rw [rcAt_length _ _ _ _ hm1]; omega)] at hr4'
                  clear hc4
                  have hi6 : (j : Int) < (m : Int) + 1 := by omega
                  go_wp2_with (refine wpList_ar .f32 _ _ rfl rfl rfl ?_; intro r n hr hlt)
                  refine ⟨⟨j + 1 + 1, by omega, by go_num, ?_, ?_⟩, by simp [intOf]; omega⟩
                  · show OW _ _ _ _ _
                    rw [rcRow_succ]
                    have e : cn .f32 r = rcCell true (cn .f32 x) (cn .f32 y) m (rcAt true (cn .f32 x) (cn .f32 y) m k).1 (j + 1) := by
                      simp [rcCell, rcB, rcA, rcStay, rcOne, addF, mulF, subF, hj1, *, cn1, cn0]
                    have h1 := (HST.out r hlt).1
                    rw [set_next _ _ (rcRow_length ..) (by omega), e] at h1
                    exact h1
                  · refine below_drewN (hbi.trans ?_) _
                    exact Below.setCell (Below.refl _ _) (by simp; done) _
              · rcases j with _ | j
                · simp only [Nat.zero_add, Nat.add_zero] at hc0' hj1
                  go_wp2_with (refine wpList_ar .f32 _ _ rfl rfl rfl ?_; intro r n hr hlt)
                  refine ⟨⟨0 + 1, by omega, by go_num, ?_, ?_⟩, by simp [intOf]; omega⟩
                  · show OW _ _ _ _ _
                    rw [rcRow_succ]
                    have e : cn .f32 r = rcCell true (cn .f32 x) (cn .f32 y) m (rcAt true (cn .f32 x) (cn .f32 y) m k).1 0 := by
                      simp [rcCell, rcB, rcA, rcStay, rcOne, addF, mulF, subF, hj1, *, cn1, cn0]
                    have h1 := (HST.out r hlt).1
                    rw [set_next _ _ (rcRow_length ..) (by omega), e] at h1
                    exact h1
                  · refine below_drewN (hbi.trans ?_) _
                    exact Below.setCell (Below.refl _ _) (by simp; done) _
                · obtain ⟨r4, hc4, hr4, hr4'⟩ := HGET.out j (by omega)
                  have hc4' := (hbi.cell (p := ⟨b0, off0 + j, none⟩) hb0).trans hc4
                  rw [getD_append_left (by rw [rcAt_length _ _ _ _ hm1]; omega)] at hr4'
                  clear hc4
                  have hi6 : (j : Int) < (m : Int) + 1 := by omega
                  go_wp2_with (refine wpList_ar .f32 _ _ rfl rfl rfl ?_; intro r n hr hlt)
                  refine ⟨⟨j + 1 + 1, by omega, by go_num, ?_, ?_⟩, by simp [intOf]; omega⟩
                  · show OW _ _ _ _ _
                    rw [rcRow_succ]
                    have e : cn .f32 r = rcCell true (cn .f32 x) (cn .f32 y) m (rcAt true (cn .f32 x) (cn .f32 y) m k).1 (j + 1) := by
                      simp [rcCell, rcB, rcA, rcStay, rcOne, addF, mulF, subF, hj1, *, cn1, cn0]
                    have h1 := (HST.out r hlt).1
                    rw [set_next _ _ (rcRow_length ..) (by omega), e] at h1
                    exact h1
                  · refine below_drewN (hbi.trans ?_) _
                    exact Below.setCell (Below.refl _ _) (by simp; done) _
            · obtain rfl : j = m := by omega
              obtain ⟨r0, hc0, hr0, hr0'⟩ := HGET.out (j - 1) (by omega)
              have hc0' := (hbi.cell (p := ⟨b0, off0 + (j - 1), none⟩) hb0).trans hc0
              obtain ⟨r2, hc2, hr2, hr2'⟩ := HGET.out j (by omega)
              have hc2' := (hbi.cell (p := ⟨b0, off0 + j, none⟩) hb0).trans hc2
              clear hc0 hc2
              obtain ⟨g, cap, hv1, hg1, hg2, ⟨u0, hu0⟩, hfz, hst⟩ := HO.out.at_ (k := j) (by rw [List.length_append, List.length_replicate, rcRow_length]; omega)
              simp only [Value.slice.injEq, Option.some.injEq, Addr.mk.injEq, and_true] at hv1
              obtain ⟨rfl, hA, hB⟩ := hv1
              clear hA hB
              have HST := Lib.hid hst
              clear hst
              have hi1 : IntKind.i64.wrap ((j : Int) - 1) = ((j - 1 : Nat) : Int) := by rw [IntKind.wrap_i64]; omega
              have hi2 : (j : Int) < (j : Int) + 1 := by omega
              have hi3 : ((j - 1 : Nat) : Int) < (j : Int) + 1 := by omega
              obtain ⟨RM, NM, hM⟩ := run_ar_all Try.prog .mul rfl
              obtain ⟨RA, NA, hA⟩ := run_ar_all Try.prog .add rfl
              have hM1 := fun t x y w => (hM t x y w).1
              have hA1 := fun t x y w => (hA t x y w).1
              have HM := Lib.hid (fun t x y w => (hM t x y w).2)
              have HA := Lib.hid (fun t x y w => (hA t x y w).2)
              clear hM hA
              go_wp2_with fail
              go_region
              go_wp2_with fail
              refine ⟨⟨k + 1, r - 1, by omega, by first | go_num | (congr 1; omega), ?_, ?_⟩, by simp [intOf]; omega⟩
              · refine OW.drewN ?_ _
                generalize hR : RA _ _ _ = R
                have hR1 : cn .f32 R = rcEnd (cn .f32 x) j (rcAt true (cn .f32 x) (cn .f32 y) j k).1 (rcAt true (cn .f32 x) (cn .f32 y) j k).2 := by
                  rw [← hR, (HA.out 0 _ _ _).1, (HM.out 0 _ _ _).1, hr2', hr0', getD_append_last (rcAt_length _ _ _ _ hm1 _), getD_append_left (by rw [rcAt_length _ _ _ _ hm1]; omega)]
                  rfl
                have hR2 : R < 4294967296 := by rw [← hR]; exact (HA.out 0 _ _ _).2
                have h1 := (HST.out R hR2).1
                rw [hR1, set_last _ _ (rcRow_length ..)] at h1
                exact h1.down hz
              · refine below_drewN (Below.trans (hb.trans (hbi.mono hz)) ?_) _
                exact Below.setCell (Below.refl _ _) hz _
        · obtain ⟨r2, hc2', hr2, hr2'⟩ := HGET.out m (by omega)
          have HR2' := Lib.hid hr2'
          clear hr2'
          go_wp2_with (go_at_call 57; refine (s_l02Number _ hr2 _).mono ?_; rintro e w2 ⟨⟨r, b, rfl, hr1, hr2, hr3⟩, n1, rfl⟩; have HR2 := Lib.hid hr2; have HR3 := Lib.hid hr3; clear hr2 hr3)
          go_ret2
          obtain rfl : k = s := by omega
          have e := HR2'.out
          rw [getD_append_last (rcAt_length _ _ _ _ hm1 _)] at e
          refine ⟨⟨_, _, rfl, hr1, ?_, ?_⟩, by (repeat (first | exact Below.refl _ _ | assumption | refine below_drewN ?_ _ | refine Below.drew ?_ | refine Below.alloc ?_ (by first | omega | (simp; omega) | (simp; done) | (simp at *; omega)) _ | refine Below.setCell ?_ (by first | omega | (simp; omega) | (simp; done) | (simp at *; omega)) _ | refine Below.trans ?_ (Below.mono (by assumption) (by first | omega | (simp; omega) | (simp; done) | (simp at *; omega)))))⟩
          · rw [HR2.out, HQ.out, e]
          · rw [HR3.out, HQ.out, e]

end Go.Proofs.Ytaplnfdlcihhpaa
