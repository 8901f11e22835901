/- Contracts: numbers are divided by their sum, and weights by misses, by the program (shared, WeightsByMiss). -/
import Derived.Test.YtkkomajokdlkeaaQ3
import Derived.Test.YtkkomajokdlkeaaQ15
import Derived.Test.YtkkomajokdlkeaaQ18
import Derived.Test.YtkkomajokdlkeaaQ21
namespace Go.Proofs.Ytkkomajokdlkeaa
set_option linter.unusedSimpArgs false
set_option linter.unusedVariables false
set_option maxRecDepth 100000
set_option maxHeartbeats 4000000
set_option linter.unusedSimpArgs false
set_option linter.unusedVariables false
open Go.RowKit
attribute [local go_sem] run_store_float run_store_complex alloc_drewN setCell_drewN
/-- Each by the sum. -/
def shL (cs : List Nat) : List Nat := cs.map fun x => divF x (sumL cs)
theorem shL_length (cs : List Nat) : (shL cs).length = cs.length := by simp [shL]
theorem take_one {cs : List Nat} {k : Nat} (h : k < cs.length) : cs.take (k + 1) = cs.take k ++ [cs.getD k 0] := by
  rw [List.take_add_one]
  simp [h]

theorem i_shared (v : Value) (cs : List Nat) (w : World) (hv : SB w v cs) (hn : cs.length ≤ 1000) :
    Calls Try.prog 111 #[v] w fun e w' => (∃ u, e = .returned u ∧ OW 33 w.heap.size w' u (shL cs)) ∧ Below w.heap.size w w' := by
  have HV := Lib.hid hv
  obtain ⟨ao, c, rfl, -, -, hg1⟩ := hv.get rfl
  have HG1 := Lib.hid hg1
  clear hv hg1
  go_enter Try.func111, Try.ntmps111
  go_wp2_with fail
  refine (i_addUp _ cs _ HV.out.sl).mono ?_; rintro z w1 ⟨⟨s, rfl, hs, hss⟩, dn, rfl⟩
  have HSS := Lib.hid hss
  clear hss
  have HO0 := Lib.hid (show OW 33 w.heap.size ((w.drewN dn).alloc (.cells #[] 33)) (.slice (some ⟨w.heap.size, 0, none⟩) 0 0) [] from OW.empty _ (w.drewN dn) rfl (Nat.le_refl _))
  have HW0 := Lib.hid (show Below w.heap.size w ((w.drewN dn).alloc (.cells #[] 33)) from (below_drewN (Below.refl _ _) _).alloc (Nat.le_refl _) _)
  go_wp2_with fail
  go_loopw [12, 4] (fun i o wr => ∃ k : Nat, k ≤ cs.length ∧ i = .int .i64 (k : Int) ∧ Hid (OW 33 w.heap.size wr o ((cs.take k).map fun x => divF x (sumL cs))) ∧ Hid (Below w.heap.size w wr)) (fun i _ _ => cs.length - (intOf i).toNat)
  case atStart => exact ⟨0, Nat.zero_le _, rfl, by first | exact HO0 | exact Lib.hid (OW.drewN HO0.out _), by first | exact HW0 | exact Lib.hid (below_drewN HW0.out _)⟩
  case round =>
    clear HO0 HW0
    obtain ⟨k, hk, rfl, HO, HW⟩ := hrel
    have hzr := HW.out.size
    by_cases hlt : k < cs.length
    · obtain ⟨b1, o1, x, rfl, hbl1, hc1, hx, hcx⟩ := HG1.out k hlt
      have hc1' := (HW.out.cell (p := ⟨b1, o1 + k, none⟩) hbl1).trans hc1
      have hji : (k : Int) < (cs.length : Int) := by omega
      have HCX := Lib.hid hcx
      have HLN := Lib.hid (show ((cs.take k).map fun x => divF x (sumL cs)).length < 1099511627776 by rw [List.length_map, List.length_take]; omega)
      have hne : ∀ g, Value.ownBlock u4 = some g → w.heap.size ≤ g := HO.out.own_ge
      clear hcx hc1
      go_wp2_with (first | (refine wpList_ar .f32 _ _ rfl rfl rfl ?_; intro r n hr hlt) | (refine wpList_fc .f32 _ _ rfl rfl rfl ?_) | (refine wpList_fc_g rfl .f32 _ _ rfl rfl rfl ?_) | (refine wpList_ar_g rfl .f32 _ _ rfl rfl rfl ?_; intro r n hr hlt) | (at_builtin; refine wpList_app1 f32s w.heap.size u4 ((cs.take k).map fun x => divF x (sumL cs)) rfl (by first | exact OW.drewN (OW.alloc HO.out _) _ | exact OW.alloc HO.out _) _ _ rfl (by simp; rfl) (by exact hlt) HLN.out (by simp; omega) ?_; intro v' w' ho' hg'; have HO' := Lib.hid ho'; have HG' := Lib.hid hg'; have HR := Lib.hid hr; clear ho' hg' hr hlt))
      refine ⟨⟨k + 1, by omega, by go_num, ?_, Lib.hid ((below_drewN (HW.out.alloc HW.out.size _) _).grown HG'.out (by simp; omega) hne)⟩, by simp [intOf]; omega⟩
      show Hid (OW _ _ _ _ _)
      have e : ((cs.take (k + 1)).map fun x => divF x (sumL cs)) = ((cs.take k).map fun x => divF x (sumL cs)) ++ [cn .f32 r] := by
        rw [take_one (by omega), List.map_append, List.map_singleton, HR.out, HCX.out, HSS.out]; rfl
      rw [e]
      exact HO'
    · obtain rfl : k = cs.length := by omega
      go_wp2_with fail
      go_ret
      refine ⟨⟨_, rfl, ?_⟩, HW.out⟩
      have h := HO.out
      rw [List.take_length] at h
      exact h

theorem i_WeightsByMiss (v : Value) (cs : List Nat) (w : World) (hv : SB w v cs) (h1 : 1 ≤ cs.length) (h8 : cs.length ≤ 8) (hm : allAbove cs = true) :
    Calls Try.prog 49 #[v] w fun e w' => LB 33 w.heap.size w' e (given (shL (cs.map fun x => divF 1065353216 x))) ∧ Below w.heap.size w w' := by
  have HV := Lib.hid hv
  have HM := Lib.hid hm
  obtain ⟨ao, c, rfl, -, -, hg1⟩ := hv.get rfl
  have HG1 := Lib.hid hg1
  clear hv hg1 hm
  have i1 : ¬ ((cs.length : Int) < 1) := by omega
  have i2 : ¬ ((8 : Int) < (cs.length : Int)) := by omega
  go_enter Try.func49, Try.ntmps49
  go_wp2_with fail
  refine (i_areMore _ cs _ HV.out.sl).mono ?_; rintro z w1 ⟨rfl, hd⟩
  obtain ⟨dn, rfl⟩ := hd
  rw [HM.out]
  have HO0 := Lib.hid (show OW 33 w.heap.size ((w.drewN dn).alloc (.cells #[] 33)) (.slice (some ⟨w.heap.size, 0, none⟩) 0 0) [] from OW.empty _ (w.drewN dn) rfl (Nat.le_refl _))
  have HW0 := Lib.hid (show Below w.heap.size w ((w.drewN dn).alloc (.cells #[] 33)) from (below_drewN (Below.refl _ _) _).alloc (Nat.le_refl _) _)
  go_wp2_with fail
  go_loopw [23, 4] (fun i o wr => ∃ k : Nat, k ≤ cs.length ∧ i = .int .i64 (k : Int) ∧ Hid (OW 33 w.heap.size wr o ((cs.take k).map fun x => divF 1065353216 x)) ∧ Hid (Below w.heap.size w wr)) (fun i _ _ => cs.length - (intOf i).toNat)
  case atStart => exact ⟨0, Nat.zero_le _, rfl, by first | exact HO0 | exact Lib.hid (OW.drewN HO0.out _), by first | exact HW0 | exact Lib.hid (below_drewN HW0.out _)⟩
  case round =>
    clear HO0 HW0
    obtain ⟨k, hk, rfl, HO, HW⟩ := hrel
    have hzr := HW.out.size
    by_cases hlt : k < cs.length
    · obtain ⟨b1, o1, x, rfl, hbl1, hc1, hx, hcx⟩ := HG1.out k hlt
      have hc1' := (HW.out.cell (p := ⟨b1, o1 + k, none⟩) hbl1).trans hc1
      have hji : (k : Int) < (cs.length : Int) := by omega
      have HCX := Lib.hid hcx
      have HLN := Lib.hid (show ((cs.take k).map fun x => divF 1065353216 x).length < 1099511627776 by rw [List.length_map, List.length_take]; omega)
      have hne : ∀ g, Value.ownBlock u4 = some g → w.heap.size ≤ g := HO.out.own_ge
      clear hcx hc1
      go_wp2_with (first | (refine wpList_ar .f32 _ _ rfl rfl rfl ?_; intro r n hr hlt) | (refine wpList_fc .f32 _ _ rfl rfl rfl ?_) | (refine wpList_fc_g rfl .f32 _ _ rfl rfl rfl ?_) | (refine wpList_ar_g rfl .f32 _ _ rfl rfl rfl ?_; intro r n hr hlt) | (at_builtin; refine wpList_app1 f32s w.heap.size u4 ((cs.take k).map fun x => divF 1065353216 x) rfl (by first | exact OW.drewN (OW.alloc HO.out _) _ | exact OW.alloc HO.out _) _ _ rfl (by simp; rfl) (by exact hlt) HLN.out (by simp; omega) ?_; intro v' w' ho' hg'; have HO' := Lib.hid ho'; have HG' := Lib.hid hg'; have HR := Lib.hid hr; clear ho' hg' hr hlt))
      refine ⟨⟨k + 1, by omega, by go_num, ?_, Lib.hid ((below_drewN (HW.out.alloc HW.out.size _) _).grown HG'.out (by simp; omega) hne)⟩, by simp [intOf]; omega⟩
      show Hid (OW _ _ _ _ _)
      have e : ((cs.take (k + 1)).map fun x => divF 1065353216 x) = ((cs.take k).map fun x => divF 1065353216 x) ++ [cn .f32 r] := by
        rw [take_one (by omega), List.map_append, List.map_singleton, HR.out, HCX.out, show cn .f32 1065353216 = 1065353216 by decide +kernel]; rfl
      rw [e]
      exact HO'
    · obtain rfl : k = cs.length := by omega
      have h := HO.out
      rw [List.take_length] at h
      have HL := Lib.hid h
      clear h HO
      go_wp2_with fail
      refine (i_shared _ _ _ HL.out.sb (by rw [List.length_map]; omega)).mono ?_; rintro z w5 ⟨⟨u, rfl, ho⟩, hb⟩
      have HO5 := Lib.hid ho
      have HB5 := Lib.hid (HW.out.trans (hb.mono hzr))
      clear ho hb
      go_wp2_with fail
      refine (i_ifAll u _ _ HO5.out.sb.sl).mono ?_; rintro z w6 ⟨⟨u', b', rfl, hu', hb'⟩, hd⟩
      have HD := Lib.hid hd
      have HU6 := Lib.hid hu'
      have HB6 := Lib.hid hb'
      clear hd hu' hb'
      go_wp2_with fail
      go_ret2
      refine ⟨?_, HB5.out.trans ((HD.out.below _).mono HB5.out.size)⟩
      obtain ⟨d6, rfl⟩ := HD.out
      exact LB.given ((HO5.out.down hzr).drewN _) HU6.out HB6.out rfl

end Go.Proofs.Ytkkomajokdlkeaa

namespace Go.Proofs.Ytkkomajokdlkeaa
set_option linter.unusedSimpArgs false
set_option linter.unusedVariables false
set_option maxRecDepth 100000
set_option maxHeartbeats 4000000
set_option linter.unusedSimpArgs false
set_option linter.unusedVariables false
open Go.RowKit
attribute [local go_sem] run_store_float run_store_complex alloc_drewN setCell_drewN
/-- The numbers of all lists at a place. -/
def numsAt (css : List (List Nat)) (i : Nat) : List Nat := css.map fun c => c.getD i 0
def blL (G : Nat → Nat) (n : Nat) : List Nat := (List.range n).map G
theorem blL_succ (G : Nat → Nat) (n : Nat) : blL G (n + 1) = blL G n ++ [G n] := by simp [blL, List.range_succ]
theorem take_oneL {css : List (List Nat)} {k : Nat} (h : k < css.length) : css.take (k + 1) = css.take k ++ [css.getD k []] := by
  rw [List.take_add_one]
  simp [h]

theorem i_blendedB (v : Value) (css : List (List Nat)) (n pb : Nat) (w : World) (hv : SS w v css) (h1 : 1 ≤ css.length) (h8 : css.length ≤ 8) (hn : ∀ c ∈ css, c.length = n) (hn96 : n ≤ 96) {G : Nat → Nat}
    (hC : ∀ i, i < n → ∀ (W : World) (u : Value), Below w.heap.size w W → SB W u (numsAt css i) → Calls Try.prog 113 #[u, .pointer (some ⟨pb, 0, none⟩)] W fun e w' => (∃ r, e = .returned (.float .f32 r) ∧ r < 4294967296 ∧ cn .f32 r = G i) ∧ Below W.heap.size W w') :
    Calls Try.prog 112 #[v, .func (.func 113) #[] #[.pointer (some ⟨pb, 0, none⟩)]] w fun e w' => (∃ u, e = .returned u ∧ OW 33 w.heap.size w' u (blL G n)) ∧ Below w.heap.size w w' := by
  have HV := Lib.hid hv
  have HC := Lib.hid hC
  have HN := Lib.hid hn
  obtain ⟨ao, c, rfl, -, -, hget⟩ := hv.get rfl
  have HG := Lib.hid hget
  obtain ⟨b0, o0, u0, rfl, hb0, hc0, hs0⟩ := hget 0 (by omega)
  rw [Nat.add_zero] at hc0
  have hl0 : (css.getD 0 []).length = n := by
    rw [List.getD_eq_getElem?_getD, List.getElem?_eq_getElem (by omega)]
    exact hn _ (List.getElem_mem _)
  obtain ⟨a0, c0, rfl, -⟩ := hs0.sl.slice
  rw [hl0] at hc0
  clear hv hget hC hn hs0
  have HO0 := Lib.hid (show OW 33 w.heap.size (w.alloc (.cells #[] 33)) (.slice (some ⟨w.heap.size, 0, none⟩) 0 0) (blL G 0) from OW.empty _ w rfl (Nat.le_refl _))
  have HW0 := Lib.hid (show Below w.heap.size w (w.alloc (.cells #[] 33)) from (Below.refl _ _).alloc (Nat.le_refl _) _)
  have HE := fun (args : Array Value) (w : World) => (show (callFunc 113 args).run Try.prog w = .ok (.enter 113 args) w by kernel_rfl)
  have z0 : (0 : Int) < (css.length : Int) := by omega
  go_enter Try.func112, Try.ntmps112
  go_wp2_with fail
  go_loopw [15, 5] (fun i o wr => ∃ k : Nat, k ≤ n ∧ i = .int .i64 (k : Int) ∧ Hid (OW 33 w.heap.size wr o (blL G k)) ∧ Hid (Below w.heap.size w wr)) (fun i _ _ => n - (intOf i).toNat)
  case atStart => exact ⟨0, Nat.zero_le _, rfl, HO0, HW0⟩
  case round =>
    clear HO0 HW0
    obtain ⟨k, hk, rfl, HO, HW⟩ := hrel
    have hzr := HW.out.size
    by_cases hlt : k < n
    · have hji : (k : Int) < (n : Int) := by omega
      obtain ⟨wo, hwo⟩ : ∃ q, q = wr := ⟨_, rfl⟩
      subst hwo
      have HM0 := Lib.hid (show OW 33 wo.heap.size (wo.alloc (.cells #[] 33)) (.slice (some ⟨wo.heap.size, 0, none⟩) 0 0) [] from OW.empty _ wo rfl (Nat.le_refl _))
      have HX0 := Lib.hid (show Below wo.heap.size wo (wo.alloc (.cells #[] 33)) from (Below.refl _ _).alloc (Nat.le_refl _) _)
      go_wp2_with fail
      go_loopw [21, 7] (fun i o wr => ∃ j : Nat, j ≤ css.length ∧ i = .int .i64 (j : Int) ∧ Hid (OW 33 wo.heap.size wr o ((css.take j).map fun c => c.getD k 0)) ∧ Hid (Below wo.heap.size wo wr)) (fun i _ _ => css.length - (intOf i).toNat)
      case atStart => exact ⟨0, Nat.zero_le _, rfl, HM0, HX0⟩
      case round =>
        clear HM0 HX0
        obtain ⟨j, hj, rfl, HM, HX⟩ := hrel
        have hzx := HX.out.size
        by_cases hlt2 : j < css.length
        · have hjj : (j : Int) < (css.length : Int) := by omega
          obtain ⟨b, off, us, e1, hbl, hcu, hsb⟩ := HG.out j hlt2
          obtain ⟨rfl, rfl⟩ : b = b0 ∧ off = o0 := by simp only [Option.some.injEq, Addr.mk.injEq] at e1; exact ⟨e1.1.symm, e1.2.1.symm⟩
          have hBX := HW.out.trans (HX.out.mono hzr)
          have hcu' := (hBX.cell (p := ⟨b, off + j, none⟩) hbl).trans hcu
          have hlj : (css.getD j []).length = n := by
            rw [List.getD_eq_getElem?_getD, List.getElem?_eq_getElem hlt2]
            exact HN.out _ (List.getElem_mem _)
          obtain ⟨ao2, cc2, rfl, -, -, hget2⟩ := hsb.get hlj
          obtain ⟨b2, o2, x, rfl, hbl2, hcx, hx, hcn⟩ := hget2 k hlt
          have hcx' := (hBX.cell (p := ⟨b2, o2 + k, none⟩) hbl2).trans hcx
          have HCN := Lib.hid hcn
          have HLN := Lib.hid (show ((css.take j).map fun c => c.getD k 0).length < 1099511627776 by rw [List.length_map, List.length_take]; omega)
          have hne : ∀ g, Value.ownBlock u7 = some g → wo.heap.size ≤ g := HM.out.own_ge
          clear hcu hcx hcn hget2 hsb hBX e1
          go_wp2_with (at_builtin; refine wpList_app1 f32s wo.heap.size u7 ((css.take j).map fun c => c.getD k 0) rfl (OW.alloc HM.out _) _ x rfl (by first | (simp; done) | (simp; rfl)) hx HLN.out (by simp; omega) ?_; intro v' w' ho' hg'; have HO' := Lib.hid ho'; have HG' := Lib.hid hg'; clear ho' hg')
          refine ⟨⟨j + 1, by omega, by go_num, ?_, Lib.hid ((HX.out.alloc HX.out.size _).grown HG'.out (by simp; omega) hne)⟩, by simp [intOf]; omega⟩
          show Hid (OW _ _ _ _ _)
          have e : ((css.take (j + 1)).map fun c => c.getD k 0) = ((css.take j).map fun c => c.getD k 0) ++ [cn .f32 x] := by
            rw [take_oneL hlt2, List.map_append, List.map_singleton, HCN.out]
          rw [e]
          exact HO'
        · obtain rfl : j = css.length := by omega
          have hnm := HM.out
          rw [List.take_length] at hnm
          have HM2 := Lib.hid (show OW 33 wo.heap.size wr u7 (numsAt css k) from hnm)
          have HB2 := Lib.hid (HW.out.trans (HX.out.mono hzr))
          have HO2 := Lib.hid (HO.out.keep HX.out)
          have hc := HC.out k hlt wr u7 HB2.out HM2.out.sb
          have HLN := Lib.hid (show (blL G k).length < 1099511627776 by simp [blL]; omega)
          have hne : ∀ g, Value.ownBlock u5 = some g → w.heap.size ≤ g := HO.out.own_ge
          clear hnm HM
          go_wp2_with fail
          refine hc.mono ?_; rintro z w5 ⟨⟨r, rfl, hr, hcr⟩, hb⟩
          have HCR := Lib.hid hcr
          have HB5 := Lib.hid (HB2.out.trans (hb.mono HB2.out.size))
          have HO5 := Lib.hid (HO2.out.keep hb)
          have hz5 := HB5.out.size
          clear hb hcr
          go_wp2_with (at_builtin; refine wpList_app1 f32s w.heap.size u5 (blL G k) rfl (OW.alloc HO5.out _) _ r rfl (by first | (simp; done) | (simp; rfl)) hr HLN.out (by simp; omega) ?_; intro v' w' ho' hg'; have HO' := Lib.hid ho'; have HG' := Lib.hid hg'; clear ho' hg')
          refine ⟨⟨k + 1, by omega, by go_num, ?_, Lib.hid ((HB5.out.alloc HB5.out.size _).grown HG'.out (by simp; omega) hne)⟩, by simp [intOf]; omega⟩
          show Hid (OW _ _ _ _ _)
          rw [blL_succ, ← HCR.out]
          exact HO'
    · obtain rfl : k = n := by omega
      go_wp2_with fail
      go_ret
      exact ⟨⟨_, rfl, HO.out⟩, HW.out⟩

theorem i_blendedM (v : Value) (css : List (List Nat)) (n : Nat) (w : World) (hv : SS w v css) (h1 : 1 ≤ css.length) (h8 : css.length ≤ 8) (hn : ∀ c ∈ css, c.length = n) (hn96 : n ≤ 96) {G : Nat → Nat}
    (hC : ∀ i, i < n → ∀ (W : World) (u : Value), Below w.heap.size w W → SB W u (numsAt css i) → Calls Try.prog 114 #[u] W fun e w' => (∃ r, e = .returned (.float .f32 r) ∧ r < 4294967296 ∧ cn .f32 r = G i) ∧ Below W.heap.size W w') :
    Calls Try.prog 112 #[v, .func (.func 114) #[] #[]] w fun e w' => (∃ u, e = .returned u ∧ OW 33 w.heap.size w' u (blL G n)) ∧ Below w.heap.size w w' := by
  have HV := Lib.hid hv
  have HC := Lib.hid hC
  have HN := Lib.hid hn
  obtain ⟨ao, c, rfl, -, -, hget⟩ := hv.get rfl
  have HG := Lib.hid hget
  obtain ⟨b0, o0, u0, rfl, hb0, hc0, hs0⟩ := hget 0 (by omega)
  rw [Nat.add_zero] at hc0
  have hl0 : (css.getD 0 []).length = n := by
    rw [List.getD_eq_getElem?_getD, List.getElem?_eq_getElem (by omega)]
    exact hn _ (List.getElem_mem _)
  obtain ⟨a0, c0, rfl, -⟩ := hs0.sl.slice
  rw [hl0] at hc0
  clear hv hget hC hn hs0
  have HO0 := Lib.hid (show OW 33 w.heap.size (w.alloc (.cells #[] 33)) (.slice (some ⟨w.heap.size, 0, none⟩) 0 0) (blL G 0) from OW.empty _ w rfl (Nat.le_refl _))
  have HW0 := Lib.hid (show Below w.heap.size w (w.alloc (.cells #[] 33)) from (Below.refl _ _).alloc (Nat.le_refl _) _)
  have HE := fun (args : Array Value) (w : World) => (show (callFunc 114 args).run Try.prog w = .ok (.enter 114 args) w by kernel_rfl)
  have z0 : (0 : Int) < (css.length : Int) := by omega
  go_enter Try.func112, Try.ntmps112
  go_wp2_with fail
  go_loopw [15, 5] (fun i o wr => ∃ k : Nat, k ≤ n ∧ i = .int .i64 (k : Int) ∧ Hid (OW 33 w.heap.size wr o (blL G k)) ∧ Hid (Below w.heap.size w wr)) (fun i _ _ => n - (intOf i).toNat)
  case atStart => exact ⟨0, Nat.zero_le _, rfl, HO0, HW0⟩
  case round =>
    clear HO0 HW0
    obtain ⟨k, hk, rfl, HO, HW⟩ := hrel
    have hzr := HW.out.size
    by_cases hlt : k < n
    · have hji : (k : Int) < (n : Int) := by omega
      obtain ⟨wo, hwo⟩ : ∃ q, q = wr := ⟨_, rfl⟩
      subst hwo
      have HM0 := Lib.hid (show OW 33 wo.heap.size (wo.alloc (.cells #[] 33)) (.slice (some ⟨wo.heap.size, 0, none⟩) 0 0) [] from OW.empty _ wo rfl (Nat.le_refl _))
      have HX0 := Lib.hid (show Below wo.heap.size wo (wo.alloc (.cells #[] 33)) from (Below.refl _ _).alloc (Nat.le_refl _) _)
      go_wp2_with fail
      go_loopw [21, 7] (fun i o wr => ∃ j : Nat, j ≤ css.length ∧ i = .int .i64 (j : Int) ∧ Hid (OW 33 wo.heap.size wr o ((css.take j).map fun c => c.getD k 0)) ∧ Hid (Below wo.heap.size wo wr)) (fun i _ _ => css.length - (intOf i).toNat)
      case atStart => exact ⟨0, Nat.zero_le _, rfl, HM0, HX0⟩
      case round =>
        clear HM0 HX0
        obtain ⟨j, hj, rfl, HM, HX⟩ := hrel
        have hzx := HX.out.size
        by_cases hlt2 : j < css.length
        · have hjj : (j : Int) < (css.length : Int) := by omega
          obtain ⟨b, off, us, e1, hbl, hcu, hsb⟩ := HG.out j hlt2
          obtain ⟨rfl, rfl⟩ : b = b0 ∧ off = o0 := by simp only [Option.some.injEq, Addr.mk.injEq] at e1; exact ⟨e1.1.symm, e1.2.1.symm⟩
          have hBX := HW.out.trans (HX.out.mono hzr)
          have hcu' := (hBX.cell (p := ⟨b, off + j, none⟩) hbl).trans hcu
          have hlj : (css.getD j []).length = n := by
            rw [List.getD_eq_getElem?_getD, List.getElem?_eq_getElem hlt2]
            exact HN.out _ (List.getElem_mem _)
          obtain ⟨ao2, cc2, rfl, -, -, hget2⟩ := hsb.get hlj
          obtain ⟨b2, o2, x, rfl, hbl2, hcx, hx, hcn⟩ := hget2 k hlt
          have hcx' := (hBX.cell (p := ⟨b2, o2 + k, none⟩) hbl2).trans hcx
          have HCN := Lib.hid hcn
          have HLN := Lib.hid (show ((css.take j).map fun c => c.getD k 0).length < 1099511627776 by rw [List.length_map, List.length_take]; omega)
          have hne : ∀ g, Value.ownBlock u7 = some g → wo.heap.size ≤ g := HM.out.own_ge
          clear hcu hcx hcn hget2 hsb hBX e1
          go_wp2_with (at_builtin; refine wpList_app1 f32s wo.heap.size u7 ((css.take j).map fun c => c.getD k 0) rfl (OW.alloc HM.out _) _ x rfl (by first | (simp; done) | (simp; rfl)) hx HLN.out (by simp; omega) ?_; intro v' w' ho' hg'; have HO' := Lib.hid ho'; have HG' := Lib.hid hg'; clear ho' hg')
          refine ⟨⟨j + 1, by omega, by go_num, ?_, Lib.hid ((HX.out.alloc HX.out.size _).grown HG'.out (by simp; omega) hne)⟩, by simp [intOf]; omega⟩
          show Hid (OW _ _ _ _ _)
          have e : ((css.take (j + 1)).map fun c => c.getD k 0) = ((css.take j).map fun c => c.getD k 0) ++ [cn .f32 x] := by
            rw [take_oneL hlt2, List.map_append, List.map_singleton, HCN.out]
          rw [e]
          exact HO'
        · obtain rfl : j = css.length := by omega
          have hnm := HM.out
          rw [List.take_length] at hnm
          have HM2 := Lib.hid (show OW 33 wo.heap.size wr u7 (numsAt css k) from hnm)
          have HB2 := Lib.hid (HW.out.trans (HX.out.mono hzr))
          have HO2 := Lib.hid (HO.out.keep HX.out)
          have hc := HC.out k hlt wr u7 HB2.out HM2.out.sb
          have HLN := Lib.hid (show (blL G k).length < 1099511627776 by simp [blL]; omega)
          have hne : ∀ g, Value.ownBlock u5 = some g → w.heap.size ≤ g := HO.out.own_ge
          clear hnm HM
          go_wp2_with fail
          refine hc.mono ?_; rintro z w5 ⟨⟨r, rfl, hr, hcr⟩, hb⟩
          have HCR := Lib.hid hcr
          have HB5 := Lib.hid (HB2.out.trans (hb.mono HB2.out.size))
          have HO5 := Lib.hid (HO2.out.keep hb)
          have hz5 := HB5.out.size
          clear hb hcr
          go_wp2_with (at_builtin; refine wpList_app1 f32s w.heap.size u5 (blL G k) rfl (OW.alloc HO5.out _) _ r rfl (by first | (simp; done) | (simp; rfl)) hr HLN.out (by simp; omega) ?_; intro v' w' ho' hg'; have HO' := Lib.hid ho'; have HG' := Lib.hid hg'; clear ho' hg')
          refine ⟨⟨k + 1, by omega, by go_num, ?_, Lib.hid ((HB5.out.alloc HB5.out.size _).grown HG'.out (by simp; omega) hne)⟩, by simp [intOf]; omega⟩
          show Hid (OW _ _ _ _ _)
          rw [blL_succ, ← HCR.out]
          exact HO'
    · obtain rfl : k = n := by omega
      go_wp2_with fail
      go_ret
      exact ⟨⟨_, rfl, HO.out⟩, HW.out⟩

end Go.Proofs.Ytkkomajokdlkeaa
