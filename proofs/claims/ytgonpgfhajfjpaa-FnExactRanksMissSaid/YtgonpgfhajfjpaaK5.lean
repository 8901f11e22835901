/- Contracts: slices copied, compared, marked and held. -/
import Derived.Test.YtgonpgfhajfjpaaK4
import Derived.Test.YtgonpgfhajfjpaaOwn
import Derived.Deep.RegionWith
namespace Go.Proofs.Ytgonpgfhajfjpaa
set_option linter.unusedSimpArgs false
set_option linter.unusedVariables false
set_option maxRecDepth 100000
set_option maxHeartbeats 4000000
open Go.RowKit
attribute [local go_sem] run_store_float run_store_complex alloc_drewN setCell_drewN

theorem f32s : F32s Try.prog 23 37 := f32s_of Try.underlying23 (by kernel_rfl)

/-- An integer as a float32. -/
def fI (k : Int) : Nat := floatOfInt .f32 k
theorem fI_not_nan (k : Int) : (FloatKind.f32.format.read (fI k)).isNaN = false := write_not_nan S (.number (k < 0) k.natAbs 0) rfl
theorem fI_lt (k : Int) : fI k < 4294967296 := Ieee.Format.write_lt S (.number (k < 0) k.natAbs 0)
theorem cn_fI (k : Int) : cn .f32 (fI k) = fI k := cn_of_not (fI_not_nan k)
def markL (k : Int) (n : Nat) : List Nat := (List.range n).map fun (i : Nat) => fI (k + (i : Int))
theorem markL_length (k : Int) (n : Nat) : (markL k n).length = n := by simp [markL]
theorem markL_succ (k : Int) (n : Nat) : markL k (n + 1) = markL k n ++ [fI (k + n)] := by simp [markL, List.range_succ]
theorem set_mark (k : Int) (cs : List Nat) (j : Nat) (hj : j < cs.length) : (markL k j ++ cs.drop j).set j (fI (k + j)) = markL k (j + 1) ++ cs.drop (j + 1) := by
  rw [List.set_append_right _ _ (by rw [markL_length]; exact Nat.le_refl _), markL_length, Nat.sub_self, markL_succ, List.append_assoc]
  rw [List.drop_eq_getElem_cons hj]
  rfl
theorem set_copy (cs : List Nat) (j : Nat) (hj : j < cs.length) : (cs.take j ++ List.replicate (cs.length - j) 0).set j cs[j] = cs.take (j + 1) ++ List.replicate (cs.length - (j + 1)) 0 := by
  have h1 : (cs.take j).length = j := by rw [List.length_take]; omega
  rw [List.set_append_right _ _ (by omega), h1, Nat.sub_self, take_snoc cs j hj, List.append_assoc]
  have h2 : cs.length - j = (cs.length - (j + 1)) + 1 := by omega
  rw [h2, List.replicate_succ]
  rfl


theorem l_toFloat32S (v : Value) (cs : List Nat) (w : World) (hv : SB w v cs) (hn : cs.length < 1099511627776) :
    Calls Try.prog 7 #[v] w fun e w' => ∃ u, e = .returned u ∧ OW 37 w.heap.size w' u cs ∧ Below w.heap.size w w' := by
  obtain ⟨ao, c, xs, rfl, hcs, hlen, hbx, hcell⟩ := hv
  have hl : xs.length = cs.length := by rw [← hcs]; simp
  have HCS := Lib.hid hcs
  have HC := Lib.hid hcell
  have HX := Lib.hid hbx
  have HL := Lib.hid hl
  have hn' : xs.length < 1099511627776 := by omega
  clear hcell hbx hl hcs hn
  go_enter Try.func7, Try.ntmps7
  go_wp2_with (refine wpList_make32 f32s xs.length rfl rfl hn' ?_; intro w1 ho hg; have HO := Lib.hid ho; clear ho)
  have hb1 : Below w.heap.size w w1 := (Below.refl _ w).grown hg (Nat.le_refl _) (by simp)
  go_loopw [4] (fun i wr => ∃ k : Nat, k ≤ xs.length ∧ i = .int .i64 k ∧ Hid (OW 37 w.heap.size wr (.slice (some ⟨w.heap.size, 0, none⟩) xs.length xs.length) (cs.take k ++ List.replicate (cs.length - k) 0)) ∧ Below w.heap.size w wr) (fun i _ => xs.length - (intOf i).toNat)
  case atStart => exact ⟨0, Nat.zero_le _, rfl, (by show OW _ _ _ _ _; rw [List.take_zero, List.nil_append, Nat.sub_zero, ← HL.out]; exact HO.out), hb1⟩
  case round =>
    obtain ⟨k, hk, rfl, HO1, hb⟩ := hrel
    by_cases hlt : k < xs.length
    · have hk2 : k < cs.length := by have := HL.out; omega
      have hk3 : k < (cs.take k ++ List.replicate (cs.length - k) 0).length := by rw [List.length_append, List.length_take, List.length_replicate]; omega
      obtain ⟨g, cap, hv1, hg1, hg2, ⟨u0, hu0⟩, hfz, hst⟩ := HO1.out.at_ hk3
      simp only [Value.slice.injEq, Option.some.injEq, Addr.mk.injEq, and_true] at hv1
      obtain ⟨rfl, hA, hB⟩ := hv1
      clear hA hB
      obtain ⟨b, off, rfl, hbl, hc⟩ := HC.out k hlt
      have hc' := (hb.cell (p := ⟨b, off + k, none⟩) hbl).trans hc
      have hx1 := HX.out _ (List.getElem_mem hlt)
      have HST := Lib.hid (hst xs[k] hx1)
      clear hst hc
      go_wp2_with fail
      refine ⟨⟨k + 1, by omega, by go_num, ?_, ?_⟩, by simp [intOf]; omega⟩
      · have h1 := HST.out.1
        have h2 : cn .f32 xs[k] = cs[k] := by simp [← HCS.out]
        rw [h2, set_copy cs k hk2] at h1
        exact h1
      · exact hb.setCell (Nat.le_refl _) _
    · go_wp2_with fail
      go_ret
      refine ⟨_, rfl, ?_, hb⟩
      obtain rfl : k = xs.length := by omega
      have h1 := HO1.out
      rw [HL.out, List.take_length, Nat.sub_self, List.replicate_zero, List.append_nil, ← HL.out] at h1
      exact h1


set_option maxHeartbeats 2000000 in
theorem l_eqFloat32S (u v : Value) (cs : List Nat) (w : World) (hu : SL w u cs) (hv : SL w v cs) :
    Calls Try.prog 11 #[u, v] w fun e w' => e = .returned (.bool true) ∧ Dr w w' := by
  obtain ⟨ao, c, xs, rfl, hx, hlen, hcell⟩ := hu
  obtain ⟨bo, d, ys, rfl, hy, hlen', hcell'⟩ := hv
  have hl : xs.length = ys.length := by have := congrArg List.length (hx.trans hy.symm); simpa using this
  have hl2 : ((xs.length : Int) != (ys.length : Int)) = false := by simp; omega
  have HC := Lib.hid hcell
  have HD := Lib.hid hcell'
  have HXY := Lib.hid (hx.trans hy.symm)
  have HL := Lib.hid hl
  clear hcell hcell' hx hy hl
  go_enter Try.func11, Try.ntmps11
  go_wp2_with fail
  go_loopw [5] (fun i wr => ∃ k : Nat, k ≤ xs.length ∧ i = .int .i64 k ∧ ∃ d, wr = w.drewN d) (fun i _ => xs.length - (intOf i).toNat)
  case atStart => exact ⟨0, Nat.zero_le _, rfl, 0, rfl⟩
  case round =>
    obtain ⟨k, hk, rfl, dd, rfl⟩ := hrel
    by_cases hlt : k < xs.length
    · have hlt' : k < ys.length := by have := HL.out; omega
      obtain ⟨b, off, rfl, hb, hc⟩ := HC.out k hlt
      obtain ⟨b', off', rfl, hb', hc'⟩ := HD.out k hlt'
      have heq : cn .f32 xs[k] = cn .f32 ys[k] := by
        have h1 : (xs.map (cn .f32))[k]'(by simpa using hlt) = (ys.map (cn .f32))[k]'(by simpa using hlt') := by simp only [HXY.out]
        simpa using h1
      have hi1 : (k : Int) < (xs.length : Int) := by omega
      have hi2 : (k : Int) < (ys.length : Int) := by omega
      obtain ⟨R, N, hR⟩ : ∃ (R : Nat → World → Nat) (N : Nat → World → Nat), ∀ x wx, (convert 37 46 (.float .f32 x)).run Try.prog wx = .ok (.float .f64 (R x wx)) (wx.drewN (N x wx)) ∧ cn .f64 (R x wx) = wd (cn .f32 x) := by
        refine ⟨fun x wx => Classical.choose (run_wd (P := Try.prog) wx 37 46 x (by kernel_rfl) (by kernel_rfl)), fun x wx => Classical.choose (Classical.choose_spec (run_wd (P := Try.prog) wx 37 46 x (by kernel_rfl) (by kernel_rfl))), fun x wx => ?_⟩
        have := Classical.choose_spec (Classical.choose_spec (run_wd (P := Try.prog) wx 37 46 x (by kernel_rfl) (by kernel_rfl)))
        exact ⟨this.1, this.2.1⟩
      have hrun := fun x wx => (hR x wx).1
      have HR := Lib.hid (fun x wx => (hR x wx).2)
      have HEQ := Lib.hid heq
      clear hR heq
      go_wp2_with fail
      go_region_with (go_at_call 26; refine (l_sameFloat _ _ (by rw [HR.out, HR.out, HEQ.out]) _).mono ?_; rintro z w3 ⟨rfl, n3, rfl⟩)
      all_goals
        go_wp2_with fail
        refine ⟨⟨k + 1, by omega, by go_num, _, rfl⟩, by simp [intOf]; omega⟩
    · go_wp2_with fail
      go_ret
      exact ⟨rfl, _, rfl⟩


theorem l_markFloat32S (base : Nat) (v : Value) (cs : List Nat) (k : Int) (w : World) (hv : OW 37 base w v cs) (h0 : 0 ≤ k) (h1 : k ≤ 1000000000000) (hn : cs.length < 1099511627776) :
    Calls Try.prog 13 #[v, .int .i64 k] w fun e w' => e = .returned (.int .i64 (k + cs.length)) ∧ OW 37 base w' v (markL k cs.length) ∧ w.grownBy w' v.ownBlock := by
  have hvv := hv
  obtain ⟨xs, ho, hcs, hbx⟩ := hvv
  have hl : xs.length = cs.length := by rw [← hcs]; simp
  obtain ⟨ao, cap, rfl⟩ : ∃ ao cap, v = .slice ao xs.length cap := by
    rcases ho.2 with ⟨rfl, h0⟩ | ⟨g, cap, cur, rfl, _⟩
    · exact ⟨none, 0, by rw [h0]⟩
    · exact ⟨_, _, rfl⟩
  have HL := Lib.hid hl
  have HV := Lib.hid hv
  have hn' : xs.length < 1099511627776 := by omega
  clear hbx hl hcs hn ho hv
  go_enter Try.func13, Try.ntmps13
  go_wp2_with fail
  go_loopw [1, 5] (fun q i wr => ∃ j : Nat, j ≤ xs.length ∧ i = .int .i64 j ∧ q = .int .i64 (k + j) ∧ Hid (OW 37 base wr (.slice ao xs.length cap) (markL k j ++ cs.drop j)) ∧ w.grownBy wr (Value.slice ao xs.length cap).ownBlock) (fun _ i _ => xs.length - (intOf i).toNat)
  case atStart => exact ⟨0, Nat.zero_le _, rfl, by simp, (by show OW _ _ _ _ _; simpa [markL] using HV.out), World.grownBy.refl _ _⟩
  case round =>
    obtain ⟨j, hj, rfl, rfl, HO1, hg⟩ := hrel
    by_cases hlt : j < xs.length
    · have hk2 : j < cs.length := by have := HL.out; omega
      have hk3 : j < (markL k j ++ cs.drop j).length := by rw [List.length_append, markL_length, List.length_drop]; omega
      obtain ⟨g, cap', hv1, hg1, hg2, ⟨u0, hu0⟩, hfz, hst⟩ := HO1.out.at_ hk3
      simp only [Value.slice.injEq] at hv1
      obtain ⟨rfl, hA, hB⟩ := hv1
      clear hA hB
      have HST := Lib.hid (hst (fI (k + j)) (fI_lt _))
      have HG := Lib.hid hg
      clear hst hg
      go_wp2_with fail
      refine ⟨⟨j + 1, by omega, by go_num, by go_num, ?_, ?_⟩, by simp [intOf]; omega⟩
      · have h1 := HST.out.1
        rw [cn_fI, set_mark k cs j hk2] at h1
        exact h1
      · have h2 := HST.out.2
        have h3 := HG.out
        exact ⟨h2.os.trans h3.os, h2.tape.trans h3.tape, h2.output.trans h3.output, Nat.le_trans h3.size h2.size, fun i hi hne => (h2.block i (Nat.lt_of_lt_of_le hi h3.size) hne).trans (h3.block i hi hne)⟩
    · go_wp2_with fail
      go_ret
      obtain rfl : j = xs.length := by omega
      refine ⟨ret_int (by have := HL.out; omega), ?_, hg⟩
      have h1 := HO1.out
      rw [HL.out, List.drop_length, List.append_nil, ← HL.out] at h1
      rw [← HL.out]
      exact h1

end Go.Proofs.Ytgonpgfhajfjpaa
