/- Contracts: slices of bools copied, compared and marked. -/
import Derived.Test.YtnhenklopigfnaaK10
namespace Go.Proofs.Ytnhenklopigfnaa
set_option linter.unusedSimpArgs false
set_option linter.unusedVariables false
set_option maxRecDepth 100000
set_option maxHeartbeats 4000000
set_option linter.unusedSimpArgs false
set_option linter.unusedVariables false
open Go.RowKit
attribute [local go_sem] run_store_float run_store_complex alloc_drewN setCell_drewN
def mark3 (x : Int) : Bool := x % 3 == 0


theorem oneBoolS : OneC Try.prog 40 4 (.bool false) 1 := oneC_of Try.underlying40 (by kernel_rfl) rfl (by decide)
theorem l_toBoolS (v : Value) (xs : List Bool) (w : World) (hv : GL Value.bool w v xs) (hn : xs.length < 1099511627776) :
    Calls Try.prog 24 #[v] w fun e w' => ∃ u, e = .returned u ∧ GO Value.bool 4 w.heap.size w' u xs ∧ Below w.heap.size w w' := by
  obtain ⟨ao, c, rfl, hlen, hcell⟩ := hv
  have HC := Lib.hid hcell
  clear hcell
  go_enter Try.func24, Try.ntmps24
  go_wp2_with (refine wpList_gmake (inj := Value.bool) oneBoolS false rfl xs.length rfl rfl hn ?_; intro w1 ho hg; have HO := Lib.hid ho; clear ho)
  have hb1 : Below w.heap.size w w1 := (Below.refl _ w).grown hg (Nat.le_refl _) (by simp)
  go_loopw [4] (fun i wr => ∃ k : Nat, k ≤ xs.length ∧ i = .int .i64 k ∧ Hid (GO Value.bool 4 w.heap.size wr (.slice (some ⟨w.heap.size, 0, none⟩) xs.length xs.length) (xs.take k ++ List.replicate (xs.length - k) false)) ∧ Below w.heap.size w wr) (fun i _ => xs.length - (intOf i).toNat)
  case atStart => exact ⟨0, Nat.zero_le _, rfl, (by show GO _ _ _ _ _ _; rw [List.take_zero, List.nil_append, Nat.sub_zero]; exact HO.out), hb1⟩
  case round =>
    obtain ⟨k, hk, rfl, HO1, hb⟩ := hrel
    by_cases hlt : k < xs.length
    · have hk3 : k < (xs.take k ++ List.replicate (xs.length - k) false).length := by rw [List.length_append, List.length_take, List.length_replicate]; omega
      obtain ⟨g, cap, hv1, hg1, hg2, hu0, hfz, hst⟩ := HO1.out.at_ hk3
      simp only [Value.slice.injEq, Option.some.injEq, Addr.mk.injEq, and_true] at hv1
      obtain ⟨rfl, hA, hB⟩ := hv1
      clear hA hB
      obtain ⟨b, off, rfl, hbl, hc⟩ := HC.out k hlt
      have hc' := (hb.cell (p := ⟨b, off + k, none⟩) hbl).trans hc
      obtain ⟨xk, hxk⟩ : ∃ y, y = xs[k] := ⟨_, rfl⟩
      rw [← hxk] at hc'
      have HST := Lib.hid (hst xs[k])
      have HXK := Lib.hid hxk
      clear hst hc hxk
      go_wp2_with fail
      refine ⟨⟨k + 1, by omega, by go_num, ?_, ?_⟩, by simp [intOf]; omega⟩
      · have h1 := HST.out.1
        rw [set_copyG xs false k hlt, ← HXK.out] at h1
        exact h1
      · exact hb.setCell (Nat.le_refl _) _
    · go_wp2_with fail
      go_ret
      refine ⟨_, rfl, ?_, hb⟩
      obtain rfl : k = xs.length := by omega
      have h1 := HO1.out
      rw [List.take_length, Nat.sub_self, List.replicate_zero, List.append_nil] at h1
      exact h1

set_option maxHeartbeats 2000000 in
theorem l_eqBoolS (u v : Value) (xs : List Bool) (w : World) (hu : GL Value.bool w u xs) (hv : GL Value.bool w v xs) :
    Calls Try.prog 28 #[u, v] w fun e w' => e = .returned (.bool true) ∧ Dr w w' := by
  obtain ⟨ao, c, rfl, hlen, hcell⟩ := hu
  obtain ⟨bo, d, rfl, hlen', hcell'⟩ := hv
  have HC := Lib.hid hcell
  have HD := Lib.hid hcell'
  clear hcell hcell'
  go_enter Try.func28, Try.ntmps28
  go_wp2_with fail
  go_loopw [5] (fun i wr => ∃ k : Nat, k ≤ xs.length ∧ i = .int .i64 k ∧ ∃ d, wr = w.drewN d) (fun i _ => xs.length - (intOf i).toNat)
  case atStart => exact ⟨0, Nat.zero_le _, rfl, 0, rfl⟩
  case round =>
    obtain ⟨k, hk, rfl, dd, rfl⟩ := hrel
    by_cases hlt : k < xs.length
    · obtain ⟨b, off, rfl, hb, hc⟩ := HC.out k hlt
      obtain ⟨b', off', rfl, hb', hc'⟩ := HD.out k hlt
      obtain ⟨xk, hxk⟩ : ∃ y, y = xs[k] := ⟨_, rfl⟩
      rw [← hxk] at hc hc'
      clear hxk
      go_wp2_with fail
      go_quiet (fail)
      go_wp2_with fail
      refine ⟨⟨k + 1, by omega, by go_num, _, rfl⟩, by simp [intOf]; omega⟩
    · go_wp2_with fail
      go_ret
      exact ⟨rfl, _, rfl⟩

theorem l_markBoolS (lo hi : Nat) (v : Value) (xs : List Bool) (k : Int) (w : World) (hv : GW Value.bool 4 lo hi w v xs) (h0 : 0 ≤ k) (h1 : k ≤ 1000000000000) (hn : xs.length < 1099511627776) :
    Calls Try.prog 30 #[v, .int .i64 k] w fun e w' => e = .returned (.int .i64 (k + xs.length)) ∧ GW Value.bool 4 lo hi w' v (markG mark3 k xs.length) ∧ Wi lo hi w w' := by
  obtain ⟨ho, hh⟩ := hv
  obtain ⟨ao, cap, rfl, hc1, hc2⟩ := ho.slice
  have HV := Lib.hid ho
  have HH := Lib.hid hh
  clear ho hh
  go_enter Try.func30, Try.ntmps30
  go_wp2_with fail
  go_loopw [1, 5] (fun q i wr => ∃ j : Nat, j ≤ xs.length ∧ i = .int .i64 j ∧ q = .int .i64 (k + j) ∧ Hid (GO Value.bool 4 lo wr (.slice ao xs.length cap) (markG mark3 k j ++ xs.drop j)) ∧ w.grownBy wr (Value.slice ao xs.length cap).ownBlock) (fun _ i _ => xs.length - (intOf i).toNat)
  case atStart => exact ⟨0, Nat.zero_le _, rfl, by simp, (by show GO _ _ _ _ _ _; simpa [markG] using HV.out), World.grownBy.refl _ _⟩
  case round =>
    obtain ⟨j, hj, rfl, rfl, HO1, hg⟩ := hrel
    by_cases hlt : j < xs.length
    · have hk3 : j < (markG mark3 k j ++ xs.drop j).length := by rw [List.length_append, markG_length, List.length_drop]; omega
      obtain ⟨g, cap', hv1, hg1, hg2, hu0, hfz, hst⟩ := HO1.out.at_ hk3
      simp only [Value.slice.injEq] at hv1
      obtain ⟨rfl, hA, hB⟩ := hv1
      clear hA hB
      have HST := Lib.hid (hst (mark3 (k + j)))
      have HG := Lib.hid hg
      clear hst hg
      go_wp2_with fail
      refine ⟨⟨j + 1, by omega, by go_num, by go_num, ?_, ?_⟩, by simp [intOf]; omega⟩
      · have h1 := HST.out.1
        rw [set_markG mark3 k xs j hlt] at h1
        exact h1
      · have h2 := HST.out.2
        have h3 := HG.out
        exact ⟨h2.os.trans h3.os, h2.tape.trans h3.tape, h2.output.trans h3.output, Nat.le_trans h3.size h2.size, fun i hi hne => (h2.block i (Nat.lt_of_lt_of_le hi h3.size) hne).trans (h3.block i hi hne)⟩
    · go_wp2_with fail
      go_ret
      obtain rfl : j = xs.length := by omega
      have h1 := HO1.out
      rw [List.drop_length, List.append_nil] at h1
      refine ⟨rfl, ⟨h1, HH.out⟩, Wi.of_grown hg (fun g e => ⟨HV.out.own_ge g e, HH.out g e⟩)⟩

end Go.Proofs.Ytnhenklopigfnaa
