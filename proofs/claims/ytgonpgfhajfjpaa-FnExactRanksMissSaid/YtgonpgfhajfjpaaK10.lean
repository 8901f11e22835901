/- Contracts: slices of integers, bools and strings copied, compared, marked and held. -/
import Derived.Test.YtgonpgfhajfjpaaK5
import Derived.Test.YtgonpgfhajfjpaaGen
namespace Go.Proofs.Ytgonpgfhajfjpaa
set_option linter.unusedSimpArgs false
set_option linter.unusedVariables false
set_option maxRecDepth 100000
set_option maxHeartbeats 4000000
open Go.RowKit
attribute [local go_sem] run_store_float run_store_complex alloc_drewN setCell_drewN

theorem set_copyG {α : Type} (xs : List α) (z : α) (j : Nat) (hj : j < xs.length) : (xs.take j ++ List.replicate (xs.length - j) z).set j xs[j] = xs.take (j + 1) ++ List.replicate (xs.length - (j + 1)) z := by
  have h1 : (xs.take j).length = j := by rw [List.length_take]; omega
  rw [List.set_append_right _ _ (by omega), h1, Nat.sub_self, List.take_succ_eq_append_getElem hj, List.append_assoc]
  have h2 : xs.length - j = (xs.length - (j + 1)) + 1 := by omega
  rw [h2, List.replicate_succ]
  rfl
def markG {α : Type} (f : Int → α) (k : Int) (n : Nat) : List α := (List.range n).map fun (i : Nat) => f (k + (i : Int))
theorem markG_length {α : Type} (f : Int → α) (k : Int) (n : Nat) : (markG f k n).length = n := by simp [markG]
theorem markG_succ {α : Type} (f : Int → α) (k : Int) (n : Nat) : markG f k (n + 1) = markG f k n ++ [f (k + n)] := by simp [markG, List.range_succ]
theorem set_markG {α : Type} (f : Int → α) (k : Int) (cs : List α) (j : Nat) (hj : j < cs.length) : (markG f k j ++ cs.drop j).set j (f (k + j)) = markG f k (j + 1) ++ cs.drop (j + 1) := by
  rw [List.set_append_right _ _ (by rw [markG_length]; exact Nat.le_refl _), markG_length, Nat.sub_self, markG_succ, List.append_assoc]
  rw [List.drop_eq_getElem_cons hj]
  rfl
theorem markG_get {α : Type} (f : Int → α) (k : Int) (n j : Nat) (h : j < (markG f k n).length) : (markG f k n)[j] = f (k + j) := by simp [markG]


set_option maxHeartbeats 2000000 in
theorem l_eqInt64S (u v : Value) (xs : List Int) (w : World) (hu : GL (Value.int .i64) w u xs) (hv : GL (Value.int .i64) w v xs) :
    Calls Try.prog 9 #[u, v] w fun e w' => e = .returned (.bool true) ∧ Dr w w' := by
  obtain ⟨ao, c, rfl, hlen, hcell⟩ := hu
  obtain ⟨bo, d, rfl, hlen', hcell'⟩ := hv
  have HC := Lib.hid hcell
  have HD := Lib.hid hcell'
  clear hcell hcell'
  go_enter Try.func9, Try.ntmps9
  go_wp2_with fail
  go_loopw [5] (fun i wr => ∃ k : Nat, k ≤ xs.length ∧ i = .int .i64 k ∧ ∃ d, wr = w.drewN d) (fun i _ => xs.length - (intOf i).toNat)
  case atStart => exact ⟨0, Nat.zero_le _, rfl, 0, rfl⟩
  case round =>
    obtain ⟨k, hk, rfl, dd, rfl⟩ := hrel
    by_cases hlt : k < xs.length
    · obtain ⟨b, off, rfl, hb, hc⟩ := HC.out k hlt
      obtain ⟨b', off', rfl, hb', hc'⟩ := HD.out k hlt
      obtain ⟨xk, hxk⟩ : ∃ y, y = xs[k] := ⟨_, rfl⟩
      rw [← hxk] at hc hc'
      clear hxk
      go_wp2_with fail
      go_quiet (fail)
      go_wp2_with fail
      refine ⟨⟨k + 1, by omega, by go_num, _, rfl⟩, by simp [intOf]; omega⟩
    · go_wp2_with fail
      go_ret
      exact ⟨rfl, _, rfl⟩

theorem l_markInt64S (lo hi : Nat) (v : Value) (xs : List Int) (k : Int) (w : World) (hv : GW (Value.int .i64) 2 lo hi w v xs) (h0 : 0 ≤ k) (h1 : k ≤ 1000000000000) (hn : xs.length < 1099511627776) :
    Calls Try.prog 14 #[v, .int .i64 k] w fun e w' => e = .returned (.int .i64 (k + xs.length)) ∧ GW (Value.int .i64) 2 lo hi w' v (markG id k xs.length) ∧ Wi lo hi w w' := by
  obtain ⟨ho, hh⟩ := hv
  obtain ⟨ao, cap, rfl, hc1, hc2⟩ := ho.slice
  have HV := Lib.hid ho
  have HH := Lib.hid hh
  clear ho hh
  go_enter Try.func14, Try.ntmps14
  go_wp2_with fail
  go_loopw [1, 5] (fun q i wr => ∃ j : Nat, j ≤ xs.length ∧ i = .int .i64 j ∧ q = .int .i64 (k + j) ∧ Hid (GO (Value.int .i64) 2 lo wr (.slice ao xs.length cap) (markG id k j ++ xs.drop j)) ∧ w.grownBy wr (Value.slice ao xs.length cap).ownBlock) (fun _ i _ => xs.length - (intOf i).toNat)
  case atStart => exact ⟨0, Nat.zero_le _, rfl, by simp, (by show GO _ _ _ _ _ _; simpa [markG] using HV.out), World.grownBy.refl _ _⟩
  case round =>
    obtain ⟨j, hj, rfl, rfl, HO1, hg⟩ := hrel
    by_cases hlt : j < xs.length
    · have hk3 : j < (markG id k j ++ xs.drop j).length := by rw [List.length_append, markG_length, List.length_drop]; omega
      obtain ⟨g, cap', hv1, hg1, hg2, hu0, hfz, hst⟩ := HO1.out.at_ hk3
      simp only [Value.slice.injEq] at hv1
      obtain ⟨rfl, hA, hB⟩ := hv1
      clear hA hB
      have HST := Lib.hid (hst (id (k + j)))
      have HG := Lib.hid hg
      clear hst hg
      go_wp2_with fail
      refine ⟨⟨j + 1, by omega, by go_num, by go_num, ?_, ?_⟩, by simp [intOf]; omega⟩
      · have h1 := HST.out.1
        rw [set_markG id k xs j hlt] at h1
        exact h1
      · have h2 := HST.out.2
        have h3 := HG.out
        exact ⟨h2.os.trans h3.os, h2.tape.trans h3.tape, h2.output.trans h3.output, Nat.le_trans h3.size h2.size, fun i hi hne => (h2.block i (Nat.lt_of_lt_of_le hi h3.size) hne).trans (h3.block i hi hne)⟩
    · go_wp2_with fail
      go_ret
      obtain rfl : j = xs.length := by omega
      have h1 := HO1.out
      rw [List.drop_length, List.append_nil] at h1
      refine ⟨rfl, ⟨h1, HH.out⟩, Wi.of_grown hg (fun g e => ⟨HV.out.own_ge g e, HH.out g e⟩)⟩

theorem l_heldInt64S (v : Value) (k : Int) (n : Nat) (w : World) (hv : GL (Value.int .i64) w v (markG id k n)) (h0 : 0 ≤ k) (h1 : k ≤ 1000000000000) (hn : n < 1099511627776) :
    Calls Try.prog 15 #[v, .int .i64 k] w fun e w' => e = .returned (.int .i64 (k + n)) ∧ Dr w w' := by
  obtain ⟨ao, c, rfl, hlen, hcell⟩ := hv
  have hcell2 : ∀ i, i < n → ∃ b off, ao = some ⟨b, off, none⟩ ∧ b < w.heap.size ∧ w.cell? ⟨b, off + i, none⟩ = some ((Value.int .i64) (id (k + i))) := fun i hi => by
    have h2 := hcell i (by rw [markG_length]; exact hi)
    rw [markG_get] at h2
    exact h2
  have HC := Lib.hid hcell2
  clear hcell2
  clear hcell
  rw [markG_length] at hlen ⊢
  go_enter Try.func15, Try.ntmps15
  go_wp2_with fail
  go_loopw [1, 5] (fun q i wr => ∃ j : Nat, j ≤ n ∧ i = .int .i64 j ∧ q = .int .i64 (k + j) ∧ ∃ d, wr = w.drewN d) (fun _ i _ => n - (intOf i).toNat)
  case atStart => exact ⟨0, Nat.zero_le _, rfl, by simp, 0, rfl⟩
  case round =>
    obtain ⟨j, hj, rfl, rfl, dd, rfl⟩ := hrel
    by_cases hlt : j < n
    · obtain ⟨b, off, rfl, hb, hc⟩ := HC.out j hlt
      go_wp2_with fail
      refine ⟨⟨j + 1, by omega, by go_num, by go_num, _, rfl⟩, by simp [intOf]; omega⟩
    · go_wp2_with fail
      go_ret
      obtain rfl : j = n := by omega
      exact ⟨rfl, _, rfl⟩

end Go.Proofs.Ytgonpgfhajfjpaa
