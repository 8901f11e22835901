/- Contracts: slices of strings: their sizes, copies, comparison. -/
import Derived.Test.YtebahccjaieajaaDoorTx
import Derived.Test.YtebahccjaieajaaDoorOpen2
import Derived.Test.YtebahccjaieajaaDoorK10
namespace Go.Proofs.YtebahccjaieajaaDoor
set_option linter.unusedSimpArgs false
set_option linter.unusedVariables false
set_option maxRecDepth 100000
set_option maxHeartbeats 4000000
open Go.RowKit
attribute [local go_sem] run_store_float run_store_complex alloc_drewN setCell_drewN

def allStr (ss : List ByteArray) : Prop := ∀ s ∈ ss, s.size ≤ 9223372036854775807
section
variable {P : Program} {w : World} {base : Nat} {spare : Nat → Bool} {held : Bool} {H : Type} {enc : TypeId × Value → H}
theorem open_strs {fuel : Nat} {t e : TypeId} {v : Value} {x : DataW H × List MemPlace} (ht : P.underlying t = some (.slice e)) (he : P.underlying e = some .string) (hc : P.cellsOf e = 1)
    (h : DataW.trod enc P w base spare held fuel t [v] = some x) : ∃ ss, GL Value.string w v ss ∧ allStr ss := by
  obtain ⟨vs, n, h1, h2⟩ := open_gs ht hc h
  obtain ⟨xs, rfl, h3⟩ := unmap (inj := Value.string) (p := fun s => s.size ≤ 9223372036854775807) vs (fun u hu => by
    obtain ⟨y, hy⟩ := h2 u hu
    obtain ⟨b, hb, hw⟩ := DataW.trod_string he hy
    simp only [List.cons.injEq, and_true] at hb
    exact ⟨b, hb, hw.2⟩)
  exact ⟨xs, gl_map h1, h3⟩
end
/-- The lengths of the first k, and the number of all. -/
def szTo (ss : List ByteArray) : Nat → Nat
  | 0 => ss.length
  | k + 1 => szTo ss k + (ss.getD k ⟨#[]⟩).size
theorem szTo_mono (ss : List ByteArray) {i j : Nat} (h : i ≤ j) : szTo ss i ≤ szTo ss j := by
  induction h with
  | refl => exact Nat.le_refl _
  | step _ ih => rw [szTo]; omega
def szSQ (ss : List ByteArray) (left : Int) : Int := if (szTo ss ss.length : Int) ≤ left then left - szTo ss ss.length else -1

theorem l_szStringS (v : Value) (ss : List ByteArray) (left : Int) (w : World) (hv : GL Value.string w v ss) (hs : allStr ss) (h0 : 0 ≤ left) (h1 : left ≤ 1048576) :
    Calls Tryd.prog 11 #[v, .int .i64 left] w fun e w' => e = .returned (.int .i64 (szSQ ss left)) ∧ Dr w w' := by
  obtain ⟨ao, c, rfl, hlen, hcell⟩ := hv
  have HC := Lib.hid hcell
  have HS := Lib.hid hs
  clear hcell hs
  by_cases hb : (ss.length : Int) ≤ left
  · have j1 : IntKind.i64.wrap (left - (ss.length : Int)) = left - (ss.length : Int) := by rw [IntKind.wrap_i64]; omega
    go_enter Tryd.func11, Tryd.ntmps11
    go_wp2_with fail
    go_loopw [1, 5] (fun lf i wr => ∃ k : Nat, k ≤ ss.length ∧ i = .int .i64 k ∧ (∃ q : Int, lf = .int .i64 q ∧ q + szTo ss k = left ∧ 0 ≤ q) ∧ ∃ d, wr = w.drewN d) (fun _ i _ => ss.length - (intOf i).toNat)
    case atStart => exact ⟨0, Nat.zero_le _, rfl, ⟨left - ss.length, rfl, (by simp only [szTo]; omega), by omega⟩, 0, rfl⟩
    case round =>
      obtain ⟨k, hk, rfl, ⟨q, rfl, hq, hq0⟩, d, rfl⟩ := hrel
      clear j1
      by_cases hlt : k < ss.length
      · obtain ⟨b, off, rfl, hbl, hc⟩ := HC.out k hlt
        have hm := HS.out ss[k] (List.getElem_mem hlt)
        have HN := Lib.hid (show szTo ss (k + 1) = szTo ss k + ss[k].size by rw [szTo, List.getD_eq_getElem?_getD, List.getElem?_eq_getElem hlt]; rfl)
        have HT := Lib.hid (szTo_mono ss (show k + 1 ≤ ss.length from hlt))
        obtain ⟨s, hs⟩ : ∃ s, s = ss[k] := ⟨_, rfl⟩
        rw [← hs] at hc hm HN
        clear hs
        by_cases hf : (s.size : Int) ≤ q
        all_goals go_wp2_with fail
        · refine ⟨⟨k + 1, by omega, by go_num, ⟨_, rfl, ?_, by omega⟩, _, rfl⟩, by simp [intOf]; omega⟩
          have := HN.out
          omega
        · go_ret
          refine ⟨ret_int ?_, _, rfl⟩
          have h2 := HT.out
          have h3 := HN.out
          unfold szSQ
          rw [if_neg (by omega)]
      · have hkn : k = ss.length := by omega
        subst hkn
        go_wp2_with fail
        go_ret
        exact ⟨ret_int (by unfold szSQ; rw [if_pos (by omega)]; omega), _, rfl⟩
  · have hl : ss.length ≤ szTo ss ss.length := szTo_mono ss (Nat.zero_le _)
    go_enter Tryd.func11, Tryd.ntmps11
    go_wp2_with fail
    go_ret
    refine ⟨ret_int ?_, Dr.refl _⟩
    unfold szSQ
    rw [if_neg (by omega)]

theorem oneStringS : OneC Tryd.prog 25 9 (.string ByteArray.empty) 16 := oneC_of Tryd.underlying25 (by kernel_rfl) rfl (by decide)
theorem l_toStringS (v : Value) (xs : List ByteArray) (w : World) (hv : GL Value.string w v xs) (hn : xs.length < 1099511627776) :
    Calls Tryd.prog 13 #[v] w fun e w' => ∃ u, e = .returned u ∧ GO Value.string 9 w.heap.size w' u xs ∧ Below w.heap.size w w' := by
  obtain ⟨ao, c, rfl, hlen, hcell⟩ := hv
  have HC := Lib.hid hcell
  clear hcell
  go_enter Tryd.func13, Tryd.ntmps13
  go_wp2_with (refine wpList_gmake (inj := Value.string) oneStringS ByteArray.empty rfl xs.length rfl rfl hn ?_; intro w1 ho hg; have HO := Lib.hid ho; clear ho)
  have hb1 : Below w.heap.size w w1 := (Below.refl _ w).grown hg (Nat.le_refl _) (by simp)
  go_loopw [4] (fun i wr => ∃ k : Nat, k ≤ xs.length ∧ i = .int .i64 k ∧ Hid (GO Value.string 9 w.heap.size wr (.slice (some ⟨w.heap.size, 0, none⟩) xs.length xs.length) (xs.take k ++ List.replicate (xs.length - k) ByteArray.empty)) ∧ Below w.heap.size w wr) (fun i _ => xs.length - (intOf i).toNat)
  case atStart => exact ⟨0, Nat.zero_le _, rfl, (by show GO _ _ _ _ _ _; rw [List.take_zero, List.nil_append, Nat.sub_zero]; exact HO.out), hb1⟩
  case round =>
    obtain ⟨k, hk, rfl, HO1, hb⟩ := hrel
    by_cases hlt : k < xs.length
    · have hk3 : k < (xs.take k ++ List.replicate (xs.length - k) ByteArray.empty).length := by rw [List.length_append, List.length_take, List.length_replicate]; omega
      obtain ⟨g, cap, hv1, hg1, hg2, hu0, hfz, hst⟩ := HO1.out.at_ hk3
      simp only [Value.slice.injEq, Option.some.injEq, Addr.mk.injEq, and_true] at hv1
      obtain ⟨rfl, hA, hB⟩ := hv1
      clear hA hB
      obtain ⟨b, off, rfl, hbl, hc⟩ := HC.out k hlt
      have hc' := (hb.cell (p := ⟨b, off + k, none⟩) hbl).trans hc
      obtain ⟨xk, hxk⟩ : ∃ y, y = xs[k] := ⟨_, rfl⟩
      rw [← hxk] at hc'
      have HST := Lib.hid (hst xs[k])
      have HXK := Lib.hid hxk
      clear hst hc hxk
      go_wp2_with fail
      refine ⟨⟨k + 1, by omega, by go_num, ?_, ?_⟩, by simp [intOf]; omega⟩
      · have h1 := HST.out.1
        rw [set_copyG xs ByteArray.empty k hlt, ← HXK.out] at h1
        exact h1
      · exact hb.setCell (Nat.le_refl _) _
    · go_wp2_with fail
      go_ret
      refine ⟨_, rfl, ?_, hb⟩
      obtain rfl : k = xs.length := by omega
      have h1 := HO1.out
      rw [List.take_length, Nat.sub_self, List.replicate_zero, List.append_nil] at h1
      exact h1

set_option maxHeartbeats 2000000 in
theorem l_eqStringS (u v : Value) (xs : List ByteArray) (w : World) (hu : GL Value.string w u xs) (hv : GL Value.string w v xs) :
    Calls Tryd.prog 15 #[u, v] w fun e w' => e = .returned (.bool true) ∧ Dr w w' := by
  obtain ⟨ao, c, rfl, hlen, hcell⟩ := hu
  obtain ⟨bo, d, rfl, hlen', hcell'⟩ := hv
  have HC := Lib.hid hcell
  have HD := Lib.hid hcell'
  clear hcell hcell'
  go_enter Tryd.func15, Tryd.ntmps15
  go_wp2_with fail
  go_loopw [5] (fun i wr => ∃ k : Nat, k ≤ xs.length ∧ i = .int .i64 k ∧ ∃ d, wr = w.drewN d) (fun i _ => xs.length - (intOf i).toNat)
  case atStart => exact ⟨0, Nat.zero_le _, rfl, 0, rfl⟩
  case round =>
    obtain ⟨k, hk, rfl, dd, rfl⟩ := hrel
    by_cases hlt : k < xs.length
    · obtain ⟨b, off, rfl, hb, hc⟩ := HC.out k hlt
      obtain ⟨b', off', rfl, hb', hc'⟩ := HD.out k hlt
      obtain ⟨xk, hxk⟩ : ∃ y, y = xs[k] := ⟨_, rfl⟩
      rw [← hxk] at hc hc'
      clear hxk
      go_wp2_with fail
      go_quiet (fail)
      go_wp2_with fail
      refine ⟨⟨k + 1, by omega, by go_num, _, rfl⟩, by simp [intOf]; omega⟩
    · go_wp2_with fail
      go_ret
      exact ⟨rfl, _, rfl⟩

end Go.Proofs.YtebahccjaieajaaDoor
