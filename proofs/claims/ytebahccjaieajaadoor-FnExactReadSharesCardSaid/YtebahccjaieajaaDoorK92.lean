/- Contracts: the journal of lines, by the reference. -/
import Derived.Test.YtebahccjaieajaaDoorK91
import Derived.Lib.QuietBelow
namespace Go.Proofs.YtebahccjaieajaaDoor
set_option linter.unusedSimpArgs false
set_option linter.unusedVariables false
set_option maxRecDepth 100000
set_option maxHeartbeats 4000000
open Go.RowKit
attribute [local go_sem] run_store_float run_store_complex alloc_drewN setCell_drewN

def ln (ss : List ByteArray) : List (List UInt8) := ss.map (·.data.toList)
theorem ln_length (ss : List ByteArray) : (ln ss).length = ss.length := List.length_map ..
theorem ln_get {ss : List ByteArray} {k : Nat} (hk : k < ss.length) : (ln ss).getD k [] = ss[k].data.toList := by
  rw [List.getD_eq_getElem?_getD, ln, List.getElem?_map, List.getElem?_eq_getElem hk]; rfl
theorem map_ln (ls : List (List UInt8)) : ln (ls.map tx) = ls := by
  rw [ln, List.map_map, show ((fun x : ByteArray => x.data.toList) ∘ tx) = id from funext fun l => tx_data l, List.map_id]

set_option maxRecDepth 100000 in
theorem s_l08Journal (v : Value) (ss : List ByteArray) (w : World) (hv : GL Value.string w v ss) (hl : (jrTo (ln ss) ss.length).length ≤ 1000000) :
    Calls Tryd.prog 33 #[v] w fun e w' => e = .returned (.string (tx (jrTo (ln ss) ss.length))) ∧ Below w.heap.size w w' := by
  obtain ⟨ao, c, rfl, hlen, hcell⟩ := hv
  have HC := Lib.hid hcell
  clear hcell
  have mixed : Tryd.prog.follows .mixedOrders = true := by kernel_rfl
  go_enter Tryd.func33, Tryd.ntmps33
  go_wp2_with fail
  go_loopw [3, 4, 5] (fun o n i wr => ∃ k : Nat, k ≤ ss.length ∧ i = .int .i64 k ∧ n = .int .i64 (jrCk (ln ss) k) ∧ o = .string (tx (jrTo (ln ss) k)) ∧ Below w.heap.size w wr) (fun _ _ i _ => ss.length - (intOf i).toNat)
  case atStart => exact ⟨0, Nat.zero_le _, rfl, rfl, rfl, Below.refl _ _⟩
  case round =>
    obtain ⟨k, hk, rfl, rfl, rfl, hb⟩ := hrel
    by_cases hlt : k < ss.length
    · obtain ⟨b, off, rfl, hbl, hc⟩ := HC.out k hlt
      have hc' := (hb.cell (p := ⟨b, off + k, none⟩) hbl).trans hc
      have B0 := jrCk_bound (ln ss) k
      have B1 := jrCk_bound (ln ss) (k + 1)
      have L0 := jrTo_mono (ln ss) (show k + 1 ≤ ss.length from hlt)
      have L1 := jrTo_step (ln ss) k
      have HCK := Lib.hid (show jrCk (ln ss) (k + 1) = ckL (jrCk (ln ss) k) ss[k].data.toList by rw [jrCk, ln_get hlt])
      have HTO := Lib.hid (show jrTo (ln ss) (k + 1) = jrTo (ln ss) k ++ jrLine (jrCk (ln ss) (k + 1)) ss[k].data.toList by rw [jrTo, ln_get hlt])
      rw [ln_get hlt, data_len] at L1
      obtain ⟨s, hs⟩ : ∃ s, s = ss[k] := ⟨_, rfl⟩
      rw [← hs] at hc' HCK HTO L1
      clear hs hc
      go_wp2_with fail
      refine (s_l01Check s (by omega) _ B0.1 B0.2 _).mono ?_; rintro e w1 ⟨rfl, hd⟩
      rw [← HCK.out]
      have hb1 := hb.trans (hd.below w.heap.size)
      have hc1 := ((hd.below wr.heap.size).cell (p := ⟨b, off + k, none⟩) (Nat.lt_of_lt_of_le hbl hb.size)).trans hc'
      clear hd hc'
      have hcr := fun d os => cell_regrown hc1 d os
      have cD := fun d os => Calls.regrown_of (d := d) (os := os) (w := w1) (s_l01Dec (jrCk (ln ss) (k + 1)) (by omega) (by omega) _)
      have e0 : (tx (jrTo (ln ss) k)).size = (jrTo (ln ss) k).length := tx_size _
      have e1 : (tx (Lib.itoa (jrCk (ln ss) (k + 1)))).size = (Lib.itoa (jrCk (ln ss) (k + 1))).length := tx_size _
      have HE := Lib.hid (show tx (jrTo (ln ss) k) ++ (tx (Lib.itoa (jrCk (ln ss) (k + 1))) ++ ⟨#[32]⟩ ++ s ++ ⟨#[10]⟩) = tx (jrTo (ln ss) (k + 1)) by
        rw [HTO.out, jrLine, ← tx_append, ← tx_append, ← tx_append, ← tx_append, data_tx]; rfl)
      generalize tx (jrTo (ln ss) k) = a0 at *
      generalize tx (Lib.itoa (jrCk (ln ss) (k + 1))) = a1 at *
      have n1 : ¬ 9223372036854775807 < a1.size + 1 := by omega
      have n2 : ¬ 9223372036854775807 < a1.size + 1 + s.size := by omega
      have n3 : ¬ 9223372036854775807 < a1.size + 1 + s.size + 1 := by omega
      have n4 : ¬ 9223372036854775807 < a0.size + (a1.size + 1 + s.size + 1) := by omega
      clear e0 e1
      go_wp2_with fail
      refine wp_region_quiet_below (by assumption) (by kernel_rfl) ?_
      repeat (quiet_step (first | exact cD _ _))
      refine wpQuiet_nil ?_
      intro _ hw'
      obtain ⟨⟨dq, osq⟩, hw''⟩ := hw'
      subst hw''
      go_wp2_with fail
      refine ⟨⟨k + 1, by omega, by go_num, rfl, ?_, hb1.trans ((below_regrown w1 dq osq).mono hb1.size)⟩, by simp [intOf]; omega⟩
      rw [← HE.out]
    · obtain rfl : k = ss.length := by omega
      go_wp2_with fail
      go_ret
      exact ⟨rfl, hb⟩

end Go.Proofs.YtebahccjaieajaaDoor
