/- Contracts: slices of strings marked and held. -/
import Derived.Test.YtebahccjaieajaaDoorK91
import Derived.Test.YtebahccjaieajaaDoorK93
import Derived.Lib.QuietBelow
namespace Go.Proofs.YtebahccjaieajaaDoor
set_option linter.unusedSimpArgs false
set_option linter.unusedVariables false
set_option maxRecDepth 100000
set_option maxHeartbeats 4000000
open Go.RowKit
attribute [local go_sem] run_store_float run_store_complex alloc_drewN setCell_drewN

theorem Wi.any {lo hi : Nat} {w w' : World} (h : Wi 0 0 w w') : Wi lo hi w w' := ⟨h.os, h.tape, h.output, h.size, fun k hk _ => h.block k hk (by omega)⟩
/-- The mark of a number. -/
def markT (k : Int) : ByteArray := tx (109 :: Lib.decDigits k.natAbs)
theorem tmod_nat {n : Int} (h : 0 ≤ n) : n.tmod 10 = ((n.natAbs % 10 : Nat) : Int) := by
  obtain ⟨h1, h2⟩ := tmod_abs (n := n)
  have : ¬ n.tmod 10 < 0 := by have := Int.tmod_nonneg 10 h; omega
  exact h2 this

theorem oneU8M : OneC Tryd.prog 59 5 (.int .u8 0) 1 := oneC_of Tryd.underlying59 (by kernel_rfl) rfl (by decide)
theorem l_markText (k : Int) (h0 : 1 ≤ k) (h1 : k ≤ 2000000000000) (w : World) :
    Calls Tryd.prog 42 #[.int .i64 k] w fun e w' => e = .returned (.string (markT k)) ∧ Below w.heap.size w w' := by
  have hm : (Lib.decDigits k.natAbs).length ≤ 20 := by
    rw [Lib.decDigits_length]
    exact Nat.le_trans (nDigits_le 18 k.natAbs (by show _ < 10000000000000000000; omega)) (by decide)
  obtain ⟨MT, hMT⟩ : ∃ MT, MT = markT k := ⟨_, rfl⟩
  rw [← hMT]
  go_enter Tryd.func42, Tryd.ntmps42
  go_wp2_with fail
  go_loopw [0, 3] (fun q o wr => ∃ (out : List UInt8) (r : Int), q = .int .i64 r ∧ (0 ≤ r ∧ r ≤ 2000000000000) ∧ o = .string (tx out) ∧ (out = [] → 0 < r) ∧ Hid (DecAt k.natAbs out r.natAbs) ∧ Below w.heap.size w wr) (fun q _ _ => (intOf q).toNat)
  case atStart => exact ⟨[], k, rfl, ⟨by omega, h1⟩, rfl, fun _ => by omega, DecAt.start _, Below.refl _ _⟩
  case round =>
    obtain ⟨out, r, rfl, ⟨hr0, hr1⟩, rfl, hz, HD, hb⟩ := hrel
    have hsz := hb.size
    have hl := HD.out.len
    by_cases hr : 0 < r
    · have HN := Lib.hid (HD.out.step (.inr (by omega)))
      have hT := tmod_nat hr0
      have HT := Lib.hid (tdiv_abs r)
      have hq : r.natAbs % 10 < 10 := Nat.mod_lt _ (by decide)
      have HV := Lib.hid (dgt_val hq)
      have hd0 : 0 ≤ r.tdiv 10 := Int.tdiv_nonneg hr0 (by decide)
      have hd1 : r.tdiv 10 < r := by have := HT.out; omega
      obtain ⟨Q, hQ⟩ : ∃ Q : Int, Q = ((r.natAbs % 10 : Nat) : Int) := ⟨_, rfl⟩
      have hQ0 : 0 ≤ Q ∧ Q ≤ 9 := by omega
      rw [← hQ] at hT
      have HB := Lib.hid (show byV (dgt (r.natAbs % 10)) = .int .u8 (48 + Q) by unfold byV; rw [HV.out, hQ])
      have hli := GO.lit2 byV 5 w.heap.size wr [dgt (r.natAbs % 10)] rfl rfl rfl hsz (by simp)
      have RS := run_str oneU8M Tryd.underlying9 Tryd.underlying5 hli (by simp)
      simp only [List.map_cons, List.map_nil, HB.out, List.length_cons, List.length_nil, Nat.zero_add] at RS
      have HE := Lib.hid (show (⟨[dgt (r.natAbs % 10)].toArray⟩ : ByteArray) ++ tx out = tx (dgt (r.natAbs % 10) :: out) from tx_append [dgt (r.natAbs % 10)] out)
      have es : (tx out).size = out.length := tx_size _
      have n1 : ¬ 9223372036854775807 < 1 + (tx out).size := by omega
      clear HV hQ hli es
      go_wp2_with fail
      refine ⟨⟨dgt (r.natAbs % 10) :: out, r.tdiv 10, rfl, ⟨hd0, by omega⟩, ?_, (fun h => by simp at h), (by show DecAt _ _ _; rw [HT.out]; exact HN.out), hb.alloc hsz _⟩, by simp only [intOf]; omega⟩
      rw [← HE.out]
    · have hr2 : r = 0 := by omega
      subst hr2
      have hne : out ≠ [] := fun e => by have := hz e; omega
      have HA := Lib.hid (HD.out.all hne)
      have es : (tx out).size = out.length := tx_size _
      have n1 : ¬ 9223372036854775807 < 1 + (tx out).size := by omega
      have HE := Lib.hid (show (⟨#[109]⟩ : ByteArray) ++ tx out = MT by rw [hMT, markT, HA.out]; exact tx_append [109] out)
      clear es hMT
      go_wp2_with fail
      go_ret
      rw [← HE.out]
      exact ⟨rfl, hb⟩

theorem l_markStringS (lo hi : Nat) (v : Value) (xs : List ByteArray) (k : Int) (w : World) (hv : GW Value.string 9 lo hi w v xs) (h0 : 1 ≤ k) (h1 : k ≤ 1000000000000) (hn : xs.length < 1000000000000) :
    Calls Tryd.prog 18 #[v, .int .i64 k] w fun e w' => e = .returned (.int .i64 (k + xs.length)) ∧ GW Value.string 9 lo hi w' v (markG markT k xs.length) ∧ Wi lo hi w w' := by
  obtain ⟨ho, hh⟩ := hv
  obtain ⟨ao, cap, rfl, hc1, hc2⟩ := ho.slice
  have HV := Lib.hid ho
  have HH := Lib.hid hh
  clear ho hh
  go_enter Tryd.func18, Tryd.ntmps18
  go_wp2_with fail
  go_loopw [1, 5] (fun q i wr => ∃ j : Nat, j ≤ xs.length ∧ i = .int .i64 j ∧ q = .int .i64 (k + j) ∧ Hid (GO Value.string 9 lo wr (.slice ao xs.length cap) (markG markT k j ++ xs.drop j)) ∧ Wi lo hi w wr) (fun _ i _ => xs.length - (intOf i).toNat)
  case atStart => exact ⟨0, Nat.zero_le _, rfl, by simp, (by show GO _ _ _ _ _ _; simpa [markG] using HV.out), Wi.refl _ _ _⟩
  case round =>
    obtain ⟨j, hj, rfl, rfl, HO1, hg⟩ := hrel
    by_cases hlt : j < xs.length
    · have hsz := hg.size
      go_wp2_with fail
      refine (l_markText (k + j) (by omega) (by omega) _).mono ?_; rintro e w1 ⟨rfl, hb⟩
      have hk3 : j < (markG markT k j ++ xs.drop j).length := by rw [List.length_append, markG_length, List.length_drop]; omega
      obtain ⟨g, cap', hv1, hg1, hg2, hu0, hfz, hst⟩ := (HO1.out.keep hb).at_ hk3
      simp only [Value.slice.injEq] at hv1
      obtain ⟨rfl, hA, hB⟩ := hv1
      clear hA hB
      have HST := Lib.hid (hst (markT (k + j)))
      have HG := Lib.hid (hg.trans (Wi.any (Wi.of_below hb)))
      clear hst hg
      go_wp2_with fail
      refine ⟨⟨j + 1, by omega, by go_num, by go_num, ?_, HG.out.trans (Wi.of_grown HST.out.2 (fun g' e => ?_))⟩, by simp [intOf]; omega⟩
      · have h1 := HST.out.1
        rw [set_markG markT k xs j hlt] at h1
        exact h1
      · injection e with e
        subst e
        exact ⟨hg1, HH.out g rfl⟩
    · go_wp2_with fail
      go_ret
      obtain rfl : j = xs.length := by omega
      have h1 := HO1.out
      rw [List.drop_length, List.append_nil] at h1
      exact ⟨rfl, ⟨h1, HH.out⟩, hg⟩

theorem l_heldStringS (v : Value) (k : Int) (n : Nat) (w : World) (hv : GL Value.string w v (markG markT k n)) (h0 : 1 ≤ k) (h1 : k ≤ 1000000000000) (hn : n < 1000000000000) :
    Calls Tryd.prog 19 #[v, .int .i64 k] w fun e w' => e = .returned (.int .i64 (k + n)) ∧ Below w.heap.size w w' := by
  obtain ⟨ao, c, rfl, hlen, hcell⟩ := hv
  have hcell2 : ∀ i, i < n → ∃ b off, ao = some ⟨b, off, none⟩ ∧ b < w.heap.size ∧ w.cell? ⟨b, off + i, none⟩ = some (Value.string (markT (k + i))) := fun i hi => by
    have h2 := hcell i (by rw [markG_length]; exact hi)
    rw [markG_get] at h2
    exact h2
  have HC := Lib.hid hcell2
  clear hcell2
  clear hcell
  rw [markG_length] at hlen ⊢
  have mixed : Tryd.prog.follows .mixedOrders = true := by kernel_rfl
  go_enter Tryd.func19, Tryd.ntmps19
  go_wp2_with fail
  go_loopw [1, 5] (fun q i wr => ∃ j : Nat, j ≤ n ∧ i = .int .i64 j ∧ q = .int .i64 (k + j) ∧ Below w.heap.size w wr) (fun _ i _ => n - (intOf i).toNat)
  case atStart => exact ⟨0, Nat.zero_le _, rfl, by simp, Below.refl _ _⟩
  case round =>
    obtain ⟨j, hj, rfl, rfl, hb⟩ := hrel
    by_cases hlt : j < n
    · obtain ⟨b, off, rfl, hbl, hc⟩ := HC.out j hlt
      have hc1 := (hb.cell (p := ⟨b, off + j, none⟩) hbl).trans hc
      have hcr := fun d os => cell_regrown hc1 d os
      have cD := fun d os => Calls.regrown_of (d := d) (os := os) (w := wr) (l_markText (k + j) (by omega) (by omega) _)
      generalize markT (k + (j : Int)) = mt at *
      clear hc
      go_wp2_with fail
      refine wp_region_quiet_below (by assumption) (by kernel_rfl) ?_
      repeat (quiet_step (first | exact cD _ _))
      refine wpQuiet_nil ?_
      intro w3 hw'
      obtain ⟨⟨dd, osq⟩, hw''⟩ := hw'
      have hbz := below_regrown wr dd osq
      rw [← hw''] at hbz
      clear hw''
      go_wp2_with fail
      exact ⟨⟨j + 1, by omega, by go_num, by go_num, hb.trans (hbz.mono hb.size)⟩, by simp [intOf]; omega⟩
    · go_wp2_with fail
      go_ret
      obtain rfl : j = n := by omega
      exact ⟨rfl, hb⟩

end Go.Proofs.YtebahccjaieajaaDoor
