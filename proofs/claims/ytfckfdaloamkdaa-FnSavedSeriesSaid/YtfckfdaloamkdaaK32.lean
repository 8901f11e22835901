/- Contracts: which lists of numbers are the same, by the reference. -/
import Derived.Test.YtfckfdaloamkdaaK6
import Derived.Test.YtfckfdaloamkdaaGen
import Derived.Deep.QuietTactic
import Derived.BigQuiet
namespace Go.Proofs.Ytfckfdaloamkdaa
set_option linter.unusedSimpArgs false
set_option linter.unusedVariables false
set_option maxRecDepth 100000
set_option maxHeartbeats 4000000
open Go.RowKit
attribute [local go_sem] run_store_float run_store_complex alloc_drewN setCell_drewN

theorem SB.getX {w : World} {v : Value} {cs : List Nat} (h : SB w v cs) {n : Nat} (hn : cs.length = n) : ∃ ao c, v = .slice ao n c ∧ n ≤ c ∧ c ≤ 9223372036854775807 ∧ ∀ i, i < n → ∃ b off r, ao = some ⟨b, off, none⟩ ∧ b < w.heap.size ∧ w.cell? ⟨b, off + i, none⟩ = some (.float .f32 r) ∧ r < 4294967296 ∧ cn .f32 r = cs.getD i 0 := by
  obtain ⟨ao, c, xs, rfl, rfl, h3, h5, h4⟩ := h
  have hn' : xs.length = n := by simpa using hn
  subst hn'
  refine ⟨ao, c, rfl, h3.1, h3.2, fun i hi => ?_⟩
  obtain ⟨b, off, e1, e2, e3⟩ := h4 i hi
  exact ⟨b, off, xs[i], e1, e2, e3, h5 _ (List.getElem_mem hi), by simp [hi]⟩
theorem list_same {cs ds : List Nat} (hl : cs.length = ds.length) (h : ∀ i, i < cs.length → cs.getD i 0 = ds.getD i 0) : (cs == ds) = true := by
  rw [beq_iff_eq]
  refine List.ext_getElem hl fun i h1 h2 => ?_
  have := h i h1
  simpa [h1, h2] using this
theorem list_other {cs ds : List Nat} {k : Nat} (h : cs.getD k 0 ≠ ds.getD k 0) : (cs == ds) = false := by
  cases e : cs == ds
  · rfl
  · rw [beq_iff_eq] at e; subst e; exact absurd rfl h
theorem list_longer {cs ds : List Nat} (h : cs.length ≠ ds.length) : (cs == ds) = false := by
  cases e : cs == ds
  · rfl
  · rw [beq_iff_eq] at e; subst e; exact absurd rfl h

theorem s_l01SameAll (u v : Value) (cs ds : List Nat) (w : World) (hu : SB w u cs) (hv : SB w v ds) :
    Calls Try.prog 50 #[u, v] w fun e w' => e = .returned (.bool (cs == ds)) ∧ Dr w w' := by
  by_cases hl : cs.length = ds.length
  · obtain ⟨ao, c, rfl, hc1, hc2, hget⟩ := hu.getX rfl
    obtain ⟨bo, d, rfl, hd1, hd2, hget2⟩ := hv.getX hl.symm
    have HG := Lib.hid hget
    have HG2 := Lib.hid hget2
    have HL := Lib.hid hl
    clear hget hget2 hl hu hv
    go_enter Try.func50, Try.ntmps50
    go_wp2_with fail
    go_loopw [5] (fun i wr => ∃ k : Nat, k ≤ cs.length ∧ i = .int .i64 k ∧ Hid (∀ i, i < k → cs.getD i 0 = ds.getD i 0) ∧ ∃ d, wr = w.drewN d) (fun i _ => cs.length - (intOf i).toNat)
    case atStart => exact ⟨0, Nat.zero_le _, rfl, (by intro i hi; omega), 0, rfl⟩
    case round =>
      obtain ⟨k, hk, rfl, H1, dn, rfl⟩ := hrel
      by_cases hlt : k < cs.length
      · obtain ⟨b, off, x, rfl, hbl, hc, hx, hcx⟩ := HG.out k hlt
        obtain ⟨b2, off2, y, rfl, hbl2, hd, hy, hcy⟩ := HG2.out k hlt
        have HX := Lib.hid hcx
        have HY := Lib.hid hcy
        clear hcx hcy
        cases hp : same (cn .f32 x) (cn .f32 y)
        all_goals
          have HP := Lib.hid hp
          have HQ := Lib.hid (fun n => s_l01Same x y hx hy (w.drewN n))
          rw [hp] at HQ
          clear hp
          go_wp2_with fail
          go_quiet ((go_at_call 91; first | exact quiet_dr (HQ.out _) | exact quiet_dr2 (HQ.out _)))
          go_wp2_with fail
        · go_ret
          refine ⟨ret_bool (list_other (k := k) ?_).symm, by first | exact ⟨_, rfl⟩ | exact ⟨_, (World.drewN_drewN ..).symm⟩⟩
          rw [← HX.out, ← HY.out]
          have h := HP.out
          unfold same at h
          simpa using h
        · refine ⟨⟨k + 1, by omega, by go_num, ?_, by first | exact ⟨_, rfl⟩ | exact ⟨_, (World.drewN_drewN ..).symm⟩⟩, by simp [intOf]; omega⟩
          intro i hi
          rcases Nat.lt_or_ge i k with h | h
          · exact H1.out i h
          · obtain rfl : i = k := by omega
            rw [← HX.out, ← HY.out]
            have h := HP.out
            unfold same at h
            simpa using h
      · go_wp2_with fail
        go_ret
        obtain rfl : k = cs.length := by omega
        exact ⟨ret_bool (list_same HL.out H1.out).symm, _, rfl⟩
  · obtain ⟨ao, c, rfl, hlen⟩ := hu.sl.slice
    obtain ⟨bo, d, rfl, hlen2⟩ := hv.sl.slice
    have hl2 : ((cs.length : Int) != (ds.length : Int)) = true := by simp; omega
    have HN := Lib.hid (list_longer hl)
    clear hl
    go_enter Try.func50, Try.ntmps50
    go_wp2_with fail
    go_ret
    exact ⟨ret_bool HN.out.symm, Dr.refl _⟩

end Go.Proofs.Ytfckfdaloamkdaa
