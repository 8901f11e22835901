/- Contracts: series, sums and means. -/
import Derived.Test.YtkkomajokdlkeaaK5
namespace Go.Proofs.Ytkkomajokdlkeaa
set_option linter.unusedSimpArgs false
set_option linter.unusedVariables false
set_option maxRecDepth 100000
set_option maxHeartbeats 4000000
open Go.RowKit
attribute [local go_sem] run_store_float run_store_complex alloc_drewN setCell_drewN

/-- A series: 1 to 96 finite numbers. -/
def series (cs : List Nat) : Bool := decide (1 ≤ cs.length) && decide (cs.length ≤ 96) && allFin cs
def meanL (cs : List Nat) : Nat := divF (sumL cs) (fI cs.length)
theorem SL.slice {w : World} {v : Value} {cs : List Nat} (h : SL w v cs) : ∃ ao c, v = .slice ao cs.length c ∧ cs.length ≤ 9223372036854775807 := by
  obtain ⟨ao, c, xs, rfl, rfl, h3, _⟩ := h
  exact ⟨ao, c, by simp, by simp; omega⟩
theorem allFin_take {cs : List Nat} {k : Nat} (hk : k < cs.length) (h1 : allFin (cs.take k) = true) (h2 : fin cs[k] = true) : allFin (cs.take (k + 1)) = true := by
  unfold allFin at *
  rw [take_snoc cs k hk, List.all_append, h1]; simp [h2]
theorem allFin_no {cs : List Nat} {k : Nat} (hk : k < cs.length) (h2 : fin cs[k] = false) : allFin cs = false := by
  unfold allFin
  rw [List.all_eq_false]
  exact ⟨cs[k], List.getElem_mem hk, by simp [h2]⟩


theorem s_l02Finite (v : Value) (cs : List Nat) (w : World) (hv : SL w v cs) :
    Calls Try.prog 64 #[v] w fun e w' => e = .returned (.bool (allFin cs)) ∧ Dr w w' := by
  obtain ⟨ao, c, xs, rfl, hcs, hlen, hcell⟩ := hv
  have hl : xs.length = cs.length := by rw [← hcs]; simp
  have HL := Lib.hid hl
  have HCS := Lib.hid hcs
  have HC := Lib.hid hcell
  clear hcell hcs hl
  go_enter Try.func64, Try.ntmps64
  go_wp2_with fail
  go_loopw [3] (fun i wr => ∃ k : Nat, k ≤ xs.length ∧ i = .int .i64 k ∧ Hid (allFin (cs.take k) = true) ∧ ∃ d, wr = w.drewN d) (fun i _ => xs.length - (intOf i).toNat)
  case atStart => exact ⟨0, Nat.zero_le _, rfl, by simp [Hid, allFin], 0, rfl⟩
  case round =>
    obtain ⟨k, hk, rfl, H1, d, rfl⟩ := hrel
    by_cases hlt : k < xs.length
    · obtain ⟨b, off, rfl, hb, hc⟩ := HC.out k hlt
      have hlt2 : k < cs.length := by have := HL.out; omega
      have hk2 : cn .f32 xs[k] = cs[k] := by simp [← HCS.out]
      cases hp : fin (cn .f32 xs[k])
      all_goals
        have HP := Lib.hid hp
        have HK := Lib.hid hk2
        clear hp hk2
        go_wp2_with (go_at_call 69; refine (s_l01Finite _ _).mono ?_; rintro e w1 ⟨rfl, n, rfl⟩; rw [HP.out])
      · go_ret
        refine ⟨ret_bool ?_, _, rfl⟩
        rw [allFin_no hlt2 (by rw [← HK.out]; exact HP.out)]
      · refine ⟨⟨k + 1, by omega, by go_num, ?_, _, rfl⟩, by simp [intOf]; omega⟩
        exact allFin_take hlt2 H1.out (by rw [← HK.out]; exact HP.out)
    · go_wp2_with fail
      go_ret
      refine ⟨ret_bool ?_, _, rfl⟩
      have h1 := H1.out
      rw [List.take_of_length_le (by have := HL.out; omega)] at h1
      exact h1.symm


theorem s_l02Series (v : Value) (cs : List Nat) (w : World) (hv : SL w v cs) :
    Calls Try.prog 65 #[v] w fun e w' => e = .returned (.bool (series cs)) ∧ Dr w w' := by
  obtain ⟨ao, c, rfl, hlen⟩ := hv.slice
  by_cases h1 : 1 ≤ cs.length
  all_goals
    by_cases h2 : cs.length ≤ 96
    all_goals
      have a1 : (1 : Int) ≤ (cs.length : Int) ↔ 1 ≤ cs.length := by omega
      go_enter Try.func65, Try.ntmps65
      go_wp2_with (go_at_call 64; refine (s_l02Finite _ cs _ hv).mono ?_; rintro e w1 ⟨rfl, n, rfl⟩)
      all_goals
        go_ret
        refine ⟨ret_bool ?_, by first | exact Dr.refl _ | exact Dr.mk _ _⟩
        simp [series, h1, h2]

theorem i_IsSeries (v : Value) (cs : List Nat) (w : World) (hv : SL w v cs) :
    Calls Try.prog 60 #[v] w fun e w' => e = .returned (.bool (series cs)) ∧ Dr w w' := by
  obtain ⟨ao, c, rfl, hlen⟩ := hv.slice
  by_cases h1 : 1 ≤ cs.length
  all_goals
    by_cases h2 : cs.length ≤ 96
    all_goals
      have a1 : (1 : Int) ≤ (cs.length : Int) ↔ 1 ≤ cs.length := by omega
      go_enter Try.func60, Try.ntmps60
      go_wp2_with (go_at_call 81; refine (i_areFinite _ cs _ hv).mono ?_; rintro e w1 ⟨rfl, n, rfl⟩)
      all_goals
        go_ret
        refine ⟨ret_bool ?_, by first | exact Dr.refl _ | exact Dr.mk _ _⟩
        simp [series, h1, h2]

theorem i_addUp (v : Value) (cs : List Nat) (w : World) (hv : SL w v cs) :
    Calls Try.prog 116 #[v] w fun e w' => (∃ r, e = .returned (.float .f32 r) ∧ r < 4294967296 ∧ cn .f32 r = sumL cs) ∧ ∃ n, w.drewN n = w' := by
  obtain ⟨ao, c, xs, rfl, rfl, hlen, hcell⟩ := hv
  have HC := Lib.hid hcell
  clear hcell
  go_enter Try.func116, Try.ntmps116
  go_wp2_with fail
  go_loopw [3, 8] (fun s i wr => ∃ k : Nat, k ≤ xs.length ∧ i = .int .i64 k ∧ (∃ r, s = .float .f32 r ∧ r < 4294967296 ∧ Hid (cn .f32 r = sumL ((xs.map (cn .f32)).take k))) ∧ ∃ d, wr = w.drewN d) (fun _ i _ => xs.length - (intOf i).toNat)
  case atStart => exact ⟨0, Nat.zero_le _, rfl, ⟨0, rfl, by omega, by rw [List.take_zero]; exact cn0⟩, 0, rfl⟩
  case round =>
    obtain ⟨k, hk, rfl, ⟨r, rfl, hr0, hr⟩, d, rfl⟩ := hrel
    by_cases hlt : k < xs.length
    · obtain ⟨b, off, rfl, hb, hc⟩ := HC.out k hlt
      go_wp2_with (refine wpList_ar .f32 _ _ rfl rfl rfl ?_; intro r1 n1 hr1 hlt1)
      refine ⟨⟨k + 1, by omega, by go_num, ⟨r1, rfl, hlt1, ?_⟩, _, rfl⟩, by simp [intOf]; omega⟩
      show _ = _
      rw [take_map_snoc _ _ _ hlt, sumL_snoc, hr1, hr.out]; rfl
    · go_wp2_with fail
      go_ret
      refine ⟨⟨r, rfl, hr0, ?_⟩, _, rfl⟩
      rw [hr.out, List.take_of_length_le (by simp; omega)]

theorem s_l07Sum (v : Value) (cs : List Nat) (w : World) (hv : SL w v cs) :
    Calls Try.prog 134 #[v] w fun e w' => (∃ r, e = .returned (.float .f32 r) ∧ r < 4294967296 ∧ cn .f32 r = sumL cs) ∧ ∃ n, w.drewN n = w' := by
  obtain ⟨ao, c, xs, rfl, rfl, hlen, hcell⟩ := hv
  have HC := Lib.hid hcell
  clear hcell
  go_enter Try.func134, Try.ntmps134
  go_wp2_with fail
  go_loopw [3, 7] (fun s i wr => ∃ k : Nat, k ≤ xs.length ∧ i = .int .i64 k ∧ (∃ r, s = .float .f32 r ∧ r < 4294967296 ∧ Hid (cn .f32 r = sumL ((xs.map (cn .f32)).take k))) ∧ ∃ d, wr = w.drewN d) (fun _ i _ => xs.length - (intOf i).toNat)
  case atStart => exact ⟨0, Nat.zero_le _, rfl, ⟨0, rfl, by omega, by rw [List.take_zero]; exact cn0⟩, 0, rfl⟩
  case round =>
    obtain ⟨k, hk, rfl, ⟨r, rfl, hr0, hr⟩, d, rfl⟩ := hrel
    by_cases hlt : k < xs.length
    · obtain ⟨b, off, rfl, hb, hc⟩ := HC.out k hlt
      go_wp2_with (refine wpList_ar .f32 _ _ rfl rfl rfl ?_; intro r1 n1 hr1 hlt1)
      refine ⟨⟨k + 1, by omega, by go_num, ⟨r1, rfl, hlt1, ?_⟩, _, rfl⟩, by simp [intOf]; omega⟩
      show _ = _
      rw [take_map_snoc _ _ _ hlt, sumL_snoc, hr1, hr.out]; rfl
    · go_wp2_with fail
      go_ret
      refine ⟨⟨r, rfl, hr0, ?_⟩, _, rfl⟩
      rw [hr.out, List.take_of_length_le (by simp; omega)]

theorem i_mean (v : Value) (cs : List Nat) (w : World) (hv : SL w v cs) :
    Calls Try.prog 75 #[v] w fun e w' => (∃ r, e = .returned (.float .f32 r) ∧ r < 4294967296 ∧ cn .f32 r = meanL cs) ∧ ∃ n, w.drewN n = w' := by
  obtain ⟨ao, c, rfl, hlen⟩ := hv.slice
  go_enter Try.func75, Try.ntmps75
  go_wp2_with (first | (go_at_call 116; refine (i_addUp _ cs _ hv).mono ?_; rintro e w1 ⟨⟨r, rfl, hr, hs⟩, n, rfl⟩; have HS := Lib.hid hs; clear hs) | (refine wpList_ar .f32 _ _ rfl rfl rfl ?_; intro r1 n1 hr1 hlt1; have HR := Lib.hid hr1; clear hr1))
  go_ret
  refine ⟨⟨_, rfl, by assumption, ?_⟩, _, rfl⟩
  rw [HR.out, HS.out]
  show divF _ (cn .f32 (floatOfInt .f32 _)) = _
  rw [show cn .f32 (floatOfInt .f32 (cs.length : Int)) = fI cs.length from cn_fI _]; rfl

theorem i_ifAll (v : Value) (cs : List Nat) (w : World) (hv : SL w v cs) :
    Calls Try.prog 76 #[v] w fun e w' => GV v cs e ∧ Dr w w' := by
  cases hp : allFin cs
  all_goals
    have HP := Lib.hid hp
    clear hp
    go_enter Try.func76, Try.ntmps76
    go_wp2_with (go_at_call 81; refine (i_areFinite _ cs _ hv).mono ?_; rintro e w1 ⟨rfl, n, rfl⟩; rw [HP.out])
    go_ret2
    exact ⟨⟨_, _, rfl, by rw [HP.out]; rfl, HP.out.symm⟩, Dr.mk _ _⟩

theorem i_isForth (n : Int) (w : World) : Calls Try.prog 78 #[.int .i64 n] w fun e w' => e = .returned (.bool (inB n 0 32)) ∧ Dr w w' := by
  go_enter Try.func78, Try.ntmps78
  go_wp2_with (go_at_call 56; refine (i_within _ _ _ _).mono ?_; rintro e w1 ⟨rfl, n, rfl⟩)
  go_ret
  exact ⟨rfl, _, rfl⟩

theorem i_isPeriodOf (v : Value) (cs : List Nat) (p : Int) (w : World) (hv : SL w v cs) :
    Calls Try.prog 74 #[v, .int .i64 p] w fun e w' => e = .returned (.bool (series cs && inB p 1 cs.length)) ∧ Dr w w' := by
  obtain ⟨ao, c, rfl, hlen⟩ := hv.slice
  cases hp : series cs
  all_goals
    have HP := Lib.hid hp
    clear hp
    go_enter Try.func74, Try.ntmps74
    go_wp2_with (first | (go_at_call 60; refine (i_IsSeries _ cs _ hv).mono ?_; rintro e w1 ⟨rfl, n, rfl⟩; rw [HP.out]) | (go_at_call 56; refine (i_within _ _ _ _).mono ?_; rintro e w1 ⟨rfl, n, rfl⟩))
    go_ret
    exact ⟨rfl, _, rfl⟩

end Go.Proofs.Ytkkomajokdlkeaa
